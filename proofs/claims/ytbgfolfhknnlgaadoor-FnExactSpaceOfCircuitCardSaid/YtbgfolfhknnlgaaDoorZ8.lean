/- Lemmas on the program and on partial functions that stand in place of its code (part 8); no condition beyond those that each one states. -/
import Derived.Test.YtbgfolfhknnlgaaDoorZ7
namespace Go.Proofs.YtbgfolfhknnlgaaDoor
open Go.RowKit Go.Deep
set_option maxRecDepth 4000
def m_laws_eqIntSS_l1 : AC :=
 (.seq (.seq (rg [xo 11 (qm (tm 5)), xo 12 (qm (tm 0)), xo 13 (.i (.len (tm 12))), xo 14 (qb .lss (tm 11) (tm 13))])
 (.cond (tm 14)
  .skip
  (.exit 0)))
 (.seq (.block 1 (.seq (.region [xo 17 (qm (tm 0)), xo 18 (qm (tm 5)), xo 19 (qx 1 (tm 17) (tm 18)), xo 20 (ql (tm 19)), xo 21 (qm (tm 1)), xo 22 (qm (tm 5)), xo 23 (qx 1 (tm 21) (tm 22)), xo 24 (ql (tm 23)), xo 25 (qc 24 [(tm 20), (tm 24)] [[(some .int)], [(some .int)]]), xo 26 (.i (.not (tm 25)))] true [])
 (.cond (tm 26)
  (.seq (rg [xo 4 (qm (cb false))])
  .ret)
  .skip)))
 (rg [xo 15 (qm (tm 5)), xo 16 (qb .add (tm 15) (ci 1)), xo 5 (qm (tm 16))])))
def m_laws_eqIntSS : AC :=
 (.seq (rg [xo 4 (qm (cb false))])
 (.seq (.seq (rg [xo 6 (qm (tm 0)), xo 7 (.i (.len (tm 6))), xo 8 (qm (tm 1)), xo 9 (.i (.len (tm 8))), xo 10 (qb .neq (tm 7) (tm 9))])
 (.cond (tm 10)
  (.seq (rg [xo 4 (qm (cb false))])
  .ret)
  .skip))
 (.seq (.seq (rg [xo 5 (qm (ci 0))])
 (.block 0 (.loop m_laws_eqIntSS_l1)))
 (.seq (rg [xo 4 (qm (cb true))])
 .ret))))
def r_laws_eqIntSS : List Res := [.tmp 4]
theorem c_laws_eqIntSS : compiled Tryd.prog Tryd.f22 = some (m_laws_eqIntSS, r_laws_eqIntSS) := by kernel_rfl
theorem hb_laws_eqIntSS : hasBody Tryd.prog 22 = true := by kernel_rfl
def L_laws_eqIntSS_l1 (a0 : List (List Int)) (a1 : List (List Int)) (l8_m5 : Nat) : Option (Ctl Nat (Ctl Unit Bool)) :=
 cond (decide (((l8_m5 : Nat) : Int) < ((a0.length : Nat) : Int)))
 (Option.bind (a0[l8_m5]?) fun x14 =>
 Option.bind (a1[l8_m5]?) fun x15 =>
 Option.bind (L_laws_eqIntS x14 x15) fun y16 =>
 cond (!y16)
  (some (Ctl.out (Ctl.out false)))
  (og (l8_m5 + 1 < 4611686018427387904) <|
  some (Ctl.next (l8_m5 + 1))))
 (some (Ctl.out (Ctl.next ())))
def L_laws_eqIntSS (a0 : List (List Int)) (a1 : List (List Int)) : Option Bool :=
 cond (((a0.length : Nat) : Int) != ((a1.length : Nat) : Int))
 (some false)
 (seqC (loopM (fun s_ : Nat => L_laws_eqIntSS_l1 a0 a1 s_) 4611686018427387904 0) fun _ =>
 some true)
def rv_laws_eqIntSS (r : Bool) : RV := ⟨false, [(false, [.sc (.bool r)])]⟩
theorem ok_laws_eqIntSS {a0 : List (List Int)} {a1 : List (List Int)} {r : Bool} (h : L_laws_eqIntSS a0 a1 = some r) : CallOK Tryd.prog Tab 22 [(.tree (.slice .int) a0), (.tree (.slice .int) a1)] (rv_laws_eqIntSS r) := by
 refine call_of_ (by kernel_rfl) Tryd.func22 c_laws_eqIntSS (n := 27) (by kernel_rfl) (by simp) (tl := [(0, (.tree (.slice .int) a0)), (1, (.tree (.slice .int) a1))]) rfl ?_
 unfold m_laws_eqIntSS
 unfold L_laws_eqIntSS at h
 refine seqR ?_
 refine awp_seqv_ ?_
 refine seqR ?_
 rcases cond_some h with ⟨q4, h⟩ | ⟨q4, h⟩
 ·refine awp_condT_ q4 ?_
  refine seqR ?_
  refine awp_ret_ (tr_ ?_)
  obtain rfl := Option.some.inj h
  exact ret_ [(.bool false)] (p_one rfl (l_sc (by kernel_rfl)) p_nil)
 refine awp_condF_ q4 ?_
 refine awp_skip_ (tn_ ?_)
 refine ⟨_, Weak.refl _, ?_⟩
 refine awp_seqC h (fun (_ : Unit) S_ => S_ = ⟨mkTm [], mkOb (someL []), 2⟩) ?_ ?_
 ·intro v_ h hk6
  refine seqR ?_
  refine awp_block_ ?_
  refine awp_loopL h (fun (l8_m5 : Nat) S_ => S_ = ⟨mkTm [(0, (.tree (.slice .int) a0)), (1, (.tree (.slice .int) a1)), (5, (ai ((l8_m5 : Nat) : Int)))], mkOb (someL []), 2⟩) ⟨_, (weak_ren []), rfl⟩ ?_
  rintro n_ l8_m5 _ c_ rfl h hn8
  (try dsimp only at h)
  unfold L_laws_eqIntSS_l1 at h
  unfold m_laws_eqIntSS_l1
  refine awp_seqv_ ?_
  refine seqR ?_
  rcases cond_some h with ⟨q11, h⟩ | ⟨q11, h⟩
  ·have q11_ := of_decide_eq_true q11
   refine awp_condT_ q11 ?_
   refine awp_skip_ (tn_ ?_)
   refine ⟨_, Weak.refl _, ?_⟩
   refine awp_seqv_ ?_
   refine awp_block_ ?_
   refine awp_seqv_ ?_
   obtain ⟨x14, e14, h⟩ := ob_some h
   obtain ⟨x15, e15, h⟩ := ob_some h
   obtain ⟨y16, h16, h⟩ := ob_some h
   refine awp_regionD_ 16 ?_
   refine ds0 (.tree (.slice .int) a0) (by kernel_rfl) ?_
   refine ds0 (ai ((l8_m5 : Nat) : Int)) (by kernel_rfl) ?_
   refine ds0 (.telt (.slice .int) x14 0) (s_idxT (t := (.slice .int)) (xs := a0) (k := .i64) (m := ((l8_m5 : Nat) : Int)) (by kernel_rfl) (by kernel_rfl) rfl (nat_nn _) rfl e14) ?_
   refine ds0 (.tree .int x14) (by kernel_rfl) ?_
   refine ds0 (.tree (.slice .int) a1) (by kernel_rfl) ?_
   refine ds0 (ai ((l8_m5 : Nat) : Int)) (by kernel_rfl) ?_
   refine ds0 (.telt (.slice .int) x15 0) (s_idxT (t := (.slice .int)) (xs := a1) (k := .i64) (m := ((l8_m5 : Nat) : Int)) (by kernel_rfl) (by kernel_rfl) rfl (nat_nn _) rfl e15) ?_
   refine ds0 (.tree .int x15) (by kernel_rfl) ?_
   refine dcall (.bool y16) [] [(.tree .int x14), (.tree .int x15)] _ (caps := []) (args0 := [(.tree .int x14), (.tree .int x15)]) trivial (by kernel_rfl) (ok_laws_eqIntS h16) hb_laws_eqIntS ?_
   refine ds0 (.bool (!y16)) (by kernel_rfl) ?_
   refine dnil (badB_spec (by kernel_rfl)) (tn_ ?_)
   refine ⟨_, Weak.refl _, ?_⟩
   rcases cond_some h with ⟨q17, h⟩ | ⟨q17, h⟩
   ·refine awp_condT_ q17 ?_
    refine seqR ?_
    refine awp_ret_ (br_ (tr_ (tr_ (br_ (tr_ ?_)))))
    obtain rfl := Option.some.inj h
    have h := hn8
    (try dsimp only at h)
    obtain rfl := Option.some.inj h
    have h := hk6
    (try dsimp only at h)
    obtain rfl := Option.some.inj h
    exact ret_ [(.bool false)] (p_one rfl (l_sc (by kernel_rfl)) p_nil)
   refine awp_condF_ q17 ?_
   refine awp_skip_ (bn_ (tn_ ?_))
   refine ⟨_, Weak.refl _, ?_⟩
   obtain ⟨g19, h⟩ := og_some h
   refine awp_region_ 19 ?_
   refine rs0 (ai ((l8_m5 : Nat) : Int)) (by kernel_rfl) ?_
   refine rs0 (ai ((l8_m5 + 1 : Nat) : Int)) (s_add1 (j := l8_m5) (by kernel_rfl) (by kernel_rfl) g19) ?_
   refine rsB 1 ?_
   refine rnil (tn_ ?_)
   obtain rfl := Option.some.inj h
   exact ⟨l8_m5 + 1, _, (weak_ren []), rfl, hn8⟩
  have q11_ := of_decide_eq_false q11
  refine awp_condF_ q11 ?_
  refine awp_exit_ (te_ (te_ (be_ (tn_ ?_))))
  obtain rfl := Option.some.inj h
  have h := hn8
  (try dsimp only at h)
  obtain rfl := Option.some.inj h
  exact ⟨(), _, rfl, (weak_ren []), rfl⟩
 rintro _ _ rfl h
 (try dsimp only at h)
 refine seqR ?_
 refine awp_ret_ ?_
 obtain rfl := Option.some.inj h
 exact ret_ [(.bool true)] (p_one rfl (l_sc (by kernel_rfl)) p_nil)
def m_laws_markIntSS_l1 : AC :=
 (.seq (.seq (rg [xo 6 (qm (tm 5)), xo 7 (qm (tm 0)), xo 8 (.i (.len (tm 7))), xo 9 (qb .lss (tm 6) (tm 8))])
 (.cond (tm 9)
  .skip
  (.exit 0)))
 (.seq (.block 1 (rg [xo 12 (qm (tm 0)), xo 13 (qm (tm 5)), xo 14 (qx 1 (tm 12) (tm 13)), xo 15 (ql (tm 14)), xo 16 (qm (tm 1)), xo 17 (qc 26 [(tm 15), (tm 16)] [[(some .int)], []]), xo 1 (qm (tm 17))]))
 (rg [xo 10 (qm (tm 5)), xo 11 (qb .add (tm 10) (ci 1)), xo 5 (qm (tm 11))])))
def m_laws_markIntSS : AC :=
 (.seq (rg [xo 4 (qm (ci 0))])
 (.seq (.seq (rg [xo 5 (qm (ci 0))])
 (.block 0 (.loop m_laws_markIntSS_l1)))
 (.seq (rg [xo 18 (qm (tm 1)), xo 4 (qm (tm 18))])
 .ret)))
def r_laws_markIntSS : List Res := [.tmp 4]
theorem c_laws_markIntSS : compiled Tryd.prog Tryd.f27 = some (m_laws_markIntSS, r_laws_markIntSS) := by kernel_rfl
theorem hb_laws_markIntSS : hasBody Tryd.prog 27 = true := by kernel_rfl
def L_laws_markIntSS_l1  (l5_m1 : Int) (l5_m5 : Nat) (l5_m0 : List (List Int)) : Option (Ctl (Int × Nat × List (List Int)) (Int × List (List Int))) :=
 cond (decide (((l5_m5 : Nat) : Int) < ((l5_m0.length : Nat) : Int)))
 (Option.bind (l5_m0[l5_m5]?) fun x10 =>
 Option.bind (L_laws_markIntS x10 l5_m1) fun y11 =>
 og (y11.1.length = x10.length) <|
 og (l5_m5 + 1 < 4611686018427387904) <|
 some (Ctl.next (y11.2, l5_m5 + 1, l5_m0.set l5_m5 y11.1)))
 (some (Ctl.out (l5_m1, l5_m0)))
def L_laws_markIntSS (a0 : List (List Int)) (a1 : Int) : Option (List (List Int) × Int) :=
 Option.bind (loopM (fun s_ : Int × Nat × List (List Int) => L_laws_markIntSS_l1 s_.1 s_.2.1 s_.2.2) 4611686018427387904 (a1, 0, a0)) fun (l3_m1, l3_p0) =>
some (l3_p0, l3_m1)
theorem ok_laws_markIntSS {a0 : List (List Int)} {a1 : Int} {r : List (List Int) × Int} (h : L_laws_markIntSS a0 a1 = some r) {n_a0 : Nat} (hn_a0 : n_a0 = a0.length) : CallM Tryd.prog Tab 27 [(.own (oi 0 0) (.slice .int) 0 n_a0), (ai a1)] [((oi 0 0), .mat 23 (oi 1 0) .int a0), ((oi 1 0), .pool 3 .int a0)] (ai r.2) [((oi 0 0), .mat 23 (oi 0 1) .int r.1), ((oi 0 1), .pool 3 .int r.1)] := by
 refine callM_of_ (by kernel_rfl) Tryd.func27 c_laws_markIntSS (n := 19) (by kernel_rfl) (by simp) (tl := [(0, (.own (oi 0 0) (.slice .int) 0 n_a0)), (1, (ai a1))]) rfl (by kernel_rfl) ⟨⟨3, (.tail _ (.head _))⟩, ⟨trivial, trivial⟩⟩ ⟨⟨3, (.tail _ (.head _))⟩, ⟨trivial, trivial⟩⟩ ?_
 unfold m_laws_markIntSS
 unfold L_laws_markIntSS at h
 refine seqR ?_
 refine awp_seqB h (fun t_ S_ => ∃ (l3_m1 : Int), ∃ (l3_p0 : List (List Int)), t_ = (l3_m1, l3_p0) ∧ S_ = ⟨mkTm [(1, (ai l3_m1))], mkOb (someL [((oi 0 0), .mat 23 (oi 0 1) .int l3_p0), ((oi 0 1), .pool 3 .int l3_p0)]), 2⟩) ?_ ?_
 ·intro v_ h
  refine seqR ?_
  refine awp_block_ ?_
  refine awp_loopL h (fun t_ S_ => ∃ (l5_m1 : Int), ∃ (l5_m5 : Nat), ∃ (l5_m0 : List (List Int)), t_ = (l5_m1, l5_m5, l5_m0) ∧ S_ = ⟨mkTm [(0, (.own (oi 0 0) (.slice .int) 0 l5_m0.length)), (1, (ai l5_m1)), (5, (ai ((l5_m5 : Nat) : Int)))], mkOb (someL [((oi 0 0), .mat 23 (oi 0 1) .int l5_m0), ((oi 0 1), .pool 3 .int l5_m0)]), 2⟩) ⟨_, ((weak_tm_ 0 (.own (oi 0 0) (.slice .int) 0 n_a0) (.own (oi 0 0) (.slice .int) 0 a0.length) (by kernel_rfl) (congrArg (fun z_ => ((.own (oi 0 0) (.slice .int) 0 z_) : AV)) (hn_a0 : n_a0 = a0.length))).trans (weak_ren [((oi 0 1), (oi 1 0))])), ⟨a1, 0, a0, rfl, rfl⟩⟩ ?_
  rintro n_ _ _ c_ ⟨l5_m1, l5_m5, l5_m0, rfl, rfl⟩ h hn5
  (try dsimp only at h)
  unfold L_laws_markIntSS_l1 at h
  unfold m_laws_markIntSS_l1
  refine awp_seqv_ ?_
  refine seqR ?_
  rcases cond_some h with ⟨q8, h⟩ | ⟨q8, h⟩
  ·have q8_ := of_decide_eq_true q8
   refine awp_condT_ q8 ?_
   refine awp_skip_ (tn_ ?_)
   refine ⟨_, Weak.refl _, ?_⟩
   refine awp_seqv_ ?_
   refine awp_block_ ?_
   obtain ⟨x10, e10, h⟩ := ob_some h
   obtain ⟨y11, h11, h⟩ := ob_some h
   obtain ⟨g12, h⟩ := og_some h
   refine awp_region_ 13 ?_
   refine rs0 (.own (oi 0 0) (.slice .int) 0 l5_m0.length) (by kernel_rfl) ?_
   refine rs0 (ai ((l5_m5 : Nat) : Int)) (by kernel_rfl) ?_
   refine rs0 (.elt (oi 0 0) l5_m5 0) (s_idxO (t := (.slice .int)) (o := (oi 0 0)) (len := l5_m0.length) (k := .i64) (m := ((l5_m5 : Nat) : Int)) (by kernel_rfl) (by kernel_rfl) rfl (nat_nn _) rfl (getN_lt e10)) ?_
   refine rsl (.own (kid (oi 0 1) l5_m5) .int 0 x10.length) (s_ldM (o := (oi 0 0)) (p := (oi 0 1)) (e1 := 23) (u := .int) (xss := l5_m0) (row := x10) (j := l5_m5) (by kernel_rfl) (by kernel_rfl) e10) ?_
   refine rs0 (ai l5_m1) (by kernel_rfl) ?_
   refine rcallM (ai y11.2) [((kid (oi 0 1) l5_m5), some (.arr 3 .int y11.1)), ((kid (oi 0 1) l5_m5), none)] [((oi 0 0), (kid (oi 0 1) l5_m5))] [(.own (kid (oi 0 1) l5_m5) .int 0 x10.length), (ai l5_m1)] (caps := []) trivial (ok_laws_markIntS h11 rfl) hb_laws_markIntS ⟨(entAt_kid (by kernel_rfl) e10), trivial⟩ (.cons (.ren (by kernel_rfl)) (.cons (.ren (by kernel_rfl)) .nil)) (reachL_mem (by kernel_rfl) (by kernel_rfl) ⟨(.arg (by simp [AV.nmsL, AV.nms, renF])), trivial⟩) ?_
   refine xw_ob (ob_row (o := (oi 0 0)) (p := (oi 0 1)) (e1 := 23) (e := 3) (u := .int) (xss := l5_m0) (k := l5_m5) (row := x10) (row' := y11.1) (by kernel_rfl) rfl (by kernel_rfl) e10 g12) ?_
   refine rsB 1 ?_
   refine rnil (bn_ (tn_ ?_))
   refine ⟨_, Weak.refl _, ?_⟩
   obtain ⟨g13, h⟩ := og_some h
   refine awp_region_ 16 ?_
   refine rs0 (ai ((l5_m5 : Nat) : Int)) (by kernel_rfl) ?_
   refine rs0 (ai ((l5_m5 + 1 : Nat) : Int)) (s_add1 (j := l5_m5) (by kernel_rfl) (by kernel_rfl) g13) ?_
   refine rsB 1 ?_
   refine rnil (tn_ ?_)
   obtain rfl := Option.some.inj h
   exact ⟨(y11.2, l5_m5 + 1, l5_m0.set l5_m5 y11.1), _, ((weak_tm_ 0 (.own (oi 0 0) (.slice .int) 0 l5_m0.length) (.own (oi 0 0) (.slice .int) 0 ((l5_m0.set l5_m5 y11.1).length)) (by kernel_rfl) (congrArg (fun z_ => ((.own (oi 0 0) (.slice .int) 0 z_) : AV)) ((Eq.trans (b := l5_m0.length) rfl List.length_set.symm) : l5_m0.length = (l5_m0.set l5_m5 y11.1).length))).trans (weak_ren [])), ⟨y11.2, l5_m5 + 1, l5_m0.set l5_m5 y11.1, rfl, rfl⟩, hn5⟩
  have q8_ := of_decide_eq_false q8
  refine awp_condF_ q8 ?_
  refine awp_exit_ (te_ (te_ (be_ (tn_ ?_))))
  obtain rfl := Option.some.inj h
  have h := hn5
  (try dsimp only at h)
  obtain rfl := Option.some.inj h
  exact ⟨_, (weak_ren []), ⟨l5_m1, l5_m0, rfl, rfl⟩⟩
 rintro _ _ ⟨l3_m1, l3_p0, rfl, rfl⟩ h
 (try dsimp only at h)
 refine seqR ?_
 refine awp_ret_ ?_
 obtain rfl := Option.some.inj h
 exact retM_ [(ai l3_m1)] (weak_ren (tl := [(4, (ai l3_m1))]) (g := 2) [])
def m_laws_heldIntSS_l1 : AC :=
 (.seq (.seq (rg [xo 6 (qm (tm 5)), xo 7 (qm (tm 0)), xo 8 (.i (.len (tm 7))), xo 9 (qb .lss (tm 6) (tm 8))])
 (.cond (tm 9)
  .skip
  (.exit 0)))
 (.seq (.block 1 (.seq (rg [xo 12 (qm (tm 0)), xo 13 (qm (tm 5)), xo 14 (qx 1 (tm 12) (tm 13)), xo 15 (ql (tm 14)), xo 16 (qm (tm 1)), xo 17 (qc 49 [(tm 15), (tm 16)] [[(some .int)], []]), xo 1 (qm (tm 17))])
 (.seq (rg [xo 18 (qm (tm 1)), xo 19 (qb .lss (tm 18) (ci 0))])
 (.cond (tm 19)
  (.seq (rg [xo 4 (qm (ci (-1)))])
  .ret)
  .skip))))
 (rg [xo 10 (qm (tm 5)), xo 11 (qb .add (tm 10) (ci 1)), xo 5 (qm (tm 11))])))
def m_laws_heldIntSS : AC :=
 (.seq (rg [xo 4 (qm (ci 0))])
 (.seq (.seq (rg [xo 5 (qm (ci 0))])
 (.block 0 (.loop m_laws_heldIntSS_l1)))
 (.seq (rg [xo 20 (qm (tm 1)), xo 4 (qm (tm 20))])
 .ret)))
def r_laws_heldIntSS : List Res := [.tmp 4]
theorem c_laws_heldIntSS : compiled Tryd.prog Tryd.f28 = some (m_laws_heldIntSS, r_laws_heldIntSS) := by kernel_rfl
theorem hb_laws_heldIntSS : hasBody Tryd.prog 28 = true := by kernel_rfl
def L_laws_heldIntSS_l1 (a0 : List (List Int)) (l4_m1 : Int) (l4_m5 : Nat) : Option (Ctl (Int × Nat) (Ctl Int Int)) :=
 cond (decide (((l4_m5 : Nat) : Int) < ((a0.length : Nat) : Int)))
 (Option.bind (a0[l4_m5]?) fun x10 =>
 Option.bind (L_laws_heldIntS x10 l4_m1) fun y11 =>
 cond (decide (y11 < 0))
  (some (Ctl.out (Ctl.out (-1))))
  (og (l4_m5 + 1 < 4611686018427387904) <|
  some (Ctl.next (y11, l4_m5 + 1))))
 (some (Ctl.out (Ctl.next l4_m1)))
def L_laws_heldIntSS (a0 : List (List Int)) (a1 : Int) : Option Int :=
 seqC (loopM (fun s_ : Int × Nat => L_laws_heldIntSS_l1 a0 s_.1 s_.2) 4611686018427387904 (a1, 0)) fun l2_m1 =>
some l2_m1
def rv_laws_heldIntSS (r : Int) : RV := ⟨false, [(false, [.sc (.int .i64 r)])]⟩
theorem ok_laws_heldIntSS {a0 : List (List Int)} {a1 : Int} {r : Int} (h : L_laws_heldIntSS a0 a1 = some r) : CallOK Tryd.prog Tab 28 [(.tree (.slice .int) a0), (ai a1)] (rv_laws_heldIntSS r) := by
 refine call_of_ (by kernel_rfl) Tryd.func28 c_laws_heldIntSS (n := 21) (by kernel_rfl) (by simp) (tl := [(0, (.tree (.slice .int) a0)), (1, (ai a1))]) rfl ?_
 unfold m_laws_heldIntSS
 unfold L_laws_heldIntSS at h
 refine seqR ?_
 refine awp_seqC h (fun (l2_m1 : Int) S_ => S_ = ⟨mkTm [(1, (ai l2_m1))], mkOb (someL []), 2⟩) ?_ ?_
 ·intro v_ h hk2
  refine seqR ?_
  refine awp_block_ ?_
  refine awp_loopL h (fun t_ S_ => ∃ (l4_m1 : Int), ∃ (l4_m5 : Nat), t_ = (l4_m1, l4_m5) ∧ S_ = ⟨mkTm [(0, (.tree (.slice .int) a0)), (1, (ai l4_m1)), (5, (ai ((l4_m5 : Nat) : Int)))], mkOb (someL []), 2⟩) ⟨_, (weak_ren []), ⟨a1, 0, rfl, rfl⟩⟩ ?_
  rintro n_ _ _ c_ ⟨l4_m1, l4_m5, rfl, rfl⟩ h hn4
  (try dsimp only at h)
  unfold L_laws_heldIntSS_l1 at h
  unfold m_laws_heldIntSS_l1
  refine awp_seqv_ ?_
  refine seqR ?_
  rcases cond_some h with ⟨q7, h⟩ | ⟨q7, h⟩
  ·have q7_ := of_decide_eq_true q7
   refine awp_condT_ q7 ?_
   refine awp_skip_ (tn_ ?_)
   refine ⟨_, Weak.refl _, ?_⟩
   refine awp_seqv_ ?_
   refine awp_block_ ?_
   refine awp_seqv_ ?_
   obtain ⟨x10, e10, h⟩ := ob_some h
   obtain ⟨y11, h11, h⟩ := ob_some h
   refine awp_region_ 13 ?_
   refine rs0 (.tree (.slice .int) a0) (by kernel_rfl) ?_
   refine rs0 (ai ((l4_m5 : Nat) : Int)) (by kernel_rfl) ?_
   refine rs0 (.telt (.slice .int) x10 0) (s_idxT (t := (.slice .int)) (xs := a0) (k := .i64) (m := ((l4_m5 : Nat) : Int)) (by kernel_rfl) (by kernel_rfl) rfl (nat_nn _) rfl e10) ?_
   refine rs0 (.tree .int x10) (by kernel_rfl) ?_
   refine rs0 (ai l4_m1) (by kernel_rfl) ?_
   refine rcall (ai y11) [] [(.tree .int x10), (ai l4_m1)] _ (caps := []) (args0 := [(.tree .int x10), (ai l4_m1)]) trivial (by kernel_rfl) (ok_laws_heldIntS h11) hb_laws_heldIntS ?_
   refine rsB 1 ?_
   refine rnil (tn_ ?_)
   refine ⟨_, Weak.refl _, ?_⟩
   refine seqR ?_
   rcases cond_some h with ⟨q13, h⟩ | ⟨q13, h⟩
   ·have q13_ := of_decide_eq_true q13
    refine awp_condT_ q13 ?_
    refine seqR ?_
    refine awp_ret_ (br_ (tr_ (tr_ (br_ (tr_ ?_)))))
    obtain rfl := Option.some.inj h
    have h := hn4
    (try dsimp only at h)
    obtain rfl := Option.some.inj h
    have h := hk2
    (try dsimp only at h)
    obtain rfl := Option.some.inj h
    exact ret_ [(ai (-1))] (p_one rfl (l_sc (by kernel_rfl)) p_nil)
   have q13_ := of_decide_eq_false q13
   refine awp_condF_ q13 ?_
   refine awp_skip_ (bn_ (tn_ ?_))
   refine ⟨_, Weak.refl _, ?_⟩
   obtain ⟨g15, h⟩ := og_some h
   refine awp_region_ 18 ?_
   refine rs0 (ai ((l4_m5 : Nat) : Int)) (by kernel_rfl) ?_
   refine rs0 (ai ((l4_m5 + 1 : Nat) : Int)) (s_add1 (j := l4_m5) (by kernel_rfl) (by kernel_rfl) g15) ?_
   refine rsB 1 ?_
   refine rnil (tn_ ?_)
   obtain rfl := Option.some.inj h
   exact ⟨(y11, l4_m5 + 1), _, (weak_ren []), ⟨y11, l4_m5 + 1, rfl, rfl⟩, hn4⟩
  have q7_ := of_decide_eq_false q7
  refine awp_condF_ q7 ?_
  refine awp_exit_ (te_ (te_ (be_ (tn_ ?_))))
  obtain rfl := Option.some.inj h
  have h := hn4
  (try dsimp only at h)
  obtain rfl := Option.some.inj h
  exact ⟨l4_m1, _, rfl, (weak_ren []), rfl⟩
 rintro l2_m1 _ rfl h
 (try dsimp only at h)
 refine seqR ?_
 refine awp_ret_ ?_
 obtain rfl := Option.some.inj h
 exact ret_ [(ai l2_m1)] (p_one rfl (l_sc (by kernel_rfl)) p_nil)
def m_laws_eqStateSpace : AC :=
 (.seq (rg [xo 2 (.i (.box 29 (tm 0))), xo 3 (.i (.box 29 (tm 1))), xo 4 (qm (cb false))])
 (.seq (.seq (rg [xo 5 (qf 0 (tm 2)), xo 6 (ql (tm 5)), xo 7 (qf 0 (tm 3)), xo 8 (ql (tm 7)), xo 9 (qb .neq (tm 6) (tm 8))])
 (.cond (tm 9)
  (.seq (rg [xo 4 (qm (cb false))])
  .ret)
  .skip))
 (.seq (.seq (rg [xo 10 (qf 1 (tm 2)), xo 11 (ql (tm 10)), xo 12 (qf 1 (tm 3)), xo 13 (ql (tm 12)), xo 14 (qb .neq (tm 11) (tm 13))])
 (.cond (tm 14)
  (.seq (rg [xo 4 (qm (cb false))])
  .ret)
  .skip))
 (.seq (.seq (rg [xo 15 (qf 2 (tm 2)), xo 16 (ql (tm 15)), xo 17 (qf 2 (tm 3)), xo 18 (ql (tm 17)), xo 19 (qb .neq (tm 16) (tm 18))])
 (.cond (tm 19)
  (.seq (rg [xo 4 (qm (cb false))])
  .ret)
  .skip))
 (.seq (.seq (rg [xo 20 (qf 3 (tm 2)), xo 21 (ql (tm 20)), xo 22 (qf 3 (tm 3)), xo 23 (ql (tm 22)), xo 24 (qc 22 [(tm 21), (tm 23)] [[(some (.slice .int))], [(some (.slice .int))]]), xo 25 (.i (.not (tm 24)))])
 (.cond (tm 25)
  (.seq (rg [xo 4 (qm (cb false))])
  .ret)
  .skip))
 (.seq (.seq (rg [xo 26 (qf 4 (tm 2)), xo 27 (ql (tm 26)), xo 28 (qf 4 (tm 3)), xo 29 (ql (tm 28)), xo 30 (qc 22 [(tm 27), (tm 29)] [[(some (.slice .int))], [(some (.slice .int))]]), xo 31 (.i (.not (tm 30)))])
 (.cond (tm 31)
  (.seq (rg [xo 4 (qm (cb false))])
  .ret)
  .skip))
 (.seq (.seq (rg [xo 32 (qf 5 (tm 2)), xo 33 (ql (tm 32)), xo 34 (qf 5 (tm 3)), xo 35 (ql (tm 34)), xo 36 (qc 22 [(tm 33), (tm 35)] [[(some (.slice .int))], [(some (.slice .int))]]), xo 37 (.i (.not (tm 36)))])
 (.cond (tm 37)
  (.seq (rg [xo 4 (qm (cb false))])
  .ret)
  .skip))
 (.seq (.seq (rg [xo 38 (qf 6 (tm 2)), xo 39 (ql (tm 38)), xo 40 (qf 6 (tm 3)), xo 41 (ql (tm 40)), xo 42 (qc 22 [(tm 39), (tm 41)] [[(some (.slice .int))], [(some (.slice .int))]]), xo 43 (.i (.not (tm 42)))])
 (.cond (tm 43)
  (.seq (rg [xo 4 (qm (cb false))])
  .ret)
  .skip))
 (.seq (rg [xo 4 (qm (cb true))])
 .ret)))))))))
def r_laws_eqStateSpace : List Res := [.tmp 4]
theorem c_laws_eqStateSpace : compiled Tryd.prog Tryd.f8 = some (m_laws_eqStateSpace, r_laws_eqStateSpace) := by kernel_rfl
theorem hb_laws_eqStateSpace : hasBody Tryd.prog 8 = true := by kernel_rfl
def L_laws_eqStateSpace (a0_0 : Int) (a0_1 : Int) (a0_2 : Int) (a0_3 : List (List Int)) (a0_4 : List (List Int)) (a0_5 : List (List Int)) (a0_6 : List (List Int)) (a1_0 : Int) (a1_1 : Int) (a1_2 : Int) (a1_3 : List (List Int)) (a1_4 : List (List Int)) (a1_5 : List (List Int)) (a1_6 : List (List Int)) : Option Bool :=
 cond (a0_0 != a1_0)
 (some false)
 (cond (a0_1 != a1_1)
  (some false)
  (cond (a0_2 != a1_2)
   (some false)
   (Option.bind (L_laws_eqIntSS a0_3 a1_3) fun y16 =>
   cond (!y16)
    (some false)
    (Option.bind (L_laws_eqIntSS a0_4 a1_4) fun y21 =>
    cond (!y21)
     (some false)
     (Option.bind (L_laws_eqIntSS a0_5 a1_5) fun y26 =>
     cond (!y26)
      (some false)
      (Option.bind (L_laws_eqIntSS a0_6 a1_6) fun y31 =>
      cond (!y31)
       (some false)
       (some true)))))))
def rv_laws_eqStateSpace (r : Bool) : RV := ⟨false, [(false, [.sc (.bool r)])]⟩
theorem ok_laws_eqStateSpace {a0_0 : Int} {a0_1 : Int} {a0_2 : Int} {a0_3 : List (List Int)} {a0_4 : List (List Int)} {a0_5 : List (List Int)} {a0_6 : List (List Int)} {a1_0 : Int} {a1_1 : Int} {a1_2 : Int} {a1_3 : List (List Int)} {a1_4 : List (List Int)} {a1_5 : List (List Int)} {a1_6 : List (List Int)} {r : Bool} (h : L_laws_eqStateSpace a0_0 a0_1 a0_2 a0_3 a0_4 a0_5 a0_6 a1_0 a1_1 a1_2 a1_3 a1_4 a1_5 a1_6 = some r) : CallOK Tryd.prog Tab 8 [(.agg [(ai a0_0), (ai a0_1), (ai a0_2), (.tree (.slice .int) a0_3), (.tree (.slice .int) a0_4), (.tree (.slice .int) a0_5), (.tree (.slice .int) a0_6)]), (.agg [(ai a1_0), (ai a1_1), (ai a1_2), (.tree (.slice .int) a1_3), (.tree (.slice .int) a1_4), (.tree (.slice .int) a1_5), (.tree (.slice .int) a1_6)])] (rv_laws_eqStateSpace r) := by
 refine call_of_ (by kernel_rfl) Tryd.func8 c_laws_eqStateSpace (n := 44) (by kernel_rfl) (by simp) (tl := [(0, (.agg [(ai a0_0), (ai a0_1), (ai a0_2), (.tree (.slice .int) a0_3), (.tree (.slice .int) a0_4), (.tree (.slice .int) a0_5), (.tree (.slice .int) a0_6)])), (1, (.agg [(ai a1_0), (ai a1_1), (ai a1_2), (.tree (.slice .int) a1_3), (.tree (.slice .int) a1_4), (.tree (.slice .int) a1_5), (.tree (.slice .int) a1_6)]))]) rfl ?_
 unfold m_laws_eqStateSpace
 unfold L_laws_eqStateSpace at h
 refine seqR ?_
 refine awp_seqv_ ?_
 refine seqR ?_
 rcases cond_some h with ⟨q4, h⟩ | ⟨q4, h⟩
 ·refine awp_condT_ q4 ?_
  refine seqR ?_
  refine awp_ret_ (tr_ ?_)
  obtain rfl := Option.some.inj h
  exact ret_ [(.bool false)] (p_one rfl (l_sc (by kernel_rfl)) p_nil)
 refine awp_condF_ q4 ?_
 refine awp_skip_ (tn_ ?_)
 refine ⟨_, Weak.refl _, ?_⟩
 refine awp_seqv_ ?_
 refine seqR ?_
 rcases cond_some h with ⟨q8, h⟩ | ⟨q8, h⟩
 ·refine awp_condT_ q8 ?_
  refine seqR ?_
  refine awp_ret_ (tr_ ?_)
  obtain rfl := Option.some.inj h
  exact ret_ [(.bool false)] (p_one rfl (l_sc (by kernel_rfl)) p_nil)
 refine awp_condF_ q8 ?_
 refine awp_skip_ (tn_ ?_)
 refine ⟨_, Weak.refl _, ?_⟩
 refine awp_seqv_ ?_
 refine seqR ?_
 rcases cond_some h with ⟨q12, h⟩ | ⟨q12, h⟩
 ·refine awp_condT_ q12 ?_
  refine seqR ?_
  refine awp_ret_ (tr_ ?_)
  obtain rfl := Option.some.inj h
  exact ret_ [(.bool false)] (p_one rfl (l_sc (by kernel_rfl)) p_nil)
 refine awp_condF_ q12 ?_
 refine awp_skip_ (tn_ ?_)
 refine ⟨_, Weak.refl _, ?_⟩
 refine awp_seqv_ ?_
 refine awp_seqv_ ?_
 obtain ⟨y16, h16, h⟩ := ob_some h
 refine awp_region_ 25 ?_
 refine rs0 (.box (oi 2 1) 3) (by kernel_rfl) ?_
 refine rsl (.tree (.slice .int) a0_3) (by kernel_rfl) ?_
 refine rs0 (.box (oi 3 2) 3) (by kernel_rfl) ?_
 refine rsl (.tree (.slice .int) a1_3) (by kernel_rfl) ?_
 refine rcall (.bool y16) [] [(.tree (.slice .int) a0_3), (.tree (.slice .int) a1_3)] _ (caps := []) (args0 := [(.tree (.slice .int) a0_3), (.tree (.slice .int) a1_3)]) trivial (by kernel_rfl) (ok_laws_eqIntSS h16) hb_laws_eqIntSS ?_
 refine rsB 1 ?_
 refine rnil (tn_ ?_)
 refine ⟨_, Weak.refl _, ?_⟩
 rcases cond_some h with ⟨q17, h⟩ | ⟨q17, h⟩
 ·refine awp_condT_ q17 ?_
  refine seqR ?_
  refine awp_ret_ (tr_ ?_)
  obtain rfl := Option.some.inj h
  exact ret_ [(.bool false)] (p_one rfl (l_sc (by kernel_rfl)) p_nil)
 refine awp_condF_ q17 ?_
 refine awp_skip_ (tn_ ?_)
 refine ⟨_, Weak.refl _, ?_⟩
 refine awp_seqv_ ?_
 refine awp_seqv_ ?_
 obtain ⟨y21, h21, h⟩ := ob_some h
 refine awp_region_ 31 ?_
 refine rs0 (.box (oi 2 1) 4) (by kernel_rfl) ?_
 refine rsl (.tree (.slice .int) a0_4) (by kernel_rfl) ?_
 refine rs0 (.box (oi 3 2) 4) (by kernel_rfl) ?_
 refine rsl (.tree (.slice .int) a1_4) (by kernel_rfl) ?_
 refine rcall (.bool y21) [] [(.tree (.slice .int) a0_4), (.tree (.slice .int) a1_4)] _ (caps := []) (args0 := [(.tree (.slice .int) a0_4), (.tree (.slice .int) a1_4)]) trivial (by kernel_rfl) (ok_laws_eqIntSS h21) hb_laws_eqIntSS ?_
 refine rsB 1 ?_
 refine rnil (tn_ ?_)
 refine ⟨_, Weak.refl _, ?_⟩
 rcases cond_some h with ⟨q22, h⟩ | ⟨q22, h⟩
 ·refine awp_condT_ q22 ?_
  refine seqR ?_
  refine awp_ret_ (tr_ ?_)
  obtain rfl := Option.some.inj h
  exact ret_ [(.bool false)] (p_one rfl (l_sc (by kernel_rfl)) p_nil)
 refine awp_condF_ q22 ?_
 refine awp_skip_ (tn_ ?_)
 refine ⟨_, Weak.refl _, ?_⟩
 refine awp_seqv_ ?_
 refine awp_seqv_ ?_
 obtain ⟨y26, h26, h⟩ := ob_some h
 refine awp_region_ 37 ?_
 refine rs0 (.box (oi 2 1) 5) (by kernel_rfl) ?_
 refine rsl (.tree (.slice .int) a0_5) (by kernel_rfl) ?_
 refine rs0 (.box (oi 3 2) 5) (by kernel_rfl) ?_
 refine rsl (.tree (.slice .int) a1_5) (by kernel_rfl) ?_
 refine rcall (.bool y26) [] [(.tree (.slice .int) a0_5), (.tree (.slice .int) a1_5)] _ (caps := []) (args0 := [(.tree (.slice .int) a0_5), (.tree (.slice .int) a1_5)]) trivial (by kernel_rfl) (ok_laws_eqIntSS h26) hb_laws_eqIntSS ?_
 refine rsB 1 ?_
 refine rnil (tn_ ?_)
 refine ⟨_, Weak.refl _, ?_⟩
 rcases cond_some h with ⟨q27, h⟩ | ⟨q27, h⟩
 ·refine awp_condT_ q27 ?_
  refine seqR ?_
  refine awp_ret_ (tr_ ?_)
  obtain rfl := Option.some.inj h
  exact ret_ [(.bool false)] (p_one rfl (l_sc (by kernel_rfl)) p_nil)
 refine awp_condF_ q27 ?_
 refine awp_skip_ (tn_ ?_)
 refine ⟨_, Weak.refl _, ?_⟩
 refine awp_seqv_ ?_
 refine awp_seqv_ ?_
 obtain ⟨y31, h31, h⟩ := ob_some h
 refine awp_region_ 43 ?_
 refine rs0 (.box (oi 2 1) 6) (by kernel_rfl) ?_
 refine rsl (.tree (.slice .int) a0_6) (by kernel_rfl) ?_
 refine rs0 (.box (oi 3 2) 6) (by kernel_rfl) ?_
 refine rsl (.tree (.slice .int) a1_6) (by kernel_rfl) ?_
 refine rcall (.bool y31) [] [(.tree (.slice .int) a0_6), (.tree (.slice .int) a1_6)] _ (caps := []) (args0 := [(.tree (.slice .int) a0_6), (.tree (.slice .int) a1_6)]) trivial (by kernel_rfl) (ok_laws_eqIntSS h31) hb_laws_eqIntSS ?_
 refine rsB 1 ?_
 refine rnil (tn_ ?_)
 refine ⟨_, Weak.refl _, ?_⟩
 rcases cond_some h with ⟨q32, h⟩ | ⟨q32, h⟩
 ·refine awp_condT_ q32 ?_
  refine seqR ?_
  refine awp_ret_ (tr_ ?_)
  obtain rfl := Option.some.inj h
  exact ret_ [(.bool false)] (p_one rfl (l_sc (by kernel_rfl)) p_nil)
 refine awp_condF_ q32 ?_
 refine awp_skip_ (tn_ ?_)
 refine ⟨_, Weak.refl _, ?_⟩
 refine seqR ?_
 refine awp_ret_ ?_
 obtain rfl := Option.some.inj h
 exact ret_ [(.bool true)] (p_one rfl (l_sc (by kernel_rfl)) p_nil)
def m_laws_markStateSpace : AC :=
 (.seq (rg [xo 2 (.i (.box 29 (tm 0))), xo 4 (qm (ci 0))])
 (.seq (rg [xo 5 (qf 3 (tm 2)), xo 6 (ql (tm 5)), xo 7 (qm (tm 1)), xo 8 (qc 27 [(tm 6), (tm 7)] [[(some (.slice .int))], []]), xo 1 (qm (tm 8))])
 (.seq (rg [xo 9 (qf 4 (tm 2)), xo 10 (ql (tm 9)), xo 11 (qm (tm 1)), xo 12 (qc 27 [(tm 10), (tm 11)] [[(some (.slice .int))], []]), xo 1 (qm (tm 12))])
 (.seq (rg [xo 13 (qf 5 (tm 2)), xo 14 (ql (tm 13)), xo 15 (qm (tm 1)), xo 16 (qc 27 [(tm 14), (tm 15)] [[(some (.slice .int))], []]), xo 1 (qm (tm 16))])
 (.seq (rg [xo 17 (qf 6 (tm 2)), xo 18 (ql (tm 17)), xo 19 (qm (tm 1)), xo 20 (qc 27 [(tm 18), (tm 19)] [[(some (.slice .int))], []]), xo 1 (qm (tm 20))])
 (.seq (rg [xo 21 (qm (tm 1)), xo 4 (qm (tm 21))])
 .ret))))))
def r_laws_markStateSpace : List Res := [.tmp 4]
theorem c_laws_markStateSpace : compiled Tryd.prog Tryd.f11 = some (m_laws_markStateSpace, r_laws_markStateSpace) := by kernel_rfl
theorem hb_laws_markStateSpace : hasBody Tryd.prog 11 = true := by kernel_rfl
def L_laws_markStateSpace (a0_0 : Int) (a0_1 : Int) (a0_2 : Int) (a0_3 : List (List Int)) (a0_4 : List (List Int)) (a0_5 : List (List Int)) (a0_6 : List (List Int)) (a1 : Int) : Option (List (List Int) × List (List Int) × List (List Int) × List (List Int) × Int) :=
 Option.bind (L_laws_markIntSS a0_3 a1) fun y4 =>
og (y4.1.length = (a0_3.length)) <|
Option.bind (L_laws_markIntSS a0_4 y4.2) fun y7 =>
og (y7.1.length = (a0_4.length)) <|
Option.bind (L_laws_markIntSS a0_5 y7.2) fun y10 =>
og (y10.1.length = (a0_5.length)) <|
Option.bind (L_laws_markIntSS a0_6 y10.2) fun y13 =>
og (y13.1.length = (a0_6.length)) <|
some (y4.1, y7.1, y10.1, y13.1, y13.2)
theorem ok_laws_markStateSpace {a0_0 : Int} {a0_1 : Int} {a0_2 : Int} {a0_3 : List (List Int)} {a0_4 : List (List Int)} {a0_5 : List (List Int)} {a0_6 : List (List Int)} {a1 : Int} {r : List (List Int) × List (List Int) × List (List Int) × List (List Int) × Int} (h : L_laws_markStateSpace a0_0 a0_1 a0_2 a0_3 a0_4 a0_5 a0_6 a1 = some r) {n_a0_3 : Nat} (hn_a0_3 : n_a0_3 = a0_3.length) {n_a0_4 : Nat} (hn_a0_4 : n_a0_4 = a0_4.length) {n_a0_5 : Nat} (hn_a0_5 : n_a0_5 = a0_5.length) {n_a0_6 : Nat} (hn_a0_6 : n_a0_6 = a0_6.length) : CallM Tryd.prog Tab 11 [(.agg [(ai a0_0), (ai a0_1), (ai a0_2), (.own (oi 0 0) (.slice .int) 0 n_a0_3), (.own (oi 2 0) (.slice .int) 0 n_a0_4), (.own (oi 4 0) (.slice .int) 0 n_a0_5), (.own (oi 6 0) (.slice .int) 0 n_a0_6)]), (ai a1)] [((oi 0 0), .mat 23 (oi 1 0) .int a0_3), ((oi 1 0), .pool 3 .int a0_3), ((oi 2 0), .mat 23 (oi 3 0) .int a0_4), ((oi 3 0), .pool 3 .int a0_4), ((oi 4 0), .mat 23 (oi 5 0) .int a0_5), ((oi 5 0), .pool 3 .int a0_5), ((oi 6 0), .mat 23 (oi 7 0) .int a0_6), ((oi 7 0), .pool 3 .int a0_6)] (ai r.2.2.2.2) [((oi 0 0), .mat 23 (oi 0 1) .int r.1), ((oi 0 1), .pool 3 .int r.1), ((oi 2 0), .mat 23 (oi 1 1) .int r.2.1), ((oi 1 1), .pool 3 .int r.2.1), ((oi 4 0), .mat 23 (oi 2 1) .int r.2.2.1), ((oi 2 1), .pool 3 .int r.2.2.1), ((oi 6 0), .mat 23 (oi 3 1) .int r.2.2.2.1), ((oi 3 1), .pool 3 .int r.2.2.2.1)] := by
 refine callM_of_ (by kernel_rfl) Tryd.func11 c_laws_markStateSpace (n := 22) (by kernel_rfl) (by simp) (tl := [(0, (.agg [(ai a0_0), (ai a0_1), (ai a0_2), (.own (oi 0 0) (.slice .int) 0 n_a0_3), (.own (oi 2 0) (.slice .int) 0 n_a0_4), (.own (oi 4 0) (.slice .int) 0 n_a0_5), (.own (oi 6 0) (.slice .int) 0 n_a0_6)])), (1, (ai a1))]) rfl (by kernel_rfl) ⟨⟨3, (.tail _ (.head _))⟩, ⟨trivial, ⟨⟨3, (.tail _ (.tail _ (.tail _ (.head _))))⟩, ⟨trivial, ⟨⟨3, (.tail _ (.tail _ (.tail _ (.tail _ (.tail _ (.head _))))))⟩, ⟨trivial, ⟨⟨3, (.tail _ (.tail _ (.tail _ (.tail _ (.tail _ (.tail _ (.tail _ (.head _))))))))⟩, ⟨trivial, trivial⟩⟩⟩⟩⟩⟩⟩⟩ ⟨⟨3, (.tail _ (.head _))⟩, ⟨trivial, ⟨⟨3, (.tail _ (.tail _ (.tail _ (.head _))))⟩, ⟨trivial, ⟨⟨3, (.tail _ (.tail _ (.tail _ (.tail _ (.tail _ (.head _))))))⟩, ⟨trivial, ⟨⟨3, (.tail _ (.tail _ (.tail _ (.tail _ (.tail _ (.tail _ (.tail _ (.head _))))))))⟩, ⟨trivial, trivial⟩⟩⟩⟩⟩⟩⟩⟩ ?_
 unfold m_laws_markStateSpace
 unfold L_laws_markStateSpace at h
 (try rw [← hn_a0_3] at h)
 (try rw [← hn_a0_4] at h)
 (try rw [← hn_a0_5] at h)
 (try rw [← hn_a0_6] at h)
 refine seqR ?_
 refine awp_seqv_ ?_
 obtain ⟨y4, h4, h⟩ := ob_some h
 obtain ⟨g5, h⟩ := og_some h
 refine awp_region_ 8 ?_
 refine rs0 (.box (oi 2 1) 3) (by kernel_rfl) ?_
 refine rsl (.own (oi 0 0) (.slice .int) 0 n_a0_3) (by kernel_rfl) ?_
 refine rs0 (ai a1) (by kernel_rfl) ?_
 refine rcallM (ai y4.2) [((oi 0 0), some (.mat 23 (oi 128 6) .int y4.1)), ((oi 128 6), some (.pool 3 .int y4.1)), ((oi 0 0), none), ((oi 1 0), some (.pool 3 .int []))] [] [(.own (oi 0 0) (.slice .int) 0 n_a0_3), (ai a1)] (caps := []) trivial (ok_laws_markIntSS h4 hn_a0_3) hb_laws_markIntSS ⟨(by kernel_rfl), ⟨(by kernel_rfl), trivial⟩⟩ (.cons (.ren (by kernel_rfl)) (.cons (.ren (by kernel_rfl)) .nil)) (reachL_mem (by kernel_rfl) (by kernel_rfl) ⟨(re_arg (by kernel_rfl)), ⟨re_rows (o := (oi 0 0)) (p := (oi 1 0)) (e1 := 23) (m := a0_3.length) (u := .int) (xss := a0_3) (re_arg (by kernel_rfl)) (by kernel_rfl), trivial⟩⟩) ?_
 refine rsB 1 ?_
 refine rnil (tn_ ?_)
 refine ⟨_, Weak.refl _, ?_⟩
 refine awp_seqv_ ?_
 obtain ⟨y7, h7, h⟩ := ob_some h
 obtain ⟨g8, h⟩ := og_some h
 refine awp_region_ 13 ?_
 refine rs0 (.box (oi 2 1) 4) (by kernel_rfl) ?_
 refine rsl (.own (oi 2 0) (.slice .int) 0 n_a0_4) (by kernel_rfl) ?_
 refine rs0 (ai y4.2) (by kernel_rfl) ?_
 refine rcallM (ai y7.2) [((oi 2 0), some (.mat 23 (oi 192 11) .int y7.1)), ((oi 192 11), some (.pool 3 .int y7.1)), ((oi 2 0), none), ((oi 3 0), some (.pool 3 .int []))] [((oi 0 0), (oi 2 0)), ((oi 1 0), (oi 3 0))] [(.own (oi 2 0) (.slice .int) 0 n_a0_4), (ai y4.2)] (caps := []) trivial (ok_laws_markIntSS h7 hn_a0_4) hb_laws_markIntSS ⟨(by kernel_rfl), ⟨(by kernel_rfl), trivial⟩⟩ (.cons (.ren (by kernel_rfl)) (.cons (.ren (by kernel_rfl)) .nil)) (reachL_mem (by kernel_rfl) (by kernel_rfl) ⟨(re_arg (by kernel_rfl)), ⟨re_rows (o := (oi 2 0)) (p := (oi 3 0)) (e1 := 23) (m := a0_4.length) (u := .int) (xss := a0_4) (re_arg (by kernel_rfl)) (by kernel_rfl), trivial⟩⟩) ?_
 refine rsB 1 ?_
 refine rnil (tn_ ?_)
 refine ⟨_, Weak.refl _, ?_⟩
 refine awp_seqv_ ?_
 obtain ⟨y10, h10, h⟩ := ob_some h
 obtain ⟨g11, h⟩ := og_some h
 refine awp_region_ 18 ?_
 refine rs0 (.box (oi 2 1) 5) (by kernel_rfl) ?_
 refine rsl (.own (oi 4 0) (.slice .int) 0 n_a0_5) (by kernel_rfl) ?_
 refine rs0 (ai y7.2) (by kernel_rfl) ?_
 refine rcallM (ai y10.2) [((oi 4 0), some (.mat 23 (oi 256 16) .int y10.1)), ((oi 256 16), some (.pool 3 .int y10.1)), ((oi 4 0), none), ((oi 5 0), some (.pool 3 .int []))] [((oi 0 0), (oi 4 0)), ((oi 1 0), (oi 5 0))] [(.own (oi 4 0) (.slice .int) 0 n_a0_5), (ai y7.2)] (caps := []) trivial (ok_laws_markIntSS h10 hn_a0_5) hb_laws_markIntSS ⟨(by kernel_rfl), ⟨(by kernel_rfl), trivial⟩⟩ (.cons (.ren (by kernel_rfl)) (.cons (.ren (by kernel_rfl)) .nil)) (reachL_mem (by kernel_rfl) (by kernel_rfl) ⟨(re_arg (by kernel_rfl)), ⟨re_rows (o := (oi 4 0)) (p := (oi 5 0)) (e1 := 23) (m := a0_5.length) (u := .int) (xss := a0_5) (re_arg (by kernel_rfl)) (by kernel_rfl), trivial⟩⟩) ?_
 refine rsB 1 ?_
 refine rnil (tn_ ?_)
 refine ⟨_, Weak.refl _, ?_⟩
 refine awp_seqv_ ?_
 obtain ⟨y13, h13, h⟩ := ob_some h
 obtain ⟨g14, h⟩ := og_some h
 refine awp_region_ 23 ?_
 refine rs0 (.box (oi 2 1) 6) (by kernel_rfl) ?_
 refine rsl (.own (oi 6 0) (.slice .int) 0 n_a0_6) (by kernel_rfl) ?_
 refine rs0 (ai y10.2) (by kernel_rfl) ?_
 refine rcallM (ai y13.2) [((oi 6 0), some (.mat 23 (oi 320 21) .int y13.1)), ((oi 320 21), some (.pool 3 .int y13.1)), ((oi 6 0), none), ((oi 7 0), some (.pool 3 .int []))] [((oi 0 0), (oi 6 0)), ((oi 1 0), (oi 7 0))] [(.own (oi 6 0) (.slice .int) 0 n_a0_6), (ai y10.2)] (caps := []) trivial (ok_laws_markIntSS h13 hn_a0_6) hb_laws_markIntSS ⟨(by kernel_rfl), ⟨(by kernel_rfl), trivial⟩⟩ (.cons (.ren (by kernel_rfl)) (.cons (.ren (by kernel_rfl)) .nil)) (reachL_mem (by kernel_rfl) (by kernel_rfl) ⟨(re_arg (by kernel_rfl)), ⟨re_rows (o := (oi 6 0)) (p := (oi 7 0)) (e1 := 23) (m := a0_6.length) (u := .int) (xss := a0_6) (re_arg (by kernel_rfl)) (by kernel_rfl), trivial⟩⟩) ?_
 refine rsB 1 ?_
 refine rnil (tn_ ?_)
 refine ⟨_, Weak.refl _, ?_⟩
 refine seqR ?_
 refine awp_ret_ ?_
 obtain rfl := Option.some.inj h
 exact retM_ [(ai y13.2)] (weak_ren (tl := [(4, (ai y13.2))]) (g := 2) [((oi 0 1), (oi 128 6)), ((oi 1 1), (oi 192 11)), ((oi 2 1), (oi 256 16)), ((oi 3 1), (oi 320 21))])
def m_laws_heldStateSpace : AC :=
 (.seq (rg [xo 2 (.i (.box 29 (tm 0))), xo 4 (qm (ci 0))])
 (.seq (rg [xo 5 (qf 3 (tm 2)), xo 6 (ql (tm 5)), xo 7 (qm (tm 1)), xo 8 (qc 28 [(tm 6), (tm 7)] [[(some (.slice .int))], []]), xo 1 (qm (tm 8))])
 (.seq (.seq (rg [xo 9 (qm (tm 1)), xo 10 (qb .lss (tm 9) (ci 0))])
 (.cond (tm 10)
  (.seq (rg [xo 4 (qm (ci (-1)))])
  .ret)
  .skip))
 (.seq (rg [xo 11 (qf 4 (tm 2)), xo 12 (ql (tm 11)), xo 13 (qm (tm 1)), xo 14 (qc 28 [(tm 12), (tm 13)] [[(some (.slice .int))], []]), xo 1 (qm (tm 14))])
 (.seq (.seq (rg [xo 15 (qm (tm 1)), xo 16 (qb .lss (tm 15) (ci 0))])
 (.cond (tm 16)
  (.seq (rg [xo 4 (qm (ci (-1)))])
  .ret)
  .skip))
 (.seq (rg [xo 17 (qf 5 (tm 2)), xo 18 (ql (tm 17)), xo 19 (qm (tm 1)), xo 20 (qc 28 [(tm 18), (tm 19)] [[(some (.slice .int))], []]), xo 1 (qm (tm 20))])
 (.seq (.seq (rg [xo 21 (qm (tm 1)), xo 22 (qb .lss (tm 21) (ci 0))])
 (.cond (tm 22)
  (.seq (rg [xo 4 (qm (ci (-1)))])
  .ret)
  .skip))
 (.seq (rg [xo 23 (qf 6 (tm 2)), xo 24 (ql (tm 23)), xo 25 (qm (tm 1)), xo 26 (qc 28 [(tm 24), (tm 25)] [[(some (.slice .int))], []]), xo 1 (qm (tm 26))])
 (.seq (.seq (rg [xo 27 (qm (tm 1)), xo 28 (qb .lss (tm 27) (ci 0))])
 (.cond (tm 28)
  (.seq (rg [xo 4 (qm (ci (-1)))])
  .ret)
  .skip))
 (.seq (rg [xo 29 (qm (tm 1)), xo 4 (qm (tm 29))])
 .ret))))))))))
def r_laws_heldStateSpace : List Res := [.tmp 4]
theorem c_laws_heldStateSpace : compiled Tryd.prog Tryd.f12 = some (m_laws_heldStateSpace, r_laws_heldStateSpace) := by kernel_rfl
theorem hb_laws_heldStateSpace : hasBody Tryd.prog 12 = true := by kernel_rfl
def L_laws_heldStateSpace (a0_0 : Int) (a0_1 : Int) (a0_2 : Int) (a0_3 : List (List Int)) (a0_4 : List (List Int)) (a0_5 : List (List Int)) (a0_6 : List (List Int)) (a1 : Int) : Option Int :=
 Option.bind (L_laws_heldIntSS a0_3 a1) fun y3 =>
cond (decide (y3 < 0))
 (some (-1))
 (Option.bind (L_laws_heldIntSS a0_4 y3) fun y9 =>
 cond (decide (y9 < 0))
  (some (-1))
  (Option.bind (L_laws_heldIntSS a0_5 y9) fun y15 =>
  cond (decide (y15 < 0))
   (some (-1))
   (Option.bind (L_laws_heldIntSS a0_6 y15) fun y21 =>
   cond (decide (y21 < 0))
    (some (-1))
    (some y21))))
def rv_laws_heldStateSpace (r : Int) : RV := ⟨false, [(false, [.sc (.int .i64 r)])]⟩
theorem ok_laws_heldStateSpace {a0_0 : Int} {a0_1 : Int} {a0_2 : Int} {a0_3 : List (List Int)} {a0_4 : List (List Int)} {a0_5 : List (List Int)} {a0_6 : List (List Int)} {a1 : Int} {r : Int} (h : L_laws_heldStateSpace a0_0 a0_1 a0_2 a0_3 a0_4 a0_5 a0_6 a1 = some r) : CallOK Tryd.prog Tab 12 [(.agg [(ai a0_0), (ai a0_1), (ai a0_2), (.tree (.slice .int) a0_3), (.tree (.slice .int) a0_4), (.tree (.slice .int) a0_5), (.tree (.slice .int) a0_6)]), (ai a1)] (rv_laws_heldStateSpace r) := by
 refine call_of_ (by kernel_rfl) Tryd.func12 c_laws_heldStateSpace (n := 30) (by kernel_rfl) (by simp) (tl := [(0, (.agg [(ai a0_0), (ai a0_1), (ai a0_2), (.tree (.slice .int) a0_3), (.tree (.slice .int) a0_4), (.tree (.slice .int) a0_5), (.tree (.slice .int) a0_6)])), (1, (ai a1))]) rfl ?_
 unfold m_laws_heldStateSpace
 unfold L_laws_heldStateSpace at h
 refine seqR ?_
 refine awp_seqv_ ?_
 obtain ⟨y3, h3, h⟩ := ob_some h
 refine awp_region_ 8 ?_
 refine rs0 (.box (oi 2 1) 3) (by kernel_rfl) ?_
 refine rsl (.tree (.slice .int) a0_3) (by kernel_rfl) ?_
 refine rs0 (ai a1) (by kernel_rfl) ?_
 refine rcall (ai y3) [] [(.tree (.slice .int) a0_3), (ai a1)] _ (caps := []) (args0 := [(.tree (.slice .int) a0_3), (ai a1)]) trivial (by kernel_rfl) (ok_laws_heldIntSS h3) hb_laws_heldIntSS ?_
 refine rsB 1 ?_
 refine rnil (tn_ ?_)
 refine ⟨_, Weak.refl _, ?_⟩
 refine awp_seqv_ ?_
 refine seqR ?_
 rcases cond_some h with ⟨q6, h⟩ | ⟨q6, h⟩
 ·have q6_ := of_decide_eq_true q6
  refine awp_condT_ q6 ?_
  refine seqR ?_
  refine awp_ret_ (tr_ ?_)
  obtain rfl := Option.some.inj h
  exact ret_ [(ai (-1))] (p_one rfl (l_sc (by kernel_rfl)) p_nil)
 have q6_ := of_decide_eq_false q6
 refine awp_condF_ q6 ?_
 refine awp_skip_ (tn_ ?_)
 refine ⟨_, Weak.refl _, ?_⟩
 refine awp_seqv_ ?_
 obtain ⟨y9, h9, h⟩ := ob_some h
 refine awp_region_ 15 ?_
 refine rs0 (.box (oi 2 1) 4) (by kernel_rfl) ?_
 refine rsl (.tree (.slice .int) a0_4) (by kernel_rfl) ?_
 refine rs0 (ai y3) (by kernel_rfl) ?_
 refine rcall (ai y9) [] [(.tree (.slice .int) a0_4), (ai y3)] _ (caps := []) (args0 := [(.tree (.slice .int) a0_4), (ai y3)]) trivial (by kernel_rfl) (ok_laws_heldIntSS h9) hb_laws_heldIntSS ?_
 refine rsB 1 ?_
 refine rnil (tn_ ?_)
 refine ⟨_, Weak.refl _, ?_⟩
 refine awp_seqv_ ?_
 refine seqR ?_
 rcases cond_some h with ⟨q12, h⟩ | ⟨q12, h⟩
 ·have q12_ := of_decide_eq_true q12
  refine awp_condT_ q12 ?_
  refine seqR ?_
  refine awp_ret_ (tr_ ?_)
  obtain rfl := Option.some.inj h
  exact ret_ [(ai (-1))] (p_one rfl (l_sc (by kernel_rfl)) p_nil)
 have q12_ := of_decide_eq_false q12
 refine awp_condF_ q12 ?_
 refine awp_skip_ (tn_ ?_)
 refine ⟨_, Weak.refl _, ?_⟩
 refine awp_seqv_ ?_
 obtain ⟨y15, h15, h⟩ := ob_some h
 refine awp_region_ 22 ?_
 refine rs0 (.box (oi 2 1) 5) (by kernel_rfl) ?_
 refine rsl (.tree (.slice .int) a0_5) (by kernel_rfl) ?_
 refine rs0 (ai y9) (by kernel_rfl) ?_
 refine rcall (ai y15) [] [(.tree (.slice .int) a0_5), (ai y9)] _ (caps := []) (args0 := [(.tree (.slice .int) a0_5), (ai y9)]) trivial (by kernel_rfl) (ok_laws_heldIntSS h15) hb_laws_heldIntSS ?_
 refine rsB 1 ?_
 refine rnil (tn_ ?_)
 refine ⟨_, Weak.refl _, ?_⟩
 refine awp_seqv_ ?_
 refine seqR ?_
 rcases cond_some h with ⟨q18, h⟩ | ⟨q18, h⟩
 ·have q18_ := of_decide_eq_true q18
  refine awp_condT_ q18 ?_
  refine seqR ?_
  refine awp_ret_ (tr_ ?_)
  obtain rfl := Option.some.inj h
  exact ret_ [(ai (-1))] (p_one rfl (l_sc (by kernel_rfl)) p_nil)
 have q18_ := of_decide_eq_false q18
 refine awp_condF_ q18 ?_
 refine awp_skip_ (tn_ ?_)
 refine ⟨_, Weak.refl _, ?_⟩
 refine awp_seqv_ ?_
 obtain ⟨y21, h21, h⟩ := ob_some h
 refine awp_region_ 29 ?_
 refine rs0 (.box (oi 2 1) 6) (by kernel_rfl) ?_
 refine rsl (.tree (.slice .int) a0_6) (by kernel_rfl) ?_
 refine rs0 (ai y15) (by kernel_rfl) ?_
 refine rcall (ai y21) [] [(.tree (.slice .int) a0_6), (ai y15)] _ (caps := []) (args0 := [(.tree (.slice .int) a0_6), (ai y15)]) trivial (by kernel_rfl) (ok_laws_heldIntSS h21) hb_laws_heldIntSS ?_
 refine rsB 1 ?_
 refine rnil (tn_ ?_)
 refine ⟨_, Weak.refl _, ?_⟩
 refine awp_seqv_ ?_
 refine seqR ?_
 rcases cond_some h with ⟨q24, h⟩ | ⟨q24, h⟩
 ·have q24_ := of_decide_eq_true q24
  refine awp_condT_ q24 ?_
  refine seqR ?_
  refine awp_ret_ (tr_ ?_)
  obtain rfl := Option.some.inj h
  exact ret_ [(ai (-1))] (p_one rfl (l_sc (by kernel_rfl)) p_nil)
 have q24_ := of_decide_eq_false q24
 refine awp_condF_ q24 ?_
 refine awp_skip_ (tn_ ?_)
 refine ⟨_, Weak.refl _, ?_⟩
 refine seqR ?_
 refine awp_ret_ ?_
 obtain rfl := Option.some.inj h
 exact ret_ [(ai y21)] (p_one rfl (l_sc (by kernel_rfl)) p_nil)
def m_impl_spaceOfCircuit_l2 : AC :=
 (.seq (rg [xo 59 (qb .lss (tm 58) (tm 57))])
 (.seq (.cond (tm 59)
  .skip
  (.exit 2))
 (.seq (.block 3 (.seq (rg [xo 60 (qm (tm 58)), xo 11 (qm (tm 60))])
 (.seq (.region [xo 62 (.i (.ld false 3 (tm 3))), xo 63 (qm (tm 0)), xo 64 (qm (tm 6)), xo 65 (qc 47 [(tm 64)] [[]]), xo 66 (qf 0 (tm 3)), xo 67 (ql (tm 66)), xo 68 (qm (tm 11)), xo 69 (qc 46 [(tm 67), (tm 68)] [[], []]), ⟨(some 70), none, (qc 45 [(tm 62), (tm 63), (tm 65), (tm 69)] [[none, (some (.pair .int (.pair .int (.pair .int .int)))), (some .int)], [], [(some .int)], [(some .int)]])⟩, xo 61 (qm (tm 70)), xo 71 (.i (.extr 0 (tm 61))), xo 72 (.i (.extr 1 (tm 61))), xo 12 (qm (tm 71)), xo 13 (qm (tm 72))] true [(0, 3), (3, 5), (0, 7)])
 (.region [xo 73 (qf 4 (tm 7)), xo 74 (ql (tm 73)), xo 75 (qm (tm 12)), xo 76 (.mkV 23 (.slice .int) 1 [(tm 75)]), xo 77 (.appV 23 (.slice .int) 24 (tm 74) (tm 76)), xo 78 (qf 6 (tm 7)), xo 79 (ql (tm 78)), xo 80 (qm (tm 13)), xo 81 (.mkV 23 (.slice .int) 1 [(tm 80)]), xo 82 (.appV 23 (.slice .int) 24 (tm 79) (tm 81)), xo 83 (qf 4 (tm 7)), xn (qs (tm 83) (tm 77)), xo 84 (qf 6 (tm 7)), xn (qs (tm 84) (tm 82))] true [(1, 3), (3, 6), (4, 6), (1, 8), (3, 8), (4, 8), (6, 8)]))))
 (rg [xo 85 (qb .add (tm 58) (ci 1)), xo 58 (qm (tm 85))]))))
def m_impl_spaceOfCircuit_l1 : AC :=
 (.seq (rg [xo 29 (qb .lss (tm 28) (tm 27))])
 (.seq (.cond (tm 29)
  .skip
  (.exit 0))
 (.seq (.block 1 (.seq (rg [xo 30 (qm (tm 28)), xo 8 (qm (tm 30))])
 (.seq (.region [xo 32 (.i (.ld false 3 (tm 3))), xo 33 (qm (tm 0)), xo 34 (qm (tm 6)), xo 35 (qm (tm 8)), xo 36 (qc 46 [(tm 34), (tm 35)] [[], []]), xo 37 (qf 0 (tm 3)), xo 38 (ql (tm 37)), xo 39 (qc 47 [(tm 38)] [[]]), ⟨(some 40), none, (qc 45 [(tm 32), (tm 33), (tm 36), (tm 39)] [[none, (some (.pair .int (.pair .int (.pair .int .int)))), (some .int)], [], [(some .int)], [(some .int)]])⟩, xo 31 (qm (tm 40)), xo 41 (.i (.extr 0 (tm 31))), xo 42 (.i (.extr 1 (tm 31))), xo 9 (qm (tm 41)), xo 10 (qm (tm 42))] true [(0, 4), (4, 6), (0, 7)])
 (.region [xo 43 (qf 3 (tm 7)), xo 44 (ql (tm 43)), xo 45 (qm (tm 9)), xo 46 (.mkV 23 (.slice .int) 1 [(tm 45)]), xo 47 (.appV 23 (.slice .int) 24 (tm 44) (tm 46)), xo 48 (qf 5 (tm 7)), xo 49 (ql (tm 48)), xo 50 (qm (tm 10)), xo 51 (.mkV 23 (.slice .int) 1 [(tm 50)]), xo 52 (.appV 23 (.slice .int) 24 (tm 49) (tm 51)), xo 53 (qf 3 (tm 7)), xn (qs (tm 53) (tm 47)), xo 54 (qf 5 (tm 7)), xn (qs (tm 54) (tm 52))] true [(1, 3), (3, 6), (4, 6), (1, 8), (3, 8), (4, 8), (6, 8)]))))
 (rg [xo 55 (qb .add (tm 28) (ci 1)), xo 28 (qm (tm 55))]))))
def m_impl_spaceOfCircuit : AC :=
 (.seq (rg [xo 3 (.i (.box 34 (tm 1))), xo 4 (.i (.alloc 29 [(.int .i64 0), (.int .i64 0), (.int .i64 0), .nils, .nils, .nils, .nils])), xo 5 (qm (cb false))])
 (.seq (rg [xo 14 (.i (.ld false 3 (tm 3))), ⟨(some 15), none, (qc 44 [(tm 14)] [[none, (some (.pair .int (.pair .int (.pair .int .int)))), (some .int)]])⟩, xo 16 (.i (.len (tm 15))), xo 6 (qm (tm 16))])
 (.seq (.seq (rg [xo 17 (qm (tm 6)), xo 18 (qb .gtr (tm 17) (ci 24))])
 (.cond (tm 18)
  (.seq (rg [xo 19 (.build [(.int .i64 0), (.int .i64 0), (.int .i64 0), .nils, .nils, .nils, .nils] []), xn (.st false 7 (tm 4) (tm 19)), xo 5 (qm (cb false))])
  .ret)
  .skip))
 (.seq (rg [xo 20 (qm (tm 6)), xo 21 (qf 0 (tm 3)), xo 22 (ql (tm 21)), xo 23 (qf 2 (tm 3)), xo 24 (ql (tm 23)), xo 25 (.i (.len (tm 24))), xo 26 (.build [(.int .i64 0), (.int .i64 0), (.int .i64 0), .nils, .nils, .nils, .nils] [(0, 1, (tm 20)), (1, 1, (tm 22)), (2, 1, (tm 25))]), xo 7 (.i (.alloc 29 [(.int .i64 0), (.int .i64 0), (.int .i64 0), .nils, .nils, .nils, .nils])), xn (.st false 7 (tm 7) (tm 26))])
 (.seq (.seq (rg [xo 27 (qm (tm 6)), xo 28 (qm (ci 0))])
 (.block 0 (.loop m_impl_spaceOfCircuit_l1)))
 (.seq (.seq (rg [xo 56 (qf 0 (tm 3)), xo 57 (ql (tm 56)), xo 58 (qm (ci 0))])
 (.block 2 (.loop m_impl_spaceOfCircuit_l2)))
 (.seq (rg [xo 86 (.i (.ld false 7 (tm 7))), xn (.st false 7 (tm 4) (tm 86)), xo 5 (qm (cb true))])
 .ret)))))))
def r_impl_spaceOfCircuit : List Res := [.cell 4 false 7, .tmp 5]
theorem c_impl_spaceOfCircuit : compiled Tryd.prog Tryd.f21 = some (m_impl_spaceOfCircuit, r_impl_spaceOfCircuit) := by kernel_rfl
theorem hb_impl_spaceOfCircuit : hasBody Tryd.prog 21 = true := by kernel_rfl
def L_impl_spaceOfCircuit_l1 (y4 : List Int) (a1_0 : Int) (a1_1 : List (Int × Int × Int × Int)) (a1_2 : List Int) (a0 : Int) (l12_m28 : Nat) (l12_m7_3 : List (List Int)) (l12_m7_5 : List (List Int)) : Option (Ctl (Nat × List (List Int) × List (List Int)) (List (List Int) × List (List Int))) :=
 cond (decide (((l12_m28 : Nat) : Int) < ((y4.length : Nat) : Int)))
 (Option.bind (L_impl_unit ((y4.length : Nat) : Int) ((l12_m28 : Nat) : Int)) fun y19 =>
 Option.bind (L_impl_zeros a1_0) fun y20 =>
 Option.bind (L_impl_Circuit_step a1_0 a1_1 a1_2 a0 y19 y20) fun y21 =>
 og (l12_m7_3.length + 1 ≤ 1073741824 ∧ (l12_m7_3.length + 1) * 24 ≤ 140737488355328) <|
 og (l12_m7_5.length + 1 ≤ 1073741824 ∧ (l12_m7_5.length + 1) * 24 ≤ 140737488355328) <|
 og (l12_m28 + 1 < 4611686018427387904) <|
 some (Ctl.next (l12_m28 + 1, l12_m7_3 ++ [y21.1], l12_m7_5 ++ [y21.2])))
 (some (Ctl.out (l12_m7_3, l12_m7_5)))
def L_impl_spaceOfCircuit_l2 (a1_0 : Int) (y4 : List Int) (a1_1 : List (Int × Int × Int × Int)) (a1_2 : List Int) (a0 : Int) (l27_m58 : Nat) (l27_m7_4 : List (List Int)) (l27_m7_6 : List (List Int)) : Option (Ctl (Nat × List (List Int) × List (List Int)) (List (List Int) × List (List Int))) :=
 cond (decide (((l27_m58 : Nat) : Int) < a1_0))
 (Option.bind (L_impl_zeros ((y4.length : Nat) : Int)) fun y34 =>
 Option.bind (L_impl_unit a1_0 ((l27_m58 : Nat) : Int)) fun y35 =>
 Option.bind (L_impl_Circuit_step a1_0 a1_1 a1_2 a0 y34 y35) fun y36 =>
 og (l27_m7_4.length + 1 ≤ 1073741824 ∧ (l27_m7_4.length + 1) * 24 ≤ 140737488355328) <|
 og (l27_m7_6.length + 1 ≤ 1073741824 ∧ (l27_m7_6.length + 1) * 24 ≤ 140737488355328) <|
 og (l27_m58 + 1 < 4611686018427387904) <|
 some (Ctl.next (l27_m58 + 1, l27_m7_4 ++ [y36.1], l27_m7_6 ++ [y36.2])))
 (some (Ctl.out (l27_m7_4, l27_m7_6)))
def L_impl_spaceOfCircuit (a0 : Int) (a1_0 : Int) (a1_1 : List (Int × Int × Int × Int)) (a1_2 : List Int) : Option (Bool × Nat × Int × Nat × List (List Int) × List (List Int) × List (List Int) × List (List Int)) :=
 Option.bind (L_impl_Circuit_delays a1_0 a1_1 a1_2) fun y4 =>
cond (decide (24 < ((y4.length : Nat) : Int)))
 (some (false, 0, 0, 0, ([] : List (List Int)), ([] : List (List Int)), ([] : List (List Int)), ([] : List (List Int))))
 (Option.bind (loopM (fun s_ : Nat × List (List Int) × List (List Int) => L_impl_spaceOfCircuit_l1 y4 a1_0 a1_1 a1_2 a0 s_.1 s_.2.1 s_.2.2) 4611686018427387904 (0, ([] : List (List Int)), ([] : List (List Int)))) fun (l10_m7_3, l10_m7_5) =>
 Option.bind (loopM (fun s_ : Nat × List (List Int) × List (List Int) => L_impl_spaceOfCircuit_l2 a1_0 y4 a1_1 a1_2 a0 s_.1 s_.2.1 s_.2.2) 4611686018427387904 (0, ([] : List (List Int)), ([] : List (List Int)))) fun (l25_m7_4, l25_m7_6) =>
 some (true, y4.length, a1_0, a1_2.length, l10_m7_3, l25_m7_4, l10_m7_5, l25_m7_6))
theorem ok_impl_spaceOfCircuit {a0 : Int} {a1_0 : Int} {a1_1 : List (Int × Int × Int × Int)} {a1_2 : List Int} {r : Bool × Nat × Int × Nat × List (List Int) × List (List Int) × List (List Int) × List (List Int)} (h : L_impl_spaceOfCircuit a0 a1_0 a1_1 a1_2 = some r) : CallM Tryd.prog Tab 21 [(ai a0), (.agg [(ai a1_0), (.tree (.pair .int (.pair .int (.pair .int .int))) a1_1), (.tree .int a1_2)])] [] (.tup [(.agg [(ai ((r.2.1 : Nat) : Int)), (ai r.2.2.1), (ai ((r.2.2.2.1 : Nat) : Int)), (.own (oi 1 1) (.slice .int) 0 r.2.2.2.2.1.length), (.own (oi 3 1) (.slice .int) 0 r.2.2.2.2.2.1.length), (.own (oi 5 1) (.slice .int) 0 r.2.2.2.2.2.2.1.length), (.own (oi 7 1) (.slice .int) 0 r.2.2.2.2.2.2.2.length)]), (.bool r.1)]) [((oi 0 1), .cells 29 [(ai ((r.2.1 : Nat) : Int)), (ai r.2.2.1), (ai ((r.2.2.2.1 : Nat) : Int)), (.own (oi 1 1) (.slice .int) 0 r.2.2.2.2.1.length), (.own (oi 3 1) (.slice .int) 0 r.2.2.2.2.2.1.length), (.own (oi 5 1) (.slice .int) 0 r.2.2.2.2.2.2.1.length), (.own (oi 7 1) (.slice .int) 0 r.2.2.2.2.2.2.2.length)]), ((oi 1 1), .mat 23 (oi 2 1) .int r.2.2.2.2.1), ((oi 2 1), .pool 3 .int r.2.2.2.2.1), ((oi 3 1), .mat 23 (oi 4 1) .int r.2.2.2.2.2.1), ((oi 4 1), .pool 3 .int r.2.2.2.2.2.1), ((oi 5 1), .mat 23 (oi 6 1) .int r.2.2.2.2.2.2.1), ((oi 6 1), .pool 3 .int r.2.2.2.2.2.2.1), ((oi 7 1), .mat 23 (oi 8 1) .int r.2.2.2.2.2.2.2), ((oi 8 1), .pool 3 .int r.2.2.2.2.2.2.2)] := by
 refine callM_of_ (by kernel_rfl) Tryd.func21 c_impl_spaceOfCircuit (n := 87) (by kernel_rfl) (by simp) (tl := [(0, (ai a0)), (1, (.agg [(ai a1_0), (.tree (.pair .int (.pair .int (.pair .int .int))) a1_1), (.tree .int a1_2)]))]) rfl (by kernel_rfl) trivial ⟨trivial, ⟨⟨3, (.tail _ (.tail _ (.head _)))⟩, ⟨trivial, ⟨⟨3, (.tail _ (.tail _ (.tail _ (.tail _ (.head _)))))⟩, ⟨trivial, ⟨⟨3, (.tail _ (.tail _ (.tail _ (.tail _ (.tail _ (.tail _ (.head _)))))))⟩, ⟨trivial, ⟨⟨3, (.tail _ (.tail _ (.tail _ (.tail _ (.tail _ (.tail _ (.tail _ (.tail _ (.head _)))))))))⟩, ⟨trivial, trivial⟩⟩⟩⟩⟩⟩⟩⟩⟩ ?_
 unfold m_impl_spaceOfCircuit
 unfold L_impl_spaceOfCircuit at h
 refine seqR ?_
 refine awp_seqv_ ?_
 obtain ⟨y4, h4, h⟩ := ob_some h
 refine awp_region_ 8 ?_
 refine rsl (.agg [(ai a1_0), (.tree (.pair .int (.pair .int (.pair .int .int))) a1_1), (.tree .int a1_2)]) (by kernel_rfl) ?_
 refine rcall (.own (oi 240 5) .int 0 y4.length) [((oi 240 5), some (.arr 3 .int y4))] [(.agg [(ai a1_0), (.tree (.pair .int (.pair .int (.pair .int .int))) a1_1), (.tree .int a1_2)])] _ (caps := []) (args0 := [(.agg [(ai a1_0), (.tree (.pair .int (.pair .int (.pair .int .int))) a1_1), (.tree .int a1_2)])]) trivial (by kernel_rfl) (ok_impl_Circuit_delays h4) hb_impl_Circuit_delays ?_
 refine rsB 2 ?_
 refine rnil (tn_ ?_)
 refine ⟨_, Weak.refl _, ?_⟩
 refine awp_seqv_ ?_
 refine seqR ?_
 rcases cond_some h with ⟨q7, h⟩ | ⟨q7, h⟩
 ·have q7_ := of_decide_eq_true q7
  refine awp_condT_ q7 ?_
  refine seqR ?_
  refine awp_ret_ (tr_ ?_)
  obtain rfl := Option.some.inj h
  exact retM_ [(.agg [(ai ((0 : Nat) : Int)), (ai 0), (ai ((0 : Nat) : Int)), (.own (oi 1 1) (.slice .int) 0 ((([] : List (List Int))).length)), (.own (oi 3 1) (.slice .int) 0 ((([] : List (List Int))).length)), (.own (oi 5 1) (.slice .int) 0 ((([] : List (List Int))).length)), (.own (oi 7 1) (.slice .int) 0 ((([] : List (List Int))).length))]), (.bool false)] ((weak_nil_cellV_ 9000 (oi 4 2) 3 29 [(ai 0), (ai 0), (ai 0), .nils, .nils, .nils, .nils] [(ai 0), (ai 0), (ai 0), (.own (oi 9000 13) (.slice .int) 0 0), .nils, .nils, .nils] 23 (.slice .int) (by kernel_rfl) (by kernel_rfl) (by kernel_rfl)).trans ((weak_none_ (e1 := 23) (n := 0) 9000 (oi 9000 13) 3 .int (by kernel_rfl) (by kernel_rfl) rfl (by kernel_rfl) (by kernel_rfl)).trans ((weak_nil_cellV_ 9002 (oi 4 2) 4 29 [(ai 0), (ai 0), (ai 0), (.own (oi 9000 13) (.slice .int) 0 0), .nils, .nils, .nils] [(ai 0), (ai 0), (ai 0), (.own (oi 9000 13) (.slice .int) 0 0), (.own (oi 9002 15) (.slice .int) 0 0), .nils, .nils] 23 (.slice .int) (by kernel_rfl) (by kernel_rfl) (by kernel_rfl)).trans ((weak_none_ (e1 := 23) (n := 0) 9000 (oi 9002 15) 3 .int (by kernel_rfl) (by kernel_rfl) rfl (by kernel_rfl) (by kernel_rfl)).trans ((weak_nil_cellV_ 9004 (oi 4 2) 5 29 [(ai 0), (ai 0), (ai 0), (.own (oi 9000 13) (.slice .int) 0 0), (.own (oi 9002 15) (.slice .int) 0 0), .nils, .nils] [(ai 0), (ai 0), (ai 0), (.own (oi 9000 13) (.slice .int) 0 0), (.own (oi 9002 15) (.slice .int) 0 0), (.own (oi 9004 17) (.slice .int) 0 0), .nils] 23 (.slice .int) (by kernel_rfl) (by kernel_rfl) (by kernel_rfl)).trans ((weak_none_ (e1 := 23) (n := 0) 9000 (oi 9004 17) 3 .int (by kernel_rfl) (by kernel_rfl) rfl (by kernel_rfl) (by kernel_rfl)).trans ((weak_nil_cellV_ 9006 (oi 4 2) 6 29 [(ai 0), (ai 0), (ai 0), (.own (oi 9000 13) (.slice .int) 0 0), (.own (oi 9002 15) (.slice .int) 0 0), (.own (oi 9004 17) (.slice .int) 0 0), .nils] [(ai 0), (ai 0), (ai 0), (.own (oi 9000 13) (.slice .int) 0 0), (.own (oi 9002 15) (.slice .int) 0 0), (.own (oi 9004 17) (.slice .int) 0 0), (.own (oi 9006 19) (.slice .int) 0 0)] 23 (.slice .int) (by kernel_rfl) (by kernel_rfl) (by kernel_rfl)).trans ((weak_none_ (e1 := 23) (n := 0) 9000 (oi 9006 19) 3 .int (by kernel_rfl) (by kernel_rfl) rfl (by kernel_rfl) (by kernel_rfl)).trans (weak_ren (tl := [(4, (.box (oi 0 1) 0)), (5, (.bool false))]) (g := 2) [((oi 0 1), (oi 4 2)), ((oi 1 1), (oi 9000 13)), ((oi 2 1), (oi 9000 14)), ((oi 3 1), (oi 9002 15)), ((oi 4 1), (oi 9000 16)), ((oi 5 1), (oi 9004 17)), ((oi 6 1), (oi 9000 18)), ((oi 7 1), (oi 9006 19)), ((oi 8 1), (oi 9000 20))])))))))))
 have q7_ := of_decide_eq_false q7
 refine awp_condF_ q7 ?_
 refine awp_skip_ (tn_ ?_)
 refine ⟨_, Weak.refl _, ?_⟩
 refine seqR ?_
 refine awp_seqB h (fun t_ S_ => ∃ (l10_m7_3 : List (List Int)), ∃ (l10_m7_5 : List (List Int)), t_ = (l10_m7_3, l10_m7_5) ∧ S_ = ⟨mkTm [(0, (ai a0)), (3, (.box (oi 0 1) 0)), (4, (.box (oi 1 1) 0)), (6, (ai ((y4.length : Nat) : Int))), (7, (.box (oi 2 1) 0))], mkOb (someL [((oi 0 1), .cells 34 [(ai a1_0), (.tree (.pair .int (.pair .int (.pair .int .int))) a1_1), (.tree .int a1_2)]), ((oi 1 1), .cells 29 [(ai 0), (ai 0), (ai 0), .nils, .nils, .nils, .nils]), ((oi 2 1), .cells 29 [(ai ((y4.length : Nat) : Int)), (ai a1_0), (ai ((a1_2.length : Nat) : Int)), (.own (oi 3 1) (.slice .int) 0 l10_m7_3.length), .nils, (.own (oi 5 1) (.slice .int) 0 l10_m7_5.length), .nils]), ((oi 3 1), .mat 23 (oi 4 1) .int l10_m7_3), ((oi 4 1), .pool 3 .int l10_m7_3), ((oi 5 1), .mat 23 (oi 6 1) .int l10_m7_5), ((oi 6 1), .pool 3 .int l10_m7_5)]), 2⟩) ?_ ?_
 ·intro v_ h
  refine seqR ?_
  refine awp_block_ ?_
  refine awp_loopL h (fun t_ S_ => ∃ (l12_m28 : Nat), ∃ (l12_m7_3 : List (List Int)), ∃ (l12_m7_5 : List (List Int)), t_ = (l12_m28, l12_m7_3, l12_m7_5) ∧ S_ = ⟨mkTm [(0, (ai a0)), (3, (.box (oi 0 1) 0)), (4, (.box (oi 1 1) 0)), (6, (ai ((y4.length : Nat) : Int))), (7, (.box (oi 2 1) 0)), (27, (ai ((y4.length : Nat) : Int))), (28, (ai ((l12_m28 : Nat) : Int)))], mkOb (someL [((oi 0 1), .cells 34 [(ai a1_0), (.tree (.pair .int (.pair .int (.pair .int .int))) a1_1), (.tree .int a1_2)]), ((oi 1 1), .cells 29 [(ai 0), (ai 0), (ai 0), .nils, .nils, .nils, .nils]), ((oi 2 1), .cells 29 [(ai ((y4.length : Nat) : Int)), (ai a1_0), (ai ((a1_2.length : Nat) : Int)), (.own (oi 3 1) (.slice .int) 0 l12_m7_3.length), .nils, (.own (oi 5 1) (.slice .int) 0 l12_m7_5.length), .nils]), ((oi 3 1), .mat 23 (oi 4 1) .int l12_m7_3), ((oi 4 1), .pool 3 .int l12_m7_3), ((oi 5 1), .mat 23 (oi 6 1) .int l12_m7_5), ((oi 6 1), .pool 3 .int l12_m7_5)]), 2⟩) ⟨_, ((weak_nil_cellV_ 9000 (oi 7 17) 3 29 [(ai ((y4.length : Nat) : Int)), (ai a1_0), (ai ((a1_2.length : Nat) : Int)), .nils, .nils, .nils, .nils] [(ai ((y4.length : Nat) : Int)), (ai a1_0), (ai ((a1_2.length : Nat) : Int)), (.own (oi 9000 21) (.slice .int) 0 0), .nils, .nils, .nils] 23 (.slice .int) (by kernel_rfl) (by kernel_rfl) (by kernel_rfl)).trans ((weak_none_ (e1 := 23) (n := 0) 9000 (oi 9000 21) 3 .int (by kernel_rfl) (by kernel_rfl) rfl (by kernel_rfl) (by kernel_rfl)).trans ((weak_nil_cellV_ 9002 (oi 7 17) 5 29 [(ai ((y4.length : Nat) : Int)), (ai a1_0), (ai ((a1_2.length : Nat) : Int)), (.own (oi 9000 21) (.slice .int) 0 0), .nils, .nils, .nils] [(ai ((y4.length : Nat) : Int)), (ai a1_0), (ai ((a1_2.length : Nat) : Int)), (.own (oi 9000 21) (.slice .int) 0 0), .nils, (.own (oi 9002 23) (.slice .int) 0 0), .nils] 23 (.slice .int) (by kernel_rfl) (by kernel_rfl) (by kernel_rfl)).trans ((weak_none_ (e1 := 23) (n := 0) 9000 (oi 9002 23) 3 .int (by kernel_rfl) (by kernel_rfl) rfl (by kernel_rfl) (by kernel_rfl)).trans (weak_ren [((oi 0 1), (oi 3 1)), ((oi 1 1), (oi 4 2)), ((oi 2 1), (oi 7 17)), ((oi 3 1), (oi 9000 21)), ((oi 4 1), (oi 9000 22)), ((oi 5 1), (oi 9002 23)), ((oi 6 1), (oi 9000 24))]))))), ⟨0, ([] : List (List Int)), ([] : List (List Int)), rfl, rfl⟩⟩ ?_
  rintro n_ _ _ c_ ⟨l12_m28, l12_m7_3, l12_m7_5, rfl, rfl⟩ h hn12
  (try dsimp only at h)
  unfold L_impl_spaceOfCircuit_l1 at h
  unfold m_impl_spaceOfCircuit_l1
  refine seqR ?_
  refine awp_seqv_ ?_
  rcases cond_some h with ⟨q15, h⟩ | ⟨q15, h⟩
  ·have q15_ := of_decide_eq_true q15
   refine awp_condT_ q15 ?_
   refine awp_skip_ (tn_ ?_)
   refine ⟨_, Weak.refl _, ?_⟩
   refine awp_seqv_ ?_
   refine awp_block_ ?_
   refine seqR ?_
   refine awp_seqv_ ?_
   obtain ⟨y19, h19, h⟩ := ob_some h
   obtain ⟨y20, h20, h⟩ := ob_some h
   obtain ⟨y21, h21, h⟩ := ob_some h
   refine awp_regionD_ 19 ?_
   refine dsl (.agg [(ai a1_0), (.tree (.pair .int (.pair .int (.pair .int .int))) a1_1), (.tree .int a1_2)]) (by kernel_rfl) ?_
   refine ds0 (ai a0) (by kernel_rfl) ?_
   refine ds0 (ai ((y4.length : Nat) : Int)) (by kernel_rfl) ?_
   refine ds0 (ai ((l12_m28 : Nat) : Int)) (by kernel_rfl) ?_
   refine dcall (.own (oi 576 9) .int 0 y19.length) [((oi 576 9), some (.arr 3 .int y19))] [(ai ((y4.length : Nat) : Int)), (ai ((l12_m28 : Nat) : Int))] _ (caps := []) (args0 := [(ai ((y4.length : Nat) : Int)), (ai ((l12_m28 : Nat) : Int))]) trivial (by kernel_rfl) (ok_impl_unit h19) hb_impl_unit ?_
   refine ds0 (.box (oi 0 1) 0) (by kernel_rfl) ?_
   refine dsl (ai a1_0) (by kernel_rfl) ?_
   refine dcall (.own (oi 624 12) .int 0 y20.length) [((oi 624 12), some (.arr 3 .int y20))] [(ai a1_0)] _ (caps := []) (args0 := [(ai a1_0)]) trivial (by kernel_rfl) (ok_impl_zeros h20) hb_impl_zeros ?_
   refine dcall (.tup [(.own (oi 640 13) .int 0 y21.1.length), (.own (oi 641 13) .int 0 y21.2.length)]) [((oi 640 13), some (.arr 3 .int y21.1)), ((oi 641 13), some (.arr 3 .int y21.2))] [(.agg [(ai a1_0), (.tree (.pair .int (.pair .int (.pair .int .int))) a1_1), (.tree .int a1_2)]), (ai a0), (.own (oi 576 9) .int 0 y19.length), (.own (oi 624 12) .int 0 y20.length)] _ (caps := []) (args0 := [(.agg [(ai a1_0), (.tree (.pair .int (.pair .int (.pair .int .int))) a1_1), (.tree .int a1_2)]), (ai a0), (.tree .int y19), (.tree .int y20)]) trivial (gm_cons (by kernel_rfl) (gm_cons (by kernel_rfl) (gm_cons (gd_own (e := 3) (by kernel_rfl) rfl) (gm_cons (gd_own (e := 3) (by kernel_rfl) rfl) gm_nil)))) (ok_impl_Circuit_step h21) hb_impl_Circuit_step ?_
   refine ds0 (.tup [(.own (oi 640 13) .int 0 y21.1.length), (.own (oi 641 13) .int 0 y21.2.length)]) (by kernel_rfl) ?_
   refine ds0 (.own (oi 640 13) .int 0 y21.1.length) (by kernel_rfl) ?_
   refine ds0 (.own (oi 641 13) .int 0 y21.2.length) (by kernel_rfl) ?_
   refine ds0 (.own (oi 640 13) .int 0 y21.1.length) (by kernel_rfl) ?_
   refine ds0 (.own (oi 641 13) .int 0 y21.2.length) (by kernel_rfl) ?_
   refine dnil (badB_spec (by kernel_rfl)) (tn_ ?_)
   refine ⟨_, Weak.refl _, ?_⟩
   obtain ⟨g22, h⟩ := og_some h
   obtain ⟨g23, h⟩ := og_some h
   refine awp_regionD_ 33 ?_
   refine ds0 (.box (oi 2 1) 3) (by kernel_rfl) ?_
   refine dsl (.own (oi 3 1) (.slice .int) 0 l12_m7_3.length) (by kernel_rfl) ?_
   refine ds0 (.own (oi 640 13) .int 0 y21.1.length) (by kernel_rfl) ?_
   refine dmkV (.own (oi 46 22) (.slice .int) 0 1) (oi 46 22) (.vec 23 1 1 ([(.own (oi 640 13) .int 0 y21.1.length)])) trivial (s_mkV (by kernel_rfl)) ?_
   refine ds2 (.own (oi 3 23) (.slice .int) 0 (l12_m7_3.length + 1)) (oi 3 1) (oi 3 23) (.vec 23 1 (l12_m7_3.length + 1) (hdL (oi 4 1) .int l12_m7_3 ++ [(.own (oi 640 13) .int 0 y21.1.length)])) (s_appVO (u := .int) (t' := (.slice .int)) (t2 := (.slice .int)) (o := (oi 3 1)) (q := (oi 46 22)) (e2 := 23) (p := (oi 4 1)) (xss := l12_m7_3) (cs := [(.own (oi 640 13) .int 0 y21.1.length)]) (len := l12_m7_3.length) (by kernel_rfl) (by kernel_rfl) rfl (by kernel_rfl) (by kernel_rfl) rfl g22) ?_
   refine ds0 (.box (oi 2 1) 5) (by kernel_rfl) ?_
   refine dsl (.own (oi 5 1) (.slice .int) 0 l12_m7_5.length) (by kernel_rfl) ?_
   refine ds0 (.own (oi 641 13) .int 0 y21.2.length) (by kernel_rfl) ?_
   refine dmkV (.own (oi 51 27) (.slice .int) 0 1) (oi 51 27) (.vec 23 1 1 ([(.own (oi 641 13) .int 0 y21.2.length)])) trivial (s_mkV (by kernel_rfl)) ?_
   refine ds2 (.own (oi 5 28) (.slice .int) 0 (l12_m7_5.length + 1)) (oi 5 1) (oi 5 28) (.vec 23 1 (l12_m7_5.length + 1) (hdL (oi 6 1) .int l12_m7_5 ++ [(.own (oi 641 13) .int 0 y21.2.length)])) (s_appVO (u := .int) (t' := (.slice .int)) (t2 := (.slice .int)) (o := (oi 5 1)) (q := (oi 51 27)) (e2 := 23) (p := (oi 6 1)) (xss := l12_m7_5) (cs := [(.own (oi 641 13) .int 0 y21.2.length)]) (len := l12_m7_5.length) (by kernel_rfl) (by kernel_rfl) rfl (by kernel_rfl) (by kernel_rfl) rfl g23) ?_
   refine ds0 (.box (oi 2 1) 3) (by kernel_rfl) ?_
   refine dsn2 (oi 2 1) (oi 2 1) (.cells 29 [(ai ((y4.length : Nat) : Int)), (ai a1_0), (ai ((a1_2.length : Nat) : Int)), (.own (oi 3 23) (.slice .int) 0 (l12_m7_3.length + 1)), .nils, (.own (oi 5 1) (.slice .int) 0 l12_m7_5.length), .nils]) (by kernel_rfl) ?_
   refine ds0 (.box (oi 2 1) 5) (by kernel_rfl) ?_
   refine dsn2 (oi 2 1) (oi 2 1) (.cells 29 [(ai ((y4.length : Nat) : Int)), (ai a1_0), (ai ((a1_2.length : Nat) : Int)), (.own (oi 3 23) (.slice .int) 0 (l12_m7_3.length + 1)), .nils, (.own (oi 5 28) (.slice .int) 0 (l12_m7_5.length + 1)), .nils]) (by kernel_rfl) ?_
   refine dnil (badB_spec (by kernel_rfl)) (bn_ (tn_ ?_))
   refine ⟨_, (weak_app_ (e1 := 23) (e := 3) (u := .int) (n := l12_m7_3.length + 1) (len := y21.1.length) (row := y21.1) (ys := y21.1) (xss := l12_m7_3) 9000 (oi 3 23) (oi 4 1) (oi 640 13) (by kernel_rfl) (by kernel_rfl) rfl (by kernel_rfl) (by kernel_rfl) (tw_le rfl) (tw_eq rfl) (by kernel_rfl) (by kernel_rfl) (by kernel_rfl)).trans (weak_app_ (e1 := 23) (e := 3) (u := .int) (n := l12_m7_5.length + 1) (len := y21.2.length) (row := y21.2) (ys := y21.2) (xss := l12_m7_5) 9000 (oi 5 28) (oi 6 1) (oi 641 13) (by kernel_rfl) (by kernel_rfl) rfl (by kernel_rfl) (by kernel_rfl) (tw_le rfl) (tw_eq rfl) (by kernel_rfl) (by kernel_rfl) (by kernel_rfl)), ?_⟩
   obtain ⟨g24, h⟩ := og_some h
   refine awp_region_ 37 ?_
   refine rs0 (ai ((l12_m28 + 1 : Nat) : Int)) (s_add1 (j := l12_m28) (by kernel_rfl) (by kernel_rfl) g24) ?_
   refine rsB 1 ?_
   refine rnil (tn_ ?_)
   obtain rfl := Option.some.inj h
   exact ⟨(l12_m28 + 1, l12_m7_3 ++ [y21.1], l12_m7_5 ++ [y21.2]), _, ((weak_ob_ (oi 2 1) (.cells 29 [(ai ((y4.length : Nat) : Int)), (ai a1_0), (ai ((a1_2.length : Nat) : Int)), (.own (oi 3 23) (.slice .int) 0 (l12_m7_3.length + 1)), .nils, (.own (oi 5 28) (.slice .int) 0 (l12_m7_5.length + 1)), .nils]) (.cells 29 [(ai ((y4.length : Nat) : Int)), (ai a1_0), (ai ((a1_2.length : Nat) : Int)), (.own (oi 3 23) (.slice .int) 0 ((l12_m7_3 ++ [y21.1]).length)), .nils, (.own (oi 5 28) (.slice .int) 0 (l12_m7_5.length + 1)), .nils]) (by kernel_rfl) (congrArg (fun z_ => (.cells 29 [(ai ((y4.length : Nat) : Int)), (ai a1_0), (ai ((a1_2.length : Nat) : Int)), (.own (oi 3 23) (.slice .int) 0 z_), .nils, (.own (oi 5 28) (.slice .int) 0 (l12_m7_5.length + 1)), .nils] : Ob)) ((by simp) : l12_m7_3.length + 1 = (l12_m7_3 ++ [y21.1]).length))).trans ((weak_ob_ (oi 2 1) (.cells 29 [(ai ((y4.length : Nat) : Int)), (ai a1_0), (ai ((a1_2.length : Nat) : Int)), (.own (oi 3 23) (.slice .int) 0 ((l12_m7_3 ++ [y21.1]).length)), .nils, (.own (oi 5 28) (.slice .int) 0 (l12_m7_5.length + 1)), .nils]) (.cells 29 [(ai ((y4.length : Nat) : Int)), (ai a1_0), (ai ((a1_2.length : Nat) : Int)), (.own (oi 3 23) (.slice .int) 0 ((l12_m7_3 ++ [y21.1]).length)), .nils, (.own (oi 5 28) (.slice .int) 0 ((l12_m7_5 ++ [y21.2]).length)), .nils]) (by kernel_rfl) (congrArg (fun z_ => (.cells 29 [(ai ((y4.length : Nat) : Int)), (ai a1_0), (ai ((a1_2.length : Nat) : Int)), (.own (oi 3 23) (.slice .int) 0 ((l12_m7_3 ++ [y21.1]).length)), .nils, (.own (oi 5 28) (.slice .int) 0 z_), .nils] : Ob)) ((by simp) : l12_m7_5.length + 1 = (l12_m7_5 ++ [y21.2]).length))).trans (weak_ren [((oi 3 1), (oi 3 23)), ((oi 4 1), (oi 9000 33)), ((oi 5 1), (oi 5 28)), ((oi 6 1), (oi 9000 34))]))), ⟨l12_m28 + 1, l12_m7_3 ++ [y21.1], l12_m7_5 ++ [y21.2], rfl, rfl⟩, hn12⟩
  have q15_ := of_decide_eq_false q15
  refine awp_condF_ q15 ?_
  refine awp_exit_ (te_ (te_ (be_ (tn_ ?_))))
  obtain rfl := Option.some.inj h
  have h := hn12
  (try dsimp only at h)
  obtain rfl := Option.some.inj h
  exact ⟨_, (weak_ren []), ⟨l12_m7_3, l12_m7_5, rfl, rfl⟩⟩
 rintro _ _ ⟨l10_m7_3, l10_m7_5, rfl, rfl⟩ h
 (try dsimp only at h)
 refine awp_seqB h (fun t_ S_ => ∃ (l25_m7_4 : List (List Int)), ∃ (l25_m7_6 : List (List Int)), t_ = (l25_m7_4, l25_m7_6) ∧ S_ = ⟨mkTm [(4, (.box (oi 0 1) 0)), (7, (.box (oi 1 1) 0))], mkOb (someL [((oi 0 1), .cells 29 [(ai 0), (ai 0), (ai 0), .nils, .nils, .nils, .nils]), ((oi 1 1), .cells 29 [(ai ((y4.length : Nat) : Int)), (ai a1_0), (ai ((a1_2.length : Nat) : Int)), (.own (oi 2 1) (.slice .int) 0 l10_m7_3.length), (.own (oi 4 1) (.slice .int) 0 l25_m7_4.length), (.own (oi 6 1) (.slice .int) 0 l10_m7_5.length), (.own (oi 8 1) (.slice .int) 0 l25_m7_6.length)]), ((oi 2 1), .mat 23 (oi 3 1) .int l10_m7_3), ((oi 3 1), .pool 3 .int l10_m7_3), ((oi 4 1), .mat 23 (oi 5 1) .int l25_m7_4), ((oi 5 1), .pool 3 .int l25_m7_4), ((oi 6 1), .mat 23 (oi 7 1) .int l10_m7_5), ((oi 7 1), .pool 3 .int l10_m7_5), ((oi 8 1), .mat 23 (oi 9 1) .int l25_m7_6), ((oi 9 1), .pool 3 .int l25_m7_6)]), 2⟩) ?_ ?_
 ·intro v_ h
  refine seqR ?_
  refine awp_block_ ?_
  refine awp_loopL h (fun t_ S_ => ∃ (l27_m58 : Nat), ∃ (l27_m7_4 : List (List Int)), ∃ (l27_m7_6 : List (List Int)), t_ = (l27_m58, l27_m7_4, l27_m7_6) ∧ S_ = ⟨mkTm [(0, (ai a0)), (3, (.box (oi 0 1) 0)), (4, (.box (oi 1 1) 0)), (6, (ai ((y4.length : Nat) : Int))), (7, (.box (oi 2 1) 0)), (57, (ai a1_0)), (58, (ai ((l27_m58 : Nat) : Int)))], mkOb (someL [((oi 0 1), .cells 34 [(ai a1_0), (.tree (.pair .int (.pair .int (.pair .int .int))) a1_1), (.tree .int a1_2)]), ((oi 1 1), .cells 29 [(ai 0), (ai 0), (ai 0), .nils, .nils, .nils, .nils]), ((oi 2 1), .cells 29 [(ai ((y4.length : Nat) : Int)), (ai a1_0), (ai ((a1_2.length : Nat) : Int)), (.own (oi 3 1) (.slice .int) 0 l10_m7_3.length), (.own (oi 5 1) (.slice .int) 0 l27_m7_4.length), (.own (oi 7 1) (.slice .int) 0 l10_m7_5.length), (.own (oi 9 1) (.slice .int) 0 l27_m7_6.length)]), ((oi 3 1), .mat 23 (oi 4 1) .int l10_m7_3), ((oi 4 1), .pool 3 .int l10_m7_3), ((oi 5 1), .mat 23 (oi 6 1) .int l27_m7_4), ((oi 6 1), .pool 3 .int l27_m7_4), ((oi 7 1), .mat 23 (oi 8 1) .int l10_m7_5), ((oi 8 1), .pool 3 .int l10_m7_5), ((oi 9 1), .mat 23 (oi 10 1) .int l27_m7_6), ((oi 10 1), .pool 3 .int l27_m7_6)]), 2⟩) ⟨_, ((weak_nil_cellV_ 9000 (oi 2 1) 4 29 [(ai ((y4.length : Nat) : Int)), (ai a1_0), (ai ((a1_2.length : Nat) : Int)), (.own (oi 3 1) (.slice .int) 0 l10_m7_3.length), .nils, (.own (oi 5 1) (.slice .int) 0 l10_m7_5.length), .nils] [(ai ((y4.length : Nat) : Int)), (ai a1_0), (ai ((a1_2.length : Nat) : Int)), (.own (oi 3 1) (.slice .int) 0 l10_m7_3.length), (.own (oi 9000 5) (.slice .int) 0 0), (.own (oi 5 1) (.slice .int) 0 l10_m7_5.length), .nils] 23 (.slice .int) (by kernel_rfl) (by kernel_rfl) (by kernel_rfl)).trans ((weak_none_ (e1 := 23) (n := 0) 9000 (oi 9000 5) 3 .int (by kernel_rfl) (by kernel_rfl) rfl (by kernel_rfl) (by kernel_rfl)).trans ((weak_nil_cellV_ 9002 (oi 2 1) 6 29 [(ai ((y4.length : Nat) : Int)), (ai a1_0), (ai ((a1_2.length : Nat) : Int)), (.own (oi 3 1) (.slice .int) 0 l10_m7_3.length), (.own (oi 9000 5) (.slice .int) 0 0), (.own (oi 5 1) (.slice .int) 0 l10_m7_5.length), .nils] [(ai ((y4.length : Nat) : Int)), (ai a1_0), (ai ((a1_2.length : Nat) : Int)), (.own (oi 3 1) (.slice .int) 0 l10_m7_3.length), (.own (oi 9000 5) (.slice .int) 0 0), (.own (oi 5 1) (.slice .int) 0 l10_m7_5.length), (.own (oi 9002 7) (.slice .int) 0 0)] 23 (.slice .int) (by kernel_rfl) (by kernel_rfl) (by kernel_rfl)).trans ((weak_none_ (e1 := 23) (n := 0) 9000 (oi 9002 7) 3 .int (by kernel_rfl) (by kernel_rfl) rfl (by kernel_rfl) (by kernel_rfl)).trans (weak_ren [((oi 5 1), (oi 9000 5)), ((oi 6 1), (oi 9000 6)), ((oi 7 1), (oi 5 1)), ((oi 8 1), (oi 6 1)), ((oi 9 1), (oi 9002 7)), ((oi 10 1), (oi 9000 8))]))))), ⟨0, ([] : List (List Int)), ([] : List (List Int)), rfl, rfl⟩⟩ ?_
  rintro n_ _ _ c_ ⟨l27_m58, l27_m7_4, l27_m7_6, rfl, rfl⟩ h hn27
  (try dsimp only at h)
  unfold L_impl_spaceOfCircuit_l2 at h
  unfold m_impl_spaceOfCircuit_l2
  refine seqR ?_
  refine awp_seqv_ ?_
  rcases cond_some h with ⟨q30, h⟩ | ⟨q30, h⟩
  ·have q30_ := of_decide_eq_true q30
   refine awp_condT_ q30 ?_
   refine awp_skip_ (tn_ ?_)
   refine ⟨_, Weak.refl _, ?_⟩
   refine awp_seqv_ ?_
   refine awp_block_ ?_
   refine seqR ?_
   refine awp_seqv_ ?_
   obtain ⟨y34, h34, h⟩ := ob_some h
   obtain ⟨y35, h35, h⟩ := ob_some h
   obtain ⟨y36, h36, h⟩ := ob_some h
   refine awp_regionD_ 19 ?_
   refine dsl (.agg [(ai a1_0), (.tree (.pair .int (.pair .int (.pair .int .int))) a1_1), (.tree .int a1_2)]) (by kernel_rfl) ?_
   refine ds0 (ai a0) (by kernel_rfl) ?_
   refine ds0 (ai ((y4.length : Nat) : Int)) (by kernel_rfl) ?_
   refine dcall (.own (oi 1040 8) .int 0 y34.length) [((oi 1040 8), some (.arr 3 .int y34))] [(ai ((y4.length : Nat) : Int))] _ (caps := []) (args0 := [(ai ((y4.length : Nat) : Int))]) trivial (by kernel_rfl) (ok_impl_zeros h34) hb_impl_zeros ?_
   refine ds0 (.box (oi 0 1) 0) (by kernel_rfl) ?_
   refine dsl (ai a1_0) (by kernel_rfl) ?_
   refine ds0 (ai ((l27_m58 : Nat) : Int)) (by kernel_rfl) ?_
   refine dcall (.own (oi 1104 12) .int 0 y35.length) [((oi 1104 12), some (.arr 3 .int y35))] [(ai a1_0), (ai ((l27_m58 : Nat) : Int))] _ (caps := []) (args0 := [(ai a1_0), (ai ((l27_m58 : Nat) : Int))]) trivial (by kernel_rfl) (ok_impl_unit h35) hb_impl_unit ?_
   refine dcall (.tup [(.own (oi 1120 13) .int 0 y36.1.length), (.own (oi 1121 13) .int 0 y36.2.length)]) [((oi 1120 13), some (.arr 3 .int y36.1)), ((oi 1121 13), some (.arr 3 .int y36.2))] [(.agg [(ai a1_0), (.tree (.pair .int (.pair .int (.pair .int .int))) a1_1), (.tree .int a1_2)]), (ai a0), (.own (oi 1040 8) .int 0 y34.length), (.own (oi 1104 12) .int 0 y35.length)] _ (caps := []) (args0 := [(.agg [(ai a1_0), (.tree (.pair .int (.pair .int (.pair .int .int))) a1_1), (.tree .int a1_2)]), (ai a0), (.tree .int y34), (.tree .int y35)]) trivial (gm_cons (by kernel_rfl) (gm_cons (by kernel_rfl) (gm_cons (gd_own (e := 3) (by kernel_rfl) rfl) (gm_cons (gd_own (e := 3) (by kernel_rfl) rfl) gm_nil)))) (ok_impl_Circuit_step h36) hb_impl_Circuit_step ?_
   refine ds0 (.tup [(.own (oi 1120 13) .int 0 y36.1.length), (.own (oi 1121 13) .int 0 y36.2.length)]) (by kernel_rfl) ?_
   refine ds0 (.own (oi 1120 13) .int 0 y36.1.length) (by kernel_rfl) ?_
   refine ds0 (.own (oi 1121 13) .int 0 y36.2.length) (by kernel_rfl) ?_
   refine ds0 (.own (oi 1120 13) .int 0 y36.1.length) (by kernel_rfl) ?_
   refine ds0 (.own (oi 1121 13) .int 0 y36.2.length) (by kernel_rfl) ?_
   refine dnil (badB_spec (by kernel_rfl)) (tn_ ?_)
   refine ⟨_, Weak.refl _, ?_⟩
   obtain ⟨g37, h⟩ := og_some h
   obtain ⟨g38, h⟩ := og_some h
   refine awp_regionD_ 33 ?_
   refine ds0 (.box (oi 2 1) 4) (by kernel_rfl) ?_
   refine dsl (.own (oi 5 1) (.slice .int) 0 l27_m7_4.length) (by kernel_rfl) ?_
   refine ds0 (.own (oi 1120 13) .int 0 y36.1.length) (by kernel_rfl) ?_
   refine dmkV (.own (oi 76 22) (.slice .int) 0 1) (oi 76 22) (.vec 23 1 1 ([(.own (oi 1120 13) .int 0 y36.1.length)])) trivial (s_mkV (by kernel_rfl)) ?_
   refine ds2 (.own (oi 5 23) (.slice .int) 0 (l27_m7_4.length + 1)) (oi 5 1) (oi 5 23) (.vec 23 1 (l27_m7_4.length + 1) (hdL (oi 6 1) .int l27_m7_4 ++ [(.own (oi 1120 13) .int 0 y36.1.length)])) (s_appVO (u := .int) (t' := (.slice .int)) (t2 := (.slice .int)) (o := (oi 5 1)) (q := (oi 76 22)) (e2 := 23) (p := (oi 6 1)) (xss := l27_m7_4) (cs := [(.own (oi 1120 13) .int 0 y36.1.length)]) (len := l27_m7_4.length) (by kernel_rfl) (by kernel_rfl) rfl (by kernel_rfl) (by kernel_rfl) rfl g37) ?_
   refine ds0 (.box (oi 2 1) 6) (by kernel_rfl) ?_
   refine dsl (.own (oi 9 1) (.slice .int) 0 l27_m7_6.length) (by kernel_rfl) ?_
   refine ds0 (.own (oi 1121 13) .int 0 y36.2.length) (by kernel_rfl) ?_
   refine dmkV (.own (oi 81 27) (.slice .int) 0 1) (oi 81 27) (.vec 23 1 1 ([(.own (oi 1121 13) .int 0 y36.2.length)])) trivial (s_mkV (by kernel_rfl)) ?_
   refine ds2 (.own (oi 9 28) (.slice .int) 0 (l27_m7_6.length + 1)) (oi 9 1) (oi 9 28) (.vec 23 1 (l27_m7_6.length + 1) (hdL (oi 10 1) .int l27_m7_6 ++ [(.own (oi 1121 13) .int 0 y36.2.length)])) (s_appVO (u := .int) (t' := (.slice .int)) (t2 := (.slice .int)) (o := (oi 9 1)) (q := (oi 81 27)) (e2 := 23) (p := (oi 10 1)) (xss := l27_m7_6) (cs := [(.own (oi 1121 13) .int 0 y36.2.length)]) (len := l27_m7_6.length) (by kernel_rfl) (by kernel_rfl) rfl (by kernel_rfl) (by kernel_rfl) rfl g38) ?_
   refine ds0 (.box (oi 2 1) 4) (by kernel_rfl) ?_
   refine dsn2 (oi 2 1) (oi 2 1) (.cells 29 [(ai ((y4.length : Nat) : Int)), (ai a1_0), (ai ((a1_2.length : Nat) : Int)), (.own (oi 3 1) (.slice .int) 0 l10_m7_3.length), (.own (oi 5 23) (.slice .int) 0 (l27_m7_4.length + 1)), (.own (oi 7 1) (.slice .int) 0 l10_m7_5.length), (.own (oi 9 1) (.slice .int) 0 l27_m7_6.length)]) (by kernel_rfl) ?_
   refine ds0 (.box (oi 2 1) 6) (by kernel_rfl) ?_
   refine dsn2 (oi 2 1) (oi 2 1) (.cells 29 [(ai ((y4.length : Nat) : Int)), (ai a1_0), (ai ((a1_2.length : Nat) : Int)), (.own (oi 3 1) (.slice .int) 0 l10_m7_3.length), (.own (oi 5 23) (.slice .int) 0 (l27_m7_4.length + 1)), (.own (oi 7 1) (.slice .int) 0 l10_m7_5.length), (.own (oi 9 28) (.slice .int) 0 (l27_m7_6.length + 1))]) (by kernel_rfl) ?_
   refine dnil (badB_spec (by kernel_rfl)) (bn_ (tn_ ?_))
   refine ⟨_, (weak_app_ (e1 := 23) (e := 3) (u := .int) (n := l27_m7_4.length + 1) (len := y36.1.length) (row := y36.1) (ys := y36.1) (xss := l27_m7_4) 9000 (oi 5 23) (oi 6 1) (oi 1120 13) (by kernel_rfl) (by kernel_rfl) rfl (by kernel_rfl) (by kernel_rfl) (tw_le rfl) (tw_eq rfl) (by kernel_rfl) (by kernel_rfl) (by kernel_rfl)).trans (weak_app_ (e1 := 23) (e := 3) (u := .int) (n := l27_m7_6.length + 1) (len := y36.2.length) (row := y36.2) (ys := y36.2) (xss := l27_m7_6) 9000 (oi 9 28) (oi 10 1) (oi 1121 13) (by kernel_rfl) (by kernel_rfl) rfl (by kernel_rfl) (by kernel_rfl) (tw_le rfl) (tw_eq rfl) (by kernel_rfl) (by kernel_rfl) (by kernel_rfl)), ?_⟩
   obtain ⟨g39, h⟩ := og_some h
   refine awp_region_ 37 ?_
   refine rs0 (ai ((l27_m58 + 1 : Nat) : Int)) (s_add1 (j := l27_m58) (by kernel_rfl) (by kernel_rfl) g39) ?_
   refine rsB 1 ?_
   refine rnil (tn_ ?_)
   obtain rfl := Option.some.inj h
   exact ⟨(l27_m58 + 1, l27_m7_4 ++ [y36.1], l27_m7_6 ++ [y36.2]), _, ((weak_ob_ (oi 2 1) (.cells 29 [(ai ((y4.length : Nat) : Int)), (ai a1_0), (ai ((a1_2.length : Nat) : Int)), (.own (oi 3 1) (.slice .int) 0 l10_m7_3.length), (.own (oi 5 23) (.slice .int) 0 (l27_m7_4.length + 1)), (.own (oi 7 1) (.slice .int) 0 l10_m7_5.length), (.own (oi 9 28) (.slice .int) 0 (l27_m7_6.length + 1))]) (.cells 29 [(ai ((y4.length : Nat) : Int)), (ai a1_0), (ai ((a1_2.length : Nat) : Int)), (.own (oi 3 1) (.slice .int) 0 l10_m7_3.length), (.own (oi 5 23) (.slice .int) 0 ((l27_m7_4 ++ [y36.1]).length)), (.own (oi 7 1) (.slice .int) 0 l10_m7_5.length), (.own (oi 9 28) (.slice .int) 0 (l27_m7_6.length + 1))]) (by kernel_rfl) (congrArg (fun z_ => (.cells 29 [(ai ((y4.length : Nat) : Int)), (ai a1_0), (ai ((a1_2.length : Nat) : Int)), (.own (oi 3 1) (.slice .int) 0 l10_m7_3.length), (.own (oi 5 23) (.slice .int) 0 z_), (.own (oi 7 1) (.slice .int) 0 l10_m7_5.length), (.own (oi 9 28) (.slice .int) 0 (l27_m7_6.length + 1))] : Ob)) ((by simp) : l27_m7_4.length + 1 = (l27_m7_4 ++ [y36.1]).length))).trans ((weak_ob_ (oi 2 1) (.cells 29 [(ai ((y4.length : Nat) : Int)), (ai a1_0), (ai ((a1_2.length : Nat) : Int)), (.own (oi 3 1) (.slice .int) 0 l10_m7_3.length), (.own (oi 5 23) (.slice .int) 0 ((l27_m7_4 ++ [y36.1]).length)), (.own (oi 7 1) (.slice .int) 0 l10_m7_5.length), (.own (oi 9 28) (.slice .int) 0 (l27_m7_6.length + 1))]) (.cells 29 [(ai ((y4.length : Nat) : Int)), (ai a1_0), (ai ((a1_2.length : Nat) : Int)), (.own (oi 3 1) (.slice .int) 0 l10_m7_3.length), (.own (oi 5 23) (.slice .int) 0 ((l27_m7_4 ++ [y36.1]).length)), (.own (oi 7 1) (.slice .int) 0 l10_m7_5.length), (.own (oi 9 28) (.slice .int) 0 ((l27_m7_6 ++ [y36.2]).length))]) (by kernel_rfl) (congrArg (fun z_ => (.cells 29 [(ai ((y4.length : Nat) : Int)), (ai a1_0), (ai ((a1_2.length : Nat) : Int)), (.own (oi 3 1) (.slice .int) 0 l10_m7_3.length), (.own (oi 5 23) (.slice .int) 0 ((l27_m7_4 ++ [y36.1]).length)), (.own (oi 7 1) (.slice .int) 0 l10_m7_5.length), (.own (oi 9 28) (.slice .int) 0 z_)] : Ob)) ((by simp) : l27_m7_6.length + 1 = (l27_m7_6 ++ [y36.2]).length))).trans (weak_ren [((oi 5 1), (oi 5 23)), ((oi 6 1), (oi 9000 33)), ((oi 9 1), (oi 9 28)), ((oi 10 1), (oi 9000 34))]))), ⟨l27_m58 + 1, l27_m7_4 ++ [y36.1], l27_m7_6 ++ [y36.2], rfl, rfl⟩, hn27⟩
  have q30_ := of_decide_eq_false q30
  refine awp_condF_ q30 ?_
  refine awp_exit_ (te_ (te_ (be_ (tn_ ?_))))
  obtain rfl := Option.some.inj h
  have h := hn27
  (try dsimp only at h)
  obtain rfl := Option.some.inj h
  exact ⟨_, (weak_ren [((oi 0 1), (oi 1 1)), ((oi 1 1), (oi 2 1)), ((oi 2 1), (oi 3 1)), ((oi 3 1), (oi 4 1)), ((oi 4 1), (oi 5 1)), ((oi 5 1), (oi 6 1)), ((oi 6 1), (oi 7 1)), ((oi 7 1), (oi 8 1)), ((oi 8 1), (oi 9 1)), ((oi 9 1), (oi 10 1))]), ⟨l27_m7_4, l27_m7_6, rfl, rfl⟩⟩
 rintro _ _ ⟨l25_m7_4, l25_m7_6, rfl, rfl⟩ h
 (try dsimp only at h)
 refine seqR ?_
 refine awp_ret_ ?_
 obtain rfl := Option.some.inj h
 exact retM_ [(.agg [(ai ((y4.length : Nat) : Int)), (ai a1_0), (ai ((a1_2.length : Nat) : Int)), (.own (oi 1 1) (.slice .int) 0 l10_m7_3.length), (.own (oi 3 1) (.slice .int) 0 l25_m7_4.length), (.own (oi 5 1) (.slice .int) 0 l10_m7_5.length), (.own (oi 7 1) (.slice .int) 0 l25_m7_6.length)]), (.bool true)] (weak_ren (tl := [(4, (.box (oi 0 1) 0)), (5, (.bool true))]) (g := 2) [((oi 1 1), (oi 2 1)), ((oi 2 1), (oi 3 1)), ((oi 3 1), (oi 4 1)), ((oi 4 1), (oi 5 1)), ((oi 5 1), (oi 6 1)), ((oi 6 1), (oi 7 1)), ((oi 7 1), (oi 8 1)), ((oi 8 1), (oi 9 1))])
def m_impl_SpaceOfCircuit : AC :=
 (.seq (rg [xo 3 (.i (.box 34 (tm 1))), xo 4 (.i (.alloc 29 [(.int .i64 0), (.int .i64 0), (.int .i64 0), .nils, .nils, .nils, .nils])), xo 5 (qm (cb false))])
 (.seq (.seq (rg [xo 6 (qm (tm 0)), xo 7 (.i (.ld false 3 (tm 3))), ⟨(some 8), none, (qc 20 [(tm 6), (tm 7)] [[], [none, (some (.pair .int (.pair .int (.pair .int .int)))), (some .int)]])⟩, xo 9 (.i (.not (tm 8)))])
 (.cond (tm 9)
  (.seq (rg [xo 10 (.build [(.int .i64 0), (.int .i64 0), (.int .i64 0), .nils, .nils, .nils, .nils] []), xn (.st false 7 (tm 4) (tm 10)), xo 5 (qm (cb false))])
  .ret)
  .skip))
 (.seq (rg [xo 11 (qm (tm 0)), xo 12 (.i (.ld false 3 (tm 3))), ⟨(some 13), none, (qc 21 [(tm 11), (tm 12)] [[], [none, (some (.pair .int (.pair .int (.pair .int .int)))), (some .int)]])⟩, xo 14 (.i (.extr 0 (tm 13))), xo 15 (.i (.extr 1 (tm 13))), xn (.st false 7 (tm 4) (tm 14)), xo 5 (qm (tm 15))])
 .ret)))
def r_impl_SpaceOfCircuit : List Res := [.cell 4 false 7, .tmp 5]
theorem c_impl_SpaceOfCircuit : compiled Tryd.prog Tryd.f7 = some (m_impl_SpaceOfCircuit, r_impl_SpaceOfCircuit) := by kernel_rfl
theorem hb_impl_SpaceOfCircuit : hasBody Tryd.prog 7 = true := by kernel_rfl
def L_impl_SpaceOfCircuit (a0 : Int) (a1_0 : Int) (a1_1 : List (Int × Int × Int × Int)) (a1_2 : List Int) : Option (Bool × Nat × Int × Nat × List (List Int) × List (List Int) × List (List Int) × List (List Int)) :=
 Option.bind (L_impl_isCircuit a0 a1_0 a1_1 a1_2) fun y5 =>
cond (!y5)
 (some (false, 0, 0, 0, ([] : List (List Int)), ([] : List (List Int)), ([] : List (List Int)), ([] : List (List Int))))
 (Option.bind (L_impl_spaceOfCircuit a0 a1_0 a1_1 a1_2) fun y9 =>
 some (y9.1, y9.2.1, y9.2.2.1, y9.2.2.2.1, y9.2.2.2.2.1, y9.2.2.2.2.2.1, y9.2.2.2.2.2.2.1, y9.2.2.2.2.2.2.2))
theorem ok_impl_SpaceOfCircuit {a0 : Int} {a1_0 : Int} {a1_1 : List (Int × Int × Int × Int)} {a1_2 : List Int} {r : Bool × Nat × Int × Nat × List (List Int) × List (List Int) × List (List Int) × List (List Int)} (h : L_impl_SpaceOfCircuit a0 a1_0 a1_1 a1_2 = some r) : CallM Tryd.prog Tab 7 [(ai a0), (.agg [(ai a1_0), (.tree (.pair .int (.pair .int (.pair .int .int))) a1_1), (.tree .int a1_2)])] [] (.tup [(.agg [(ai ((r.2.1 : Nat) : Int)), (ai r.2.2.1), (ai ((r.2.2.2.1 : Nat) : Int)), (.own (oi 1 1) (.slice .int) 0 r.2.2.2.2.1.length), (.own (oi 3 1) (.slice .int) 0 r.2.2.2.2.2.1.length), (.own (oi 5 1) (.slice .int) 0 r.2.2.2.2.2.2.1.length), (.own (oi 7 1) (.slice .int) 0 r.2.2.2.2.2.2.2.length)]), (.bool r.1)]) [((oi 0 1), .cells 29 [(ai ((r.2.1 : Nat) : Int)), (ai r.2.2.1), (ai ((r.2.2.2.1 : Nat) : Int)), (.own (oi 1 1) (.slice .int) 0 r.2.2.2.2.1.length), (.own (oi 3 1) (.slice .int) 0 r.2.2.2.2.2.1.length), (.own (oi 5 1) (.slice .int) 0 r.2.2.2.2.2.2.1.length), (.own (oi 7 1) (.slice .int) 0 r.2.2.2.2.2.2.2.length)]), ((oi 1 1), .mat 23 (oi 2 1) .int r.2.2.2.2.1), ((oi 2 1), .pool 3 .int r.2.2.2.2.1), ((oi 3 1), .mat 23 (oi 4 1) .int r.2.2.2.2.2.1), ((oi 4 1), .pool 3 .int r.2.2.2.2.2.1), ((oi 5 1), .mat 23 (oi 6 1) .int r.2.2.2.2.2.2.1), ((oi 6 1), .pool 3 .int r.2.2.2.2.2.2.1), ((oi 7 1), .mat 23 (oi 8 1) .int r.2.2.2.2.2.2.2), ((oi 8 1), .pool 3 .int r.2.2.2.2.2.2.2)] := by
 refine callM_of_ (by kernel_rfl) Tryd.func7 c_impl_SpaceOfCircuit (n := 16) (by kernel_rfl) (by simp) (tl := [(0, (ai a0)), (1, (.agg [(ai a1_0), (.tree (.pair .int (.pair .int (.pair .int .int))) a1_1), (.tree .int a1_2)]))]) rfl (by kernel_rfl) trivial ⟨trivial, ⟨⟨3, (.tail _ (.tail _ (.head _)))⟩, ⟨trivial, ⟨⟨3, (.tail _ (.tail _ (.tail _ (.tail _ (.head _)))))⟩, ⟨trivial, ⟨⟨3, (.tail _ (.tail _ (.tail _ (.tail _ (.tail _ (.tail _ (.head _)))))))⟩, ⟨trivial, ⟨⟨3, (.tail _ (.tail _ (.tail _ (.tail _ (.tail _ (.tail _ (.tail _ (.tail _ (.head _)))))))))⟩, ⟨trivial, trivial⟩⟩⟩⟩⟩⟩⟩⟩⟩ ?_
 unfold m_impl_SpaceOfCircuit
 unfold L_impl_SpaceOfCircuit at h
 refine seqR ?_
 refine awp_seqv_ ?_
 refine awp_seqv_ ?_
 obtain ⟨y5, h5, h⟩ := ob_some h
 refine awp_region_ 8 ?_
 refine rs0 (ai a0) (by kernel_rfl) ?_
 refine rsl (.agg [(ai a1_0), (.tree (.pair .int (.pair .int (.pair .int .int))) a1_1), (.tree .int a1_2)]) (by kernel_rfl) ?_
 refine rcall (.bool y5) [] [(ai a0), (.agg [(ai a1_0), (.tree (.pair .int (.pair .int (.pair .int .int))) a1_1), (.tree .int a1_2)])] _ (caps := []) (args0 := [(ai a0), (.agg [(ai a1_0), (.tree (.pair .int (.pair .int (.pair .int .int))) a1_1), (.tree .int a1_2)])]) trivial (by kernel_rfl) (ok_impl_isCircuit h5) hb_impl_isCircuit ?_
 refine rsB 1 ?_
 refine rnil (tn_ ?_)
 refine ⟨_, Weak.refl _, ?_⟩
 rcases cond_some h with ⟨q6, h⟩ | ⟨q6, h⟩
 ·refine awp_condT_ q6 ?_
  refine seqR ?_
  refine awp_ret_ (tr_ ?_)
  obtain rfl := Option.some.inj h
  exact retM_ [(.agg [(ai ((0 : Nat) : Int)), (ai 0), (ai ((0 : Nat) : Int)), (.own (oi 1 1) (.slice .int) 0 ((([] : List (List Int))).length)), (.own (oi 3 1) (.slice .int) 0 ((([] : List (List Int))).length)), (.own (oi 5 1) (.slice .int) 0 ((([] : List (List Int))).length)), (.own (oi 7 1) (.slice .int) 0 ((([] : List (List Int))).length))]), (.bool false)] ((weak_nil_cellV_ 9000 (oi 4 2) 3 29 [(ai 0), (ai 0), (ai 0), .nils, .nils, .nils, .nils] [(ai 0), (ai 0), (ai 0), (.own (oi 9000 11) (.slice .int) 0 0), .nils, .nils, .nils] 23 (.slice .int) (by kernel_rfl) (by kernel_rfl) (by kernel_rfl)).trans ((weak_none_ (e1 := 23) (n := 0) 9000 (oi 9000 11) 3 .int (by kernel_rfl) (by kernel_rfl) rfl (by kernel_rfl) (by kernel_rfl)).trans ((weak_nil_cellV_ 9002 (oi 4 2) 4 29 [(ai 0), (ai 0), (ai 0), (.own (oi 9000 11) (.slice .int) 0 0), .nils, .nils, .nils] [(ai 0), (ai 0), (ai 0), (.own (oi 9000 11) (.slice .int) 0 0), (.own (oi 9002 13) (.slice .int) 0 0), .nils, .nils] 23 (.slice .int) (by kernel_rfl) (by kernel_rfl) (by kernel_rfl)).trans ((weak_none_ (e1 := 23) (n := 0) 9000 (oi 9002 13) 3 .int (by kernel_rfl) (by kernel_rfl) rfl (by kernel_rfl) (by kernel_rfl)).trans ((weak_nil_cellV_ 9004 (oi 4 2) 5 29 [(ai 0), (ai 0), (ai 0), (.own (oi 9000 11) (.slice .int) 0 0), (.own (oi 9002 13) (.slice .int) 0 0), .nils, .nils] [(ai 0), (ai 0), (ai 0), (.own (oi 9000 11) (.slice .int) 0 0), (.own (oi 9002 13) (.slice .int) 0 0), (.own (oi 9004 15) (.slice .int) 0 0), .nils] 23 (.slice .int) (by kernel_rfl) (by kernel_rfl) (by kernel_rfl)).trans ((weak_none_ (e1 := 23) (n := 0) 9000 (oi 9004 15) 3 .int (by kernel_rfl) (by kernel_rfl) rfl (by kernel_rfl) (by kernel_rfl)).trans ((weak_nil_cellV_ 9006 (oi 4 2) 6 29 [(ai 0), (ai 0), (ai 0), (.own (oi 9000 11) (.slice .int) 0 0), (.own (oi 9002 13) (.slice .int) 0 0), (.own (oi 9004 15) (.slice .int) 0 0), .nils] [(ai 0), (ai 0), (ai 0), (.own (oi 9000 11) (.slice .int) 0 0), (.own (oi 9002 13) (.slice .int) 0 0), (.own (oi 9004 15) (.slice .int) 0 0), (.own (oi 9006 17) (.slice .int) 0 0)] 23 (.slice .int) (by kernel_rfl) (by kernel_rfl) (by kernel_rfl)).trans ((weak_none_ (e1 := 23) (n := 0) 9000 (oi 9006 17) 3 .int (by kernel_rfl) (by kernel_rfl) rfl (by kernel_rfl) (by kernel_rfl)).trans (weak_ren (tl := [(4, (.box (oi 0 1) 0)), (5, (.bool false))]) (g := 2) [((oi 0 1), (oi 4 2)), ((oi 1 1), (oi 9000 11)), ((oi 2 1), (oi 9000 12)), ((oi 3 1), (oi 9002 13)), ((oi 4 1), (oi 9000 14)), ((oi 5 1), (oi 9004 15)), ((oi 6 1), (oi 9000 16)), ((oi 7 1), (oi 9006 17)), ((oi 8 1), (oi 9000 18))])))))))))
 refine awp_condF_ q6 ?_
 refine awp_skip_ (tn_ ?_)
 refine ⟨_, Weak.refl _, ?_⟩
 refine awp_seqv_ ?_
 obtain ⟨y9, h9, h⟩ := ob_some h
 refine awp_region_ 15 ?_
 refine rs0 (ai a0) (by kernel_rfl) ?_
 refine rsl (.agg [(ai a1_0), (.tree (.pair .int (.pair .int (.pair .int .int))) a1_1), (.tree .int a1_2)]) (by kernel_rfl) ?_
 refine rcallM (.tup [(.agg [(ai ((y9.2.1 : Nat) : Int)), (ai y9.2.2.1), (ai ((y9.2.2.2.1 : Nat) : Int)), (.own (oi 209 10) (.slice .int) 0 y9.2.2.2.2.1.length), (.own (oi 211 10) (.slice .int) 0 y9.2.2.2.2.2.1.length), (.own (oi 213 10) (.slice .int) 0 y9.2.2.2.2.2.2.1.length), (.own (oi 215 10) (.slice .int) 0 y9.2.2.2.2.2.2.2.length)]), (.bool y9.1)]) [((oi 208 10), some (.cells 29 [(ai ((y9.2.1 : Nat) : Int)), (ai y9.2.2.1), (ai ((y9.2.2.2.1 : Nat) : Int)), (.own (oi 209 10) (.slice .int) 0 y9.2.2.2.2.1.length), (.own (oi 211 10) (.slice .int) 0 y9.2.2.2.2.2.1.length), (.own (oi 213 10) (.slice .int) 0 y9.2.2.2.2.2.2.1.length), (.own (oi 215 10) (.slice .int) 0 y9.2.2.2.2.2.2.2.length)])), ((oi 209 10), some (.mat 23 (oi 210 10) .int y9.2.2.2.2.1)), ((oi 210 10), some (.pool 3 .int y9.2.2.2.2.1)), ((oi 211 10), some (.mat 23 (oi 212 10) .int y9.2.2.2.2.2.1)), ((oi 212 10), some (.pool 3 .int y9.2.2.2.2.2.1)), ((oi 213 10), some (.mat 23 (oi 214 10) .int y9.2.2.2.2.2.2.1)), ((oi 214 10), some (.pool 3 .int y9.2.2.2.2.2.2.1)), ((oi 215 10), some (.mat 23 (oi 216 10) .int y9.2.2.2.2.2.2.2)), ((oi 216 10), some (.pool 3 .int y9.2.2.2.2.2.2.2))] [] [(ai a0), (.agg [(ai a1_0), (.tree (.pair .int (.pair .int (.pair .int .int))) a1_1), (.tree .int a1_2)])] (caps := []) trivial (ok_impl_spaceOfCircuit h9) hb_impl_spaceOfCircuit trivial (.cons (.ren (by kernel_rfl)) (.cons (.ren (by kernel_rfl)) .nil)) (reachL_mem (by kernel_rfl) (by kernel_rfl) trivial) ?_
 refine rsB 4 ?_
 refine rnil (tn_ ?_)
 refine ⟨_, Weak.refl _, ?_⟩
 refine awp_ret_ ?_
 obtain rfl := Option.some.inj h
 exact retM_ [(.agg [(ai ((y9.2.1 : Nat) : Int)), (ai y9.2.2.1), (ai ((y9.2.2.2.1 : Nat) : Int)), (.own (oi 1 1) (.slice .int) 0 y9.2.2.2.2.1.length), (.own (oi 3 1) (.slice .int) 0 y9.2.2.2.2.2.1.length), (.own (oi 5 1) (.slice .int) 0 y9.2.2.2.2.2.2.1.length), (.own (oi 7 1) (.slice .int) 0 y9.2.2.2.2.2.2.2.length)]), (.bool y9.1)] (weak_ren (tl := [(4, (.box (oi 0 1) 0)), (5, (.bool y9.1))]) (g := 2) [((oi 0 1), (oi 4 2)), ((oi 1 1), (oi 209 10)), ((oi 2 1), (oi 210 10)), ((oi 3 1), (oi 211 10)), ((oi 4 1), (oi 212 10)), ((oi 5 1), (oi 213 10)), ((oi 6 1), (oi 214 10)), ((oi 7 1), (oi 215 10)), ((oi 8 1), (oi 216 10))])
def m_spec_ssOfCircuit_l2 : AC :=
 (.seq (.seq (rg [xo 54 (qm (tm 9)), xo 55 (qf 1 (tm 5)), xo 56 (ql (tm 55)), xo 57 (qb .lss (tm 54) (tm 56))])
 (.cond (tm 57)
  .skip
  (.exit 2)))
 (.seq (.block 3 (.seq (.region [xo 61 (qm (tm 0)), xo 62 (.i (.ld false 3 (tm 3))), xo 63 (qf 0 (tm 5)), xo 64 (ql (tm 63)), xo 65 (.make 3 .int 8 (tm 64) (tm 64)), xo 66 (qf 1 (tm 5)), xo 67 (ql (tm 66)), xo 68 (qm (tm 9)), xo 69 (qc 36 [(tm 67), (tm 68)] [[], []]), ⟨(some 70), none, (qc 35 [(tm 61), (tm 62), (tm 65), (tm 69)] [[], [none, (some (.pair .int (.pair .int (.pair .int .int)))), (some .int)], [(some .int)], [(some .int)]])⟩, xo 60 (qm (tm 70)), xo 71 (.i (.extr 0 (tm 60))), xo 72 (.i (.extr 1 (tm 60))), xo 10 (qm (tm 71)), xo 11 (qm (tm 72))] true [(1, 8), (3, 8), (4, 8)])
 (.seq (.region [xo 73 (qf 4 (tm 5)), xo 74 (ql (tm 73)), xo 75 (qm (tm 10)), xo 76 (qc 37 [(tm 75)] [[(some .int)]]), xo 77 (.mkV 23 (.slice .int) 1 [(tm 76)]), xo 78 (.appV 23 (.slice .int) 24 (tm 74) (tm 77)), xo 79 (qf 4 (tm 5)), xn (qs (tm 79) (tm 78))] true [(1, 3), (1, 4)])
 (.region [xo 80 (qf 6 (tm 5)), xo 81 (ql (tm 80)), xo 82 (qm (tm 11)), xo 83 (qc 37 [(tm 82)] [[(some .int)]]), xo 84 (.mkV 23 (.slice .int) 1 [(tm 83)]), xo 85 (.appV 23 (.slice .int) 24 (tm 81) (tm 84)), xo 86 (qf 6 (tm 5)), xn (qs (tm 86) (tm 85))] true [(1, 3), (1, 4)]))))
 (rg [xo 58 (qm (tm 9)), xo 59 (qb .add (tm 58) (ci 1)), xo 9 (qm (tm 59))])))
def m_spec_ssOfCircuit_l1 : AC :=
 (.seq (.seq (rg [xo 21 (qm (tm 6)), xo 22 (qf 0 (tm 5)), xo 23 (ql (tm 22)), xo 24 (qb .lss (tm 21) (tm 23))])
 (.cond (tm 24)
  .skip
  (.exit 0)))
 (.seq (.block 1 (.seq (.region [xo 28 (qm (tm 0)), xo 29 (.i (.ld false 3 (tm 3))), xo 30 (qf 0 (tm 5)), xo 31 (ql (tm 30)), xo 32 (qm (tm 6)), xo 33 (qc 36 [(tm 31), (tm 32)] [[], []]), xo 34 (qf 1 (tm 5)), xo 35 (ql (tm 34)), xo 36 (.make 3 .int 8 (tm 35) (tm 35)), ⟨(some 37), none, (qc 35 [(tm 28), (tm 29), (tm 33), (tm 36)] [[], [none, (some (.pair .int (.pair .int (.pair .int .int)))), (some .int)], [(some .int)], [(some .int)]])⟩, xo 27 (qm (tm 37)), xo 38 (.i (.extr 0 (tm 27))), xo 39 (.i (.extr 1 (tm 27))), xo 7 (qm (tm 38)), xo 8 (qm (tm 39))] true [(1, 5), (5, 7), (5, 8)])
 (.seq (.region [xo 40 (qf 3 (tm 5)), xo 41 (ql (tm 40)), xo 42 (qm (tm 7)), xo 43 (qc 37 [(tm 42)] [[(some .int)]]), xo 44 (.mkV 23 (.slice .int) 1 [(tm 43)]), xo 45 (.appV 23 (.slice .int) 24 (tm 41) (tm 44)), xo 46 (qf 3 (tm 5)), xn (qs (tm 46) (tm 45))] true [(1, 3), (1, 4)])
 (.region [xo 47 (qf 5 (tm 5)), xo 48 (ql (tm 47)), xo 49 (qm (tm 8)), xo 50 (qc 37 [(tm 49)] [[(some .int)]]), xo 51 (.mkV 23 (.slice .int) 1 [(tm 50)]), xo 52 (.appV 23 (.slice .int) 24 (tm 48) (tm 51)), xo 53 (qf 5 (tm 5)), xn (qs (tm 53) (tm 52))] true [(1, 3), (1, 4)]))))
 (rg [xo 25 (qm (tm 6)), xo 26 (qb .add (tm 25) (ci 1)), xo 6 (qm (tm 26))])))
def m_spec_ssOfCircuit : AC :=
 (.seq (rg [xo 3 (.i (.box 34 (tm 1))), xo 4 (.i (.alloc 29 [(.int .i64 0), (.int .i64 0), (.int .i64 0), .nils, .nils, .nils, .nils]))])
 (.seq (.region [xo 12 (.i (.ld false 3 (tm 3))), ⟨(some 13), none, (qc 16 [(tm 12)] [[none, (some (.pair .int (.pair .int (.pair .int .int)))), (some .int)]])⟩, xo 14 (.i (.len (tm 13))), xo 15 (qf 0 (tm 3)), xo 16 (ql (tm 15)), xo 17 (qf 2 (tm 3)), xo 18 (ql (tm 17)), xo 19 (.i (.len (tm 18))), xo 20 (.build [(.int .i64 0), (.int .i64 0), (.int .i64 0), .nils, .nils, .nils, .nils] [(0, 1, (tm 14)), (1, 1, (tm 16)), (2, 1, (tm 19))]), xo 5 (.i (.alloc 29 [(.int .i64 0), (.int .i64 0), (.int .i64 0), .nils, .nils, .nils, .nils])), xn (.st false 7 (tm 5) (tm 20))] true [(1, 4), (1, 6), (1, 9)])
 (.seq (.seq (rg [xo 6 (qm (ci 0))])
 (.block 0 (.loop m_spec_ssOfCircuit_l1)))
 (.seq (.seq (rg [xo 9 (qm (ci 0))])
 (.block 2 (.loop m_spec_ssOfCircuit_l2)))
 (.seq (rg [xo 87 (.i (.ld false 7 (tm 5))), xn (.st false 7 (tm 4) (tm 87))])
 .ret)))))
def r_spec_ssOfCircuit : List Res := [.cell 4 false 7]
theorem c_spec_ssOfCircuit : compiled Tryd.prog Tryd.f17 = some (m_spec_ssOfCircuit, r_spec_ssOfCircuit) := by kernel_rfl
theorem hb_spec_ssOfCircuit : hasBody Tryd.prog 17 = true := by kernel_rfl
def L_spec_ssOfCircuit_l1 (y4 : List Int) (a1_0 : Int) (a0 : Int) (a1_1 : List (Int × Int × Int × Int)) (a1_2 : List Int) (l7_m6 : Nat) (l7_m5_3 : List (List Int)) (l7_m5_5 : List (List Int)) : Option (Ctl (Nat × List (List Int) × List (List Int)) (List (List Int) × List (List Int))) :=
 cond (decide (((l7_m6 : Nat) : Int) < ((y4.length : Nat) : Int)))
 (Option.bind (L_spec_ssUnit ((y4.length : Nat) : Int) ((l7_m6 : Nat) : Int)) fun y13 =>
 og (0 ≤ a1_0 ∧ a1_0 ≤ a1_0 ∧ a1_0 ≤ 1073741824 ∧ (8 : Int) * a1_0 ≤ 140737488355328) <|
 Option.bind (L_spec_crStep a0 a1_0 a1_1 a1_2 y13 (List.replicate a1_0.toNat (0 : Int))) fun y15 =>
 Option.bind (L_spec_l1Own y15.1) fun y17 =>
 og (l7_m5_3.length + 1 ≤ 1073741824 ∧ (l7_m5_3.length + 1) * 24 ≤ 140737488355328) <|
 Option.bind (L_spec_l1Own y15.2) fun y19 =>
 og (l7_m5_5.length + 1 ≤ 1073741824 ∧ (l7_m5_5.length + 1) * 24 ≤ 140737488355328) <|
 og (l7_m6 + 1 < 4611686018427387904) <|
 some (Ctl.next (l7_m6 + 1, l7_m5_3 ++ [y17], l7_m5_5 ++ [y19])))
 (some (Ctl.out (l7_m5_3, l7_m5_5)))
def L_spec_ssOfCircuit_l2 (a1_0 : Int) (y4 : List Int) (a0 : Int) (a1_1 : List (Int × Int × Int × Int)) (a1_2 : List Int) (l24_m9 : Nat) (l24_m5_4 : List (List Int)) (l24_m5_6 : List (List Int)) : Option (Ctl (Nat × List (List Int) × List (List Int)) (List (List Int) × List (List Int))) :=
 cond (decide (((l24_m9 : Nat) : Int) < a1_0))
 (og (0 ≤ ((y4.length : Nat) : Int) ∧ ((y4.length : Nat) : Int) ≤ ((y4.length : Nat) : Int) ∧ ((y4.length : Nat) : Int) ≤ 1073741824 ∧ (8 : Int) * ((y4.length : Nat) : Int) ≤ 140737488355328) <|
 Option.bind (L_spec_ssUnit a1_0 ((l24_m9 : Nat) : Int)) fun y31 =>
 Option.bind (L_spec_crStep a0 a1_0 a1_1 a1_2 (List.replicate y4.length (0 : Int)) y31) fun y32 =>
 Option.bind (L_spec_l1Own y32.1) fun y34 =>
 og (l24_m5_4.length + 1 ≤ 1073741824 ∧ (l24_m5_4.length + 1) * 24 ≤ 140737488355328) <|
 Option.bind (L_spec_l1Own y32.2) fun y36 =>
 og (l24_m5_6.length + 1 ≤ 1073741824 ∧ (l24_m5_6.length + 1) * 24 ≤ 140737488355328) <|
 og (l24_m9 + 1 < 4611686018427387904) <|
 some (Ctl.next (l24_m9 + 1, l24_m5_4 ++ [y34], l24_m5_6 ++ [y36])))
 (some (Ctl.out (l24_m5_4, l24_m5_6)))
def L_spec_ssOfCircuit (a0 : Int) (a1_0 : Int) (a1_1 : List (Int × Int × Int × Int)) (a1_2 : List Int) : Option (Nat × List (List Int) × List (List Int) × List (List Int) × List (List Int)) :=
 Option.bind (L_spec_crDelays a1_0 a1_1 a1_2) fun y4 =>
Option.bind (loopM (fun s_ : Nat × List (List Int) × List (List Int) => L_spec_ssOfCircuit_l1 y4 a1_0 a0 a1_1 a1_2 s_.1 s_.2.1 s_.2.2) 4611686018427387904 (0, ([] : List (List Int)), ([] : List (List Int)))) fun (l5_m5_3, l5_m5_5) =>
Option.bind (loopM (fun s_ : Nat × List (List Int) × List (List Int) => L_spec_ssOfCircuit_l2 a1_0 y4 a0 a1_1 a1_2 s_.1 s_.2.1 s_.2.2) 4611686018427387904 (0, ([] : List (List Int)), ([] : List (List Int)))) fun (l22_m5_4, l22_m5_6) =>
some (y4.length, l5_m5_3, l22_m5_4, l5_m5_5, l22_m5_6)
theorem ok_spec_ssOfCircuit {a0 : Int} {a1_0 : Int} {a1_1 : List (Int × Int × Int × Int)} {a1_2 : List Int} {r : Nat × List (List Int) × List (List Int) × List (List Int) × List (List Int)} (h : L_spec_ssOfCircuit a0 a1_0 a1_1 a1_2 = some r) : CallM Tryd.prog Tab 17 [(ai a0), (.agg [(ai a1_0), (.tree (.pair .int (.pair .int (.pair .int .int))) a1_1), (.tree .int a1_2)])] [] (.agg [(ai ((r.1 : Nat) : Int)), (ai a1_0), (ai ((a1_2.length : Nat) : Int)), (.own (oi 1 1) (.slice .int) 0 r.2.1.length), (.own (oi 3 1) (.slice .int) 0 r.2.2.1.length), (.own (oi 5 1) (.slice .int) 0 r.2.2.2.1.length), (.own (oi 7 1) (.slice .int) 0 r.2.2.2.2.length)]) [((oi 0 1), .cells 29 [(ai ((r.1 : Nat) : Int)), (ai a1_0), (ai ((a1_2.length : Nat) : Int)), (.own (oi 1 1) (.slice .int) 0 r.2.1.length), (.own (oi 3 1) (.slice .int) 0 r.2.2.1.length), (.own (oi 5 1) (.slice .int) 0 r.2.2.2.1.length), (.own (oi 7 1) (.slice .int) 0 r.2.2.2.2.length)]), ((oi 1 1), .mat 23 (oi 2 1) .int r.2.1), ((oi 2 1), .pool 3 .int r.2.1), ((oi 3 1), .mat 23 (oi 4 1) .int r.2.2.1), ((oi 4 1), .pool 3 .int r.2.2.1), ((oi 5 1), .mat 23 (oi 6 1) .int r.2.2.2.1), ((oi 6 1), .pool 3 .int r.2.2.2.1), ((oi 7 1), .mat 23 (oi 8 1) .int r.2.2.2.2), ((oi 8 1), .pool 3 .int r.2.2.2.2)] := by
 refine callM_of_ (by kernel_rfl) Tryd.func17 c_spec_ssOfCircuit (n := 88) (by kernel_rfl) (by simp) (tl := [(0, (ai a0)), (1, (.agg [(ai a1_0), (.tree (.pair .int (.pair .int (.pair .int .int))) a1_1), (.tree .int a1_2)]))]) rfl (by kernel_rfl) trivial ⟨trivial, ⟨⟨3, (.tail _ (.tail _ (.head _)))⟩, ⟨trivial, ⟨⟨3, (.tail _ (.tail _ (.tail _ (.tail _ (.head _)))))⟩, ⟨trivial, ⟨⟨3, (.tail _ (.tail _ (.tail _ (.tail _ (.tail _ (.tail _ (.head _)))))))⟩, ⟨trivial, ⟨⟨3, (.tail _ (.tail _ (.tail _ (.tail _ (.tail _ (.tail _ (.tail _ (.tail _ (.head _)))))))))⟩, ⟨trivial, trivial⟩⟩⟩⟩⟩⟩⟩⟩⟩ ?_
 unfold m_spec_ssOfCircuit
 unfold L_spec_ssOfCircuit at h
 refine seqR ?_
 refine awp_seqv_ ?_
 obtain ⟨y4, h4, h⟩ := ob_some h
 refine awp_regionD_ 14 ?_
 refine dsl (.agg [(ai a1_0), (.tree (.pair .int (.pair .int (.pair .int .int))) a1_1), (.tree .int a1_2)]) (by kernel_rfl) ?_
 refine dcall (.own (oi 208 4) .int 0 y4.length) [((oi 208 4), some (.arr 3 .int y4))] [(.agg [(ai a1_0), (.tree (.pair .int (.pair .int (.pair .int .int))) a1_1), (.tree .int a1_2)])] _ (caps := []) (args0 := [(.agg [(ai a1_0), (.tree (.pair .int (.pair .int (.pair .int .int))) a1_1), (.tree .int a1_2)])]) trivial (by kernel_rfl) (ok_spec_crDelays h4) hb_spec_crDelays ?_
 refine ds0 (ai ((y4.length : Nat) : Int)) (by kernel_rfl) ?_
 refine ds0 (.box (oi 3 1) 0) (by kernel_rfl) ?_
 refine dsl (ai a1_0) (by kernel_rfl) ?_
 refine ds0 (.box (oi 3 1) 2) (by kernel_rfl) ?_
 refine dsl (.tree .int a1_2) (by kernel_rfl) ?_
 refine ds0 (ai ((a1_2.length : Nat) : Int)) (by kernel_rfl) ?_
 refine ds0 (.agg [(ai ((y4.length : Nat) : Int)), (ai a1_0), (ai ((a1_2.length : Nat) : Int)), .nils, .nils, .nils, .nils]) (by kernel_rfl) ?_
 refine ds1 (.box (oi 5 12) 0) (oi 5 12) (.cells 29 [(ai 0), (ai 0), (ai 0), .nils, .nils, .nils, .nils]) (by kernel_rfl) ?_
 refine dsn2 (oi 5 12) (oi 5 12) (.cells 29 [(ai ((y4.length : Nat) : Int)), (ai a1_0), (ai ((a1_2.length : Nat) : Int)), .nils, .nils, .nils, .nils]) (by kernel_rfl) ?_
 refine dnil (badB_spec (by kernel_rfl)) (tn_ ?_)
 refine ⟨_, Weak.refl _, ?_⟩
 refine awp_seqB h (fun t_ S_ => ∃ (l5_m5_3 : List (List Int)), ∃ (l5_m5_5 : List (List Int)), t_ = (l5_m5_3, l5_m5_5) ∧ S_ = ⟨mkTm [(0, (ai a0)), (3, (.box (oi 0 1) 0)), (4, (.box (oi 1 1) 0)), (5, (.box (oi 2 1) 0))], mkOb (someL [((oi 0 1), .cells 34 [(ai a1_0), (.tree (.pair .int (.pair .int (.pair .int .int))) a1_1), (.tree .int a1_2)]), ((oi 1 1), .cells 29 [(ai 0), (ai 0), (ai 0), .nils, .nils, .nils, .nils]), ((oi 2 1), .cells 29 [(ai ((y4.length : Nat) : Int)), (ai a1_0), (ai ((a1_2.length : Nat) : Int)), (.own (oi 3 1) (.slice .int) 0 l5_m5_3.length), .nils, (.own (oi 5 1) (.slice .int) 0 l5_m5_5.length), .nils]), ((oi 3 1), .mat 23 (oi 4 1) .int l5_m5_3), ((oi 4 1), .pool 3 .int l5_m5_3), ((oi 5 1), .mat 23 (oi 6 1) .int l5_m5_5), ((oi 6 1), .pool 3 .int l5_m5_5)]), 2⟩) ?_ ?_
 ·intro v_ h
  refine seqR ?_
  refine awp_block_ ?_
  refine awp_loopL h (fun t_ S_ => ∃ (l7_m6 : Nat), ∃ (l7_m5_3 : List (List Int)), ∃ (l7_m5_5 : List (List Int)), t_ = (l7_m6, l7_m5_3, l7_m5_5) ∧ S_ = ⟨mkTm [(0, (ai a0)), (3, (.box (oi 0 1) 0)), (4, (.box (oi 1 1) 0)), (5, (.box (oi 2 1) 0)), (6, (ai ((l7_m6 : Nat) : Int)))], mkOb (someL [((oi 0 1), .cells 34 [(ai a1_0), (.tree (.pair .int (.pair .int (.pair .int .int))) a1_1), (.tree .int a1_2)]), ((oi 1 1), .cells 29 [(ai 0), (ai 0), (ai 0), .nils, .nils, .nils, .nils]), ((oi 2 1), .cells 29 [(ai ((y4.length : Nat) : Int)), (ai a1_0), (ai ((a1_2.length : Nat) : Int)), (.own (oi 3 1) (.slice .int) 0 l7_m5_3.length), .nils, (.own (oi 5 1) (.slice .int) 0 l7_m5_5.length), .nils]), ((oi 3 1), .mat 23 (oi 4 1) .int l7_m5_3), ((oi 4 1), .pool 3 .int l7_m5_3), ((oi 5 1), .mat 23 (oi 6 1) .int l7_m5_5), ((oi 6 1), .pool 3 .int l7_m5_5)]), 2⟩) ⟨_, ((weak_nil_cellV_ 9000 (oi 5 12) 3 29 [(ai ((y4.length : Nat) : Int)), (ai a1_0), (ai ((a1_2.length : Nat) : Int)), .nils, .nils, .nils, .nils] [(ai ((y4.length : Nat) : Int)), (ai a1_0), (ai ((a1_2.length : Nat) : Int)), (.own (oi 9000 15) (.slice .int) 0 0), .nils, .nils, .nils] 23 (.slice .int) (by kernel_rfl) (by kernel_rfl) (by kernel_rfl)).trans ((weak_none_ (e1 := 23) (n := 0) 9000 (oi 9000 15) 3 .int (by kernel_rfl) (by kernel_rfl) rfl (by kernel_rfl) (by kernel_rfl)).trans ((weak_nil_cellV_ 9002 (oi 5 12) 5 29 [(ai ((y4.length : Nat) : Int)), (ai a1_0), (ai ((a1_2.length : Nat) : Int)), (.own (oi 9000 15) (.slice .int) 0 0), .nils, .nils, .nils] [(ai ((y4.length : Nat) : Int)), (ai a1_0), (ai ((a1_2.length : Nat) : Int)), (.own (oi 9000 15) (.slice .int) 0 0), .nils, (.own (oi 9002 17) (.slice .int) 0 0), .nils] 23 (.slice .int) (by kernel_rfl) (by kernel_rfl) (by kernel_rfl)).trans ((weak_none_ (e1 := 23) (n := 0) 9000 (oi 9002 17) 3 .int (by kernel_rfl) (by kernel_rfl) rfl (by kernel_rfl) (by kernel_rfl)).trans (weak_ren [((oi 0 1), (oi 3 1)), ((oi 1 1), (oi 4 2)), ((oi 2 1), (oi 5 12)), ((oi 3 1), (oi 9000 15)), ((oi 4 1), (oi 9000 16)), ((oi 5 1), (oi 9002 17)), ((oi 6 1), (oi 9000 18))]))))), ⟨0, ([] : List (List Int)), ([] : List (List Int)), rfl, rfl⟩⟩ ?_
  rintro n_ _ _ c_ ⟨l7_m6, l7_m5_3, l7_m5_5, rfl, rfl⟩ h hn7
  (try dsimp only at h)
  unfold L_spec_ssOfCircuit_l1 at h
  unfold m_spec_ssOfCircuit_l1
  refine awp_seqv_ ?_
  refine seqR ?_
  rcases cond_some h with ⟨q10, h⟩ | ⟨q10, h⟩
  ·have q10_ := of_decide_eq_true q10
   refine awp_condT_ q10 ?_
   refine awp_skip_ (tn_ ?_)
   refine ⟨_, Weak.refl _, ?_⟩
   refine awp_seqv_ ?_
   refine awp_block_ ?_
   refine awp_seqv_ ?_
   obtain ⟨y13, h13, h⟩ := ob_some h
   obtain ⟨g14, h⟩ := og_some h
   obtain ⟨y15, h15, h⟩ := ob_some h
   refine awp_regionD_ 21 ?_
   refine ds0 (ai a0) (by kernel_rfl) ?_
   refine dsl (.agg [(ai a1_0), (.tree (.pair .int (.pair .int (.pair .int .int))) a1_1), (.tree .int a1_2)]) (by kernel_rfl) ?_
   refine ds0 (.box (oi 2 1) 0) (by kernel_rfl) ?_
   refine dsl (ai ((y4.length : Nat) : Int)) (by kernel_rfl) ?_
   refine ds0 (ai ((l7_m6 : Nat) : Int)) (by kernel_rfl) ?_
   refine dcall (.own (oi 528 11) .int 0 y13.length) [((oi 528 11), some (.arr 3 .int y13))] [(ai ((y4.length : Nat) : Int)), (ai ((l7_m6 : Nat) : Int))] _ (caps := []) (args0 := [(ai ((y4.length : Nat) : Int)), (ai ((l7_m6 : Nat) : Int))]) trivial (by kernel_rfl) (ok_spec_ssUnit h13) hb_spec_ssUnit ?_
   refine ds0 (.box (oi 2 1) 1) (by kernel_rfl) ?_
   refine dsl (ai a1_0) (by kernel_rfl) ?_
   refine ds1 (.own (oi 36 14) .int 0 a1_0.toNat) (oi 36 14) (.arr 3 .int (List.replicate a1_0.toNat (0 : Int))) (s_make (t := .int) (k := .i64) (k' := .i64) (m := a1_0) (m' := a1_0) (by kernel_rfl) (by kernel_rfl) g14 rfl) ?_
   refine dcall (.tup [(.own (oi 592 15) .int 0 y15.1.length), (.own (oi 593 15) .int 0 y15.2.length)]) [((oi 592 15), some (.arr 3 .int y15.1)), ((oi 593 15), some (.arr 3 .int y15.2))] [(ai a0), (.agg [(ai a1_0), (.tree (.pair .int (.pair .int (.pair .int .int))) a1_1), (.tree .int a1_2)]), (.own (oi 528 11) .int 0 y13.length), (.own (oi 36 14) .int 0 a1_0.toNat)] _ (caps := []) (args0 := [(ai a0), (.agg [(ai a1_0), (.tree (.pair .int (.pair .int (.pair .int .int))) a1_1), (.tree .int a1_2)]), (.tree .int y13), (.tree .int (List.replicate a1_0.toNat (0 : Int)))]) trivial (gm_cons (by kernel_rfl) (gm_cons (by kernel_rfl) (gm_cons (gd_own (e := 3) (by kernel_rfl) rfl) (gm_cons (gd_own (e := 3) (by kernel_rfl) List.length_replicate.symm) gm_nil)))) (ok_spec_crStep h15) hb_spec_crStep ?_
   refine ds0 (.tup [(.own (oi 592 15) .int 0 y15.1.length), (.own (oi 593 15) .int 0 y15.2.length)]) (by kernel_rfl) ?_
   refine ds0 (.own (oi 592 15) .int 0 y15.1.length) (by kernel_rfl) ?_
   refine ds0 (.own (oi 593 15) .int 0 y15.2.length) (by kernel_rfl) ?_
   refine ds0 (.own (oi 592 15) .int 0 y15.1.length) (by kernel_rfl) ?_
   refine ds0 (.own (oi 593 15) .int 0 y15.2.length) (by kernel_rfl) ?_
   refine dnil (badB_spec (by kernel_rfl)) (tn_ ?_)
   refine ⟨_, Weak.refl _, ?_⟩
   refine awp_seqv_ ?_
   obtain ⟨y17, h17, h⟩ := ob_some h
   obtain ⟨g18, h⟩ := og_some h
   refine awp_regionD_ 29 ?_
   refine ds0 (.box (oi 2 1) 3) (by kernel_rfl) ?_
   refine dsl (.own (oi 3 1) (.slice .int) 0 l7_m5_3.length) (by kernel_rfl) ?_
   refine ds0 (.own (oi 592 15) .int 0 y15.1.length) (by kernel_rfl) ?_
   refine dcall (.own (oi 688 24) .int 0 y17.length) [((oi 688 24), some (.arr 3 .int y17))] [(.own (oi 592 15) .int 0 y15.1.length)] _ (caps := []) (args0 := [(.tree .int y15.1)]) trivial (gm_cons (gd_own (e := 3) (by kernel_rfl) rfl) gm_nil) (ok_spec_l1Own h17) hb_spec_l1Own ?_
   refine dmkV (.own (oi 44 25) (.slice .int) 0 1) (oi 44 25) (.vec 23 1 1 ([(.own (oi 688 24) .int 0 y17.length)])) trivial (s_mkV (by kernel_rfl)) ?_
   refine ds2 (.own (oi 3 26) (.slice .int) 0 (l7_m5_3.length + 1)) (oi 3 1) (oi 3 26) (.vec 23 1 (l7_m5_3.length + 1) (hdL (oi 4 1) .int l7_m5_3 ++ [(.own (oi 688 24) .int 0 y17.length)])) (s_appVO (u := .int) (t' := (.slice .int)) (t2 := (.slice .int)) (o := (oi 3 1)) (q := (oi 44 25)) (e2 := 23) (p := (oi 4 1)) (xss := l7_m5_3) (cs := [(.own (oi 688 24) .int 0 y17.length)]) (len := l7_m5_3.length) (by kernel_rfl) (by kernel_rfl) rfl (by kernel_rfl) (by kernel_rfl) rfl g18) ?_
   refine ds0 (.box (oi 2 1) 3) (by kernel_rfl) ?_
   refine dsn2 (oi 2 1) (oi 2 1) (.cells 29 [(ai ((y4.length : Nat) : Int)), (ai a1_0), (ai ((a1_2.length : Nat) : Int)), (.own (oi 3 26) (.slice .int) 0 (l7_m5_3.length + 1)), .nils, (.own (oi 5 1) (.slice .int) 0 l7_m5_5.length), .nils]) (by kernel_rfl) ?_
   refine dnil (badB_spec (by kernel_rfl)) (tn_ ?_)
   refine ⟨_, weak_app_ (e1 := 23) (e := 3) (u := .int) (n := l7_m5_3.length + 1) (len := y17.length) (row := y17) (ys := y17) (xss := l7_m5_3) 9000 (oi 3 26) (oi 4 1) (oi 688 24) (by kernel_rfl) (by kernel_rfl) rfl (by kernel_rfl) (by kernel_rfl) (tw_le rfl) (tw_eq rfl) (by kernel_rfl) (by kernel_rfl) (by kernel_rfl), ?_⟩
   obtain ⟨y19, h19, h⟩ := ob_some h
   obtain ⟨g20, h⟩ := og_some h
   refine awp_regionD_ 38 ?_
   refine ds0 (.box (oi 2 1) 5) (by kernel_rfl) ?_
   refine dsl (.own (oi 5 1) (.slice .int) 0 l7_m5_5.length) (by kernel_rfl) ?_
   refine ds0 (.own (oi 593 15) .int 0 y15.2.length) (by kernel_rfl) ?_
   refine dcall (.own (oi 800 33) .int 0 y19.length) [((oi 800 33), some (.arr 3 .int y19))] [(.own (oi 593 15) .int 0 y15.2.length)] _ (caps := []) (args0 := [(.tree .int y15.2)]) trivial (gm_cons (gd_own (e := 3) (by kernel_rfl) rfl) gm_nil) (ok_spec_l1Own h19) hb_spec_l1Own ?_
   refine dmkV (.own (oi 51 34) (.slice .int) 0 1) (oi 51 34) (.vec 23 1 1 ([(.own (oi 800 33) .int 0 y19.length)])) trivial (s_mkV (by kernel_rfl)) ?_
   refine ds2 (.own (oi 5 35) (.slice .int) 0 (l7_m5_5.length + 1)) (oi 5 1) (oi 5 35) (.vec 23 1 (l7_m5_5.length + 1) (hdL (oi 6 1) .int l7_m5_5 ++ [(.own (oi 800 33) .int 0 y19.length)])) (s_appVO (u := .int) (t' := (.slice .int)) (t2 := (.slice .int)) (o := (oi 5 1)) (q := (oi 51 34)) (e2 := 23) (p := (oi 6 1)) (xss := l7_m5_5) (cs := [(.own (oi 800 33) .int 0 y19.length)]) (len := l7_m5_5.length) (by kernel_rfl) (by kernel_rfl) rfl (by kernel_rfl) (by kernel_rfl) rfl g20) ?_
   refine ds0 (.box (oi 2 1) 5) (by kernel_rfl) ?_
   refine dsn2 (oi 2 1) (oi 2 1) (.cells 29 [(ai ((y4.length : Nat) : Int)), (ai a1_0), (ai ((a1_2.length : Nat) : Int)), (.own (oi 3 26) (.slice .int) 0 (l7_m5_3.length + 1)), .nils, (.own (oi 5 35) (.slice .int) 0 (l7_m5_5.length + 1)), .nils]) (by kernel_rfl) ?_
   refine dnil (badB_spec (by kernel_rfl)) (bn_ (tn_ ?_))
   refine ⟨_, weak_app_ (e1 := 23) (e := 3) (u := .int) (n := l7_m5_5.length + 1) (len := y19.length) (row := y19) (ys := y19) (xss := l7_m5_5) 9000 (oi 5 35) (oi 6 1) (oi 800 33) (by kernel_rfl) (by kernel_rfl) rfl (by kernel_rfl) (by kernel_rfl) (tw_le rfl) (tw_eq rfl) (by kernel_rfl) (by kernel_rfl) (by kernel_rfl), ?_⟩
   obtain ⟨g21, h⟩ := og_some h
   refine awp_region_ 42 ?_
   refine rs0 (ai ((l7_m6 : Nat) : Int)) (by kernel_rfl) ?_
   refine rs0 (ai ((l7_m6 + 1 : Nat) : Int)) (s_add1 (j := l7_m6) (by kernel_rfl) (by kernel_rfl) g21) ?_
   refine rsB 1 ?_
   refine rnil (tn_ ?_)
   obtain rfl := Option.some.inj h
   exact ⟨(l7_m6 + 1, l7_m5_3 ++ [y17], l7_m5_5 ++ [y19]), _, ((weak_ob_ (oi 2 1) (.cells 29 [(ai ((y4.length : Nat) : Int)), (ai a1_0), (ai ((a1_2.length : Nat) : Int)), (.own (oi 3 26) (.slice .int) 0 (l7_m5_3.length + 1)), .nils, (.own (oi 5 35) (.slice .int) 0 (l7_m5_5.length + 1)), .nils]) (.cells 29 [(ai ((y4.length : Nat) : Int)), (ai a1_0), (ai ((a1_2.length : Nat) : Int)), (.own (oi 3 26) (.slice .int) 0 ((l7_m5_3 ++ [y17]).length)), .nils, (.own (oi 5 35) (.slice .int) 0 (l7_m5_5.length + 1)), .nils]) (by kernel_rfl) (congrArg (fun z_ => (.cells 29 [(ai ((y4.length : Nat) : Int)), (ai a1_0), (ai ((a1_2.length : Nat) : Int)), (.own (oi 3 26) (.slice .int) 0 z_), .nils, (.own (oi 5 35) (.slice .int) 0 (l7_m5_5.length + 1)), .nils] : Ob)) ((by simp) : l7_m5_3.length + 1 = (l7_m5_3 ++ [y17]).length))).trans ((weak_ob_ (oi 2 1) (.cells 29 [(ai ((y4.length : Nat) : Int)), (ai a1_0), (ai ((a1_2.length : Nat) : Int)), (.own (oi 3 26) (.slice .int) 0 ((l7_m5_3 ++ [y17]).length)), .nils, (.own (oi 5 35) (.slice .int) 0 (l7_m5_5.length + 1)), .nils]) (.cells 29 [(ai ((y4.length : Nat) : Int)), (ai a1_0), (ai ((a1_2.length : Nat) : Int)), (.own (oi 3 26) (.slice .int) 0 ((l7_m5_3 ++ [y17]).length)), .nils, (.own (oi 5 35) (.slice .int) 0 ((l7_m5_5 ++ [y19]).length)), .nils]) (by kernel_rfl) (congrArg (fun z_ => (.cells 29 [(ai ((y4.length : Nat) : Int)), (ai a1_0), (ai ((a1_2.length : Nat) : Int)), (.own (oi 3 26) (.slice .int) 0 ((l7_m5_3 ++ [y17]).length)), .nils, (.own (oi 5 35) (.slice .int) 0 z_), .nils] : Ob)) ((by simp) : l7_m5_5.length + 1 = (l7_m5_5 ++ [y19]).length))).trans (weak_ren [((oi 3 1), (oi 3 26)), ((oi 4 1), (oi 9000 29)), ((oi 5 1), (oi 5 35)), ((oi 6 1), (oi 9000 38))]))), ⟨l7_m6 + 1, l7_m5_3 ++ [y17], l7_m5_5 ++ [y19], rfl, rfl⟩, hn7⟩
  have q10_ := of_decide_eq_false q10
  refine awp_condF_ q10 ?_
  refine awp_exit_ (te_ (te_ (be_ (tn_ ?_))))
  obtain rfl := Option.some.inj h
  have h := hn7
  (try dsimp only at h)
  obtain rfl := Option.some.inj h
  exact ⟨_, (weak_ren []), ⟨l7_m5_3, l7_m5_5, rfl, rfl⟩⟩
 rintro _ _ ⟨l5_m5_3, l5_m5_5, rfl, rfl⟩ h
 (try dsimp only at h)
 refine awp_seqB h (fun t_ S_ => ∃ (l22_m5_4 : List (List Int)), ∃ (l22_m5_6 : List (List Int)), t_ = (l22_m5_4, l22_m5_6) ∧ S_ = ⟨mkTm [(4, (.box (oi 0 1) 0)), (5, (.box (oi 1 1) 0))], mkOb (someL [((oi 0 1), .cells 29 [(ai 0), (ai 0), (ai 0), .nils, .nils, .nils, .nils]), ((oi 1 1), .cells 29 [(ai ((y4.length : Nat) : Int)), (ai a1_0), (ai ((a1_2.length : Nat) : Int)), (.own (oi 2 1) (.slice .int) 0 l5_m5_3.length), (.own (oi 4 1) (.slice .int) 0 l22_m5_4.length), (.own (oi 6 1) (.slice .int) 0 l5_m5_5.length), (.own (oi 8 1) (.slice .int) 0 l22_m5_6.length)]), ((oi 2 1), .mat 23 (oi 3 1) .int l5_m5_3), ((oi 3 1), .pool 3 .int l5_m5_3), ((oi 4 1), .mat 23 (oi 5 1) .int l22_m5_4), ((oi 5 1), .pool 3 .int l22_m5_4), ((oi 6 1), .mat 23 (oi 7 1) .int l5_m5_5), ((oi 7 1), .pool 3 .int l5_m5_5), ((oi 8 1), .mat 23 (oi 9 1) .int l22_m5_6), ((oi 9 1), .pool 3 .int l22_m5_6)]), 2⟩) ?_ ?_
 ·intro v_ h
  refine seqR ?_
  refine awp_block_ ?_
  refine awp_loopL h (fun t_ S_ => ∃ (l24_m9 : Nat), ∃ (l24_m5_4 : List (List Int)), ∃ (l24_m5_6 : List (List Int)), t_ = (l24_m9, l24_m5_4, l24_m5_6) ∧ S_ = ⟨mkTm [(0, (ai a0)), (3, (.box (oi 0 1) 0)), (4, (.box (oi 1 1) 0)), (5, (.box (oi 2 1) 0)), (9, (ai ((l24_m9 : Nat) : Int)))], mkOb (someL [((oi 0 1), .cells 34 [(ai a1_0), (.tree (.pair .int (.pair .int (.pair .int .int))) a1_1), (.tree .int a1_2)]), ((oi 1 1), .cells 29 [(ai 0), (ai 0), (ai 0), .nils, .nils, .nils, .nils]), ((oi 2 1), .cells 29 [(ai ((y4.length : Nat) : Int)), (ai a1_0), (ai ((a1_2.length : Nat) : Int)), (.own (oi 3 1) (.slice .int) 0 l5_m5_3.length), (.own (oi 5 1) (.slice .int) 0 l24_m5_4.length), (.own (oi 7 1) (.slice .int) 0 l5_m5_5.length), (.own (oi 9 1) (.slice .int) 0 l24_m5_6.length)]), ((oi 3 1), .mat 23 (oi 4 1) .int l5_m5_3), ((oi 4 1), .pool 3 .int l5_m5_3), ((oi 5 1), .mat 23 (oi 6 1) .int l24_m5_4), ((oi 6 1), .pool 3 .int l24_m5_4), ((oi 7 1), .mat 23 (oi 8 1) .int l5_m5_5), ((oi 8 1), .pool 3 .int l5_m5_5), ((oi 9 1), .mat 23 (oi 10 1) .int l24_m5_6), ((oi 10 1), .pool 3 .int l24_m5_6)]), 2⟩) ⟨_, ((weak_nil_cellV_ 9000 (oi 2 1) 4 29 [(ai ((y4.length : Nat) : Int)), (ai a1_0), (ai ((a1_2.length : Nat) : Int)), (.own (oi 3 1) (.slice .int) 0 l5_m5_3.length), .nils, (.own (oi 5 1) (.slice .int) 0 l5_m5_5.length), .nils] [(ai ((y4.length : Nat) : Int)), (ai a1_0), (ai ((a1_2.length : Nat) : Int)), (.own (oi 3 1) (.slice .int) 0 l5_m5_3.length), (.own (oi 9000 3) (.slice .int) 0 0), (.own (oi 5 1) (.slice .int) 0 l5_m5_5.length), .nils] 23 (.slice .int) (by kernel_rfl) (by kernel_rfl) (by kernel_rfl)).trans ((weak_none_ (e1 := 23) (n := 0) 9000 (oi 9000 3) 3 .int (by kernel_rfl) (by kernel_rfl) rfl (by kernel_rfl) (by kernel_rfl)).trans ((weak_nil_cellV_ 9002 (oi 2 1) 6 29 [(ai ((y4.length : Nat) : Int)), (ai a1_0), (ai ((a1_2.length : Nat) : Int)), (.own (oi 3 1) (.slice .int) 0 l5_m5_3.length), (.own (oi 9000 3) (.slice .int) 0 0), (.own (oi 5 1) (.slice .int) 0 l5_m5_5.length), .nils] [(ai ((y4.length : Nat) : Int)), (ai a1_0), (ai ((a1_2.length : Nat) : Int)), (.own (oi 3 1) (.slice .int) 0 l5_m5_3.length), (.own (oi 9000 3) (.slice .int) 0 0), (.own (oi 5 1) (.slice .int) 0 l5_m5_5.length), (.own (oi 9002 5) (.slice .int) 0 0)] 23 (.slice .int) (by kernel_rfl) (by kernel_rfl) (by kernel_rfl)).trans ((weak_none_ (e1 := 23) (n := 0) 9000 (oi 9002 5) 3 .int (by kernel_rfl) (by kernel_rfl) rfl (by kernel_rfl) (by kernel_rfl)).trans (weak_ren [((oi 5 1), (oi 9000 3)), ((oi 6 1), (oi 9000 4)), ((oi 7 1), (oi 5 1)), ((oi 8 1), (oi 6 1)), ((oi 9 1), (oi 9002 5)), ((oi 10 1), (oi 9000 6))]))))), ⟨0, ([] : List (List Int)), ([] : List (List Int)), rfl, rfl⟩⟩ ?_
  rintro n_ _ _ c_ ⟨l24_m9, l24_m5_4, l24_m5_6, rfl, rfl⟩ h hn24
  (try dsimp only at h)
  unfold L_spec_ssOfCircuit_l2 at h
  unfold m_spec_ssOfCircuit_l2
  refine awp_seqv_ ?_
  refine seqR ?_
  rcases cond_some h with ⟨q27, h⟩ | ⟨q27, h⟩
  ·have q27_ := of_decide_eq_true q27
   refine awp_condT_ q27 ?_
   refine awp_skip_ (tn_ ?_)
   refine ⟨_, Weak.refl _, ?_⟩
   refine awp_seqv_ ?_
   refine awp_block_ ?_
   refine awp_seqv_ ?_
   obtain ⟨g30, h⟩ := og_some h
   obtain ⟨y31, h31, h⟩ := ob_some h
   obtain ⟨y32, h32, h⟩ := ob_some h
   refine awp_regionD_ 21 ?_
   refine ds0 (ai a0) (by kernel_rfl) ?_
   refine dsl (.agg [(ai a1_0), (.tree (.pair .int (.pair .int (.pair .int .int))) a1_1), (.tree .int a1_2)]) (by kernel_rfl) ?_
   refine ds0 (.box (oi 2 1) 0) (by kernel_rfl) ?_
   refine dsl (ai ((y4.length : Nat) : Int)) (by kernel_rfl) ?_
   refine ds1 (.own (oi 65 10) .int 0 y4.length) (oi 65 10) (.arr 3 .int (List.replicate y4.length (0 : Int))) (s_make (t := .int) (k := .i64) (k' := .i64) (m := ((y4.length : Nat) : Int)) (m' := ((y4.length : Nat) : Int)) (by kernel_rfl) (by kernel_rfl) g30 rfl) ?_
   refine ds0 (.box (oi 2 1) 1) (by kernel_rfl) ?_
   refine dsl (ai a1_0) (by kernel_rfl) ?_
   refine ds0 (ai ((l24_m9 : Nat) : Int)) (by kernel_rfl) ?_
   refine dcall (.own (oi 1104 14) .int 0 y31.length) [((oi 1104 14), some (.arr 3 .int y31))] [(ai a1_0), (ai ((l24_m9 : Nat) : Int))] _ (caps := []) (args0 := [(ai a1_0), (ai ((l24_m9 : Nat) : Int))]) trivial (by kernel_rfl) (ok_spec_ssUnit h31) hb_spec_ssUnit ?_
   refine dcall (.tup [(.own (oi 1120 15) .int 0 y32.1.length), (.own (oi 1121 15) .int 0 y32.2.length)]) [((oi 1120 15), some (.arr 3 .int y32.1)), ((oi 1121 15), some (.arr 3 .int y32.2))] [(ai a0), (.agg [(ai a1_0), (.tree (.pair .int (.pair .int (.pair .int .int))) a1_1), (.tree .int a1_2)]), (.own (oi 65 10) .int 0 y4.length), (.own (oi 1104 14) .int 0 y31.length)] _ (caps := []) (args0 := [(ai a0), (.agg [(ai a1_0), (.tree (.pair .int (.pair .int (.pair .int .int))) a1_1), (.tree .int a1_2)]), (.tree .int (List.replicate y4.length (0 : Int))), (.tree .int y31)]) trivial (gm_cons (by kernel_rfl) (gm_cons (by kernel_rfl) (gm_cons (gd_own (e := 3) (by kernel_rfl) List.length_replicate.symm) (gm_cons (gd_own (e := 3) (by kernel_rfl) rfl) gm_nil)))) (ok_spec_crStep h32) hb_spec_crStep ?_
   refine ds0 (.tup [(.own (oi 1120 15) .int 0 y32.1.length), (.own (oi 1121 15) .int 0 y32.2.length)]) (by kernel_rfl) ?_
   refine ds0 (.own (oi 1120 15) .int 0 y32.1.length) (by kernel_rfl) ?_
   refine ds0 (.own (oi 1121 15) .int 0 y32.2.length) (by kernel_rfl) ?_
   refine ds0 (.own (oi 1120 15) .int 0 y32.1.length) (by kernel_rfl) ?_
   refine ds0 (.own (oi 1121 15) .int 0 y32.2.length) (by kernel_rfl) ?_
   refine dnil (badB_spec (by kernel_rfl)) (tn_ ?_)
   refine ⟨_, Weak.refl _, ?_⟩
   refine awp_seqv_ ?_
   obtain ⟨y34, h34, h⟩ := ob_some h
   obtain ⟨g35, h⟩ := og_some h
   refine awp_regionD_ 29 ?_
   refine ds0 (.box (oi 2 1) 4) (by kernel_rfl) ?_
   refine dsl (.own (oi 5 1) (.slice .int) 0 l24_m5_4.length) (by kernel_rfl) ?_
   refine ds0 (.own (oi 1120 15) .int 0 y32.1.length) (by kernel_rfl) ?_
   refine dcall (.own (oi 1216 24) .int 0 y34.length) [((oi 1216 24), some (.arr 3 .int y34))] [(.own (oi 1120 15) .int 0 y32.1.length)] _ (caps := []) (args0 := [(.tree .int y32.1)]) trivial (gm_cons (gd_own (e := 3) (by kernel_rfl) rfl) gm_nil) (ok_spec_l1Own h34) hb_spec_l1Own ?_
   refine dmkV (.own (oi 77 25) (.slice .int) 0 1) (oi 77 25) (.vec 23 1 1 ([(.own (oi 1216 24) .int 0 y34.length)])) trivial (s_mkV (by kernel_rfl)) ?_
   refine ds2 (.own (oi 5 26) (.slice .int) 0 (l24_m5_4.length + 1)) (oi 5 1) (oi 5 26) (.vec 23 1 (l24_m5_4.length + 1) (hdL (oi 6 1) .int l24_m5_4 ++ [(.own (oi 1216 24) .int 0 y34.length)])) (s_appVO (u := .int) (t' := (.slice .int)) (t2 := (.slice .int)) (o := (oi 5 1)) (q := (oi 77 25)) (e2 := 23) (p := (oi 6 1)) (xss := l24_m5_4) (cs := [(.own (oi 1216 24) .int 0 y34.length)]) (len := l24_m5_4.length) (by kernel_rfl) (by kernel_rfl) rfl (by kernel_rfl) (by kernel_rfl) rfl g35) ?_
   refine ds0 (.box (oi 2 1) 4) (by kernel_rfl) ?_
   refine dsn2 (oi 2 1) (oi 2 1) (.cells 29 [(ai ((y4.length : Nat) : Int)), (ai a1_0), (ai ((a1_2.length : Nat) : Int)), (.own (oi 3 1) (.slice .int) 0 l5_m5_3.length), (.own (oi 5 26) (.slice .int) 0 (l24_m5_4.length + 1)), (.own (oi 7 1) (.slice .int) 0 l5_m5_5.length), (.own (oi 9 1) (.slice .int) 0 l24_m5_6.length)]) (by kernel_rfl) ?_
   refine dnil (badB_spec (by kernel_rfl)) (tn_ ?_)
   refine ⟨_, weak_app_ (e1 := 23) (e := 3) (u := .int) (n := l24_m5_4.length + 1) (len := y34.length) (row := y34) (ys := y34) (xss := l24_m5_4) 9000 (oi 5 26) (oi 6 1) (oi 1216 24) (by kernel_rfl) (by kernel_rfl) rfl (by kernel_rfl) (by kernel_rfl) (tw_le rfl) (tw_eq rfl) (by kernel_rfl) (by kernel_rfl) (by kernel_rfl), ?_⟩
   obtain ⟨y36, h36, h⟩ := ob_some h
   obtain ⟨g37, h⟩ := og_some h
   refine awp_regionD_ 38 ?_
   refine ds0 (.box (oi 2 1) 6) (by kernel_rfl) ?_
   refine dsl (.own (oi 9 1) (.slice .int) 0 l24_m5_6.length) (by kernel_rfl) ?_
   refine ds0 (.own (oi 1121 15) .int 0 y32.2.length) (by kernel_rfl) ?_
   refine dcall (.own (oi 1328 33) .int 0 y36.length) [((oi 1328 33), some (.arr 3 .int y36))] [(.own (oi 1121 15) .int 0 y32.2.length)] _ (caps := []) (args0 := [(.tree .int y32.2)]) trivial (gm_cons (gd_own (e := 3) (by kernel_rfl) rfl) gm_nil) (ok_spec_l1Own h36) hb_spec_l1Own ?_
   refine dmkV (.own (oi 84 34) (.slice .int) 0 1) (oi 84 34) (.vec 23 1 1 ([(.own (oi 1328 33) .int 0 y36.length)])) trivial (s_mkV (by kernel_rfl)) ?_
   refine ds2 (.own (oi 9 35) (.slice .int) 0 (l24_m5_6.length + 1)) (oi 9 1) (oi 9 35) (.vec 23 1 (l24_m5_6.length + 1) (hdL (oi 10 1) .int l24_m5_6 ++ [(.own (oi 1328 33) .int 0 y36.length)])) (s_appVO (u := .int) (t' := (.slice .int)) (t2 := (.slice .int)) (o := (oi 9 1)) (q := (oi 84 34)) (e2 := 23) (p := (oi 10 1)) (xss := l24_m5_6) (cs := [(.own (oi 1328 33) .int 0 y36.length)]) (len := l24_m5_6.length) (by kernel_rfl) (by kernel_rfl) rfl (by kernel_rfl) (by kernel_rfl) rfl g37) ?_
   refine ds0 (.box (oi 2 1) 6) (by kernel_rfl) ?_
   refine dsn2 (oi 2 1) (oi 2 1) (.cells 29 [(ai ((y4.length : Nat) : Int)), (ai a1_0), (ai ((a1_2.length : Nat) : Int)), (.own (oi 3 1) (.slice .int) 0 l5_m5_3.length), (.own (oi 5 26) (.slice .int) 0 (l24_m5_4.length + 1)), (.own (oi 7 1) (.slice .int) 0 l5_m5_5.length), (.own (oi 9 35) (.slice .int) 0 (l24_m5_6.length + 1))]) (by kernel_rfl) ?_
   refine dnil (badB_spec (by kernel_rfl)) (bn_ (tn_ ?_))
   refine ⟨_, weak_app_ (e1 := 23) (e := 3) (u := .int) (n := l24_m5_6.length + 1) (len := y36.length) (row := y36) (ys := y36) (xss := l24_m5_6) 9000 (oi 9 35) (oi 10 1) (oi 1328 33) (by kernel_rfl) (by kernel_rfl) rfl (by kernel_rfl) (by kernel_rfl) (tw_le rfl) (tw_eq rfl) (by kernel_rfl) (by kernel_rfl) (by kernel_rfl), ?_⟩
   obtain ⟨g38, h⟩ := og_some h
   refine awp_region_ 42 ?_
   refine rs0 (ai ((l24_m9 : Nat) : Int)) (by kernel_rfl) ?_
   refine rs0 (ai ((l24_m9 + 1 : Nat) : Int)) (s_add1 (j := l24_m9) (by kernel_rfl) (by kernel_rfl) g38) ?_
   refine rsB 1 ?_
   refine rnil (tn_ ?_)
   obtain rfl := Option.some.inj h
   exact ⟨(l24_m9 + 1, l24_m5_4 ++ [y34], l24_m5_6 ++ [y36]), _, ((weak_ob_ (oi 2 1) (.cells 29 [(ai ((y4.length : Nat) : Int)), (ai a1_0), (ai ((a1_2.length : Nat) : Int)), (.own (oi 3 1) (.slice .int) 0 l5_m5_3.length), (.own (oi 5 26) (.slice .int) 0 (l24_m5_4.length + 1)), (.own (oi 7 1) (.slice .int) 0 l5_m5_5.length), (.own (oi 9 35) (.slice .int) 0 (l24_m5_6.length + 1))]) (.cells 29 [(ai ((y4.length : Nat) : Int)), (ai a1_0), (ai ((a1_2.length : Nat) : Int)), (.own (oi 3 1) (.slice .int) 0 l5_m5_3.length), (.own (oi 5 26) (.slice .int) 0 ((l24_m5_4 ++ [y34]).length)), (.own (oi 7 1) (.slice .int) 0 l5_m5_5.length), (.own (oi 9 35) (.slice .int) 0 (l24_m5_6.length + 1))]) (by kernel_rfl) (congrArg (fun z_ => (.cells 29 [(ai ((y4.length : Nat) : Int)), (ai a1_0), (ai ((a1_2.length : Nat) : Int)), (.own (oi 3 1) (.slice .int) 0 l5_m5_3.length), (.own (oi 5 26) (.slice .int) 0 z_), (.own (oi 7 1) (.slice .int) 0 l5_m5_5.length), (.own (oi 9 35) (.slice .int) 0 (l24_m5_6.length + 1))] : Ob)) ((by simp) : l24_m5_4.length + 1 = (l24_m5_4 ++ [y34]).length))).trans ((weak_ob_ (oi 2 1) (.cells 29 [(ai ((y4.length : Nat) : Int)), (ai a1_0), (ai ((a1_2.length : Nat) : Int)), (.own (oi 3 1) (.slice .int) 0 l5_m5_3.length), (.own (oi 5 26) (.slice .int) 0 ((l24_m5_4 ++ [y34]).length)), (.own (oi 7 1) (.slice .int) 0 l5_m5_5.length), (.own (oi 9 35) (.slice .int) 0 (l24_m5_6.length + 1))]) (.cells 29 [(ai ((y4.length : Nat) : Int)), (ai a1_0), (ai ((a1_2.length : Nat) : Int)), (.own (oi 3 1) (.slice .int) 0 l5_m5_3.length), (.own (oi 5 26) (.slice .int) 0 ((l24_m5_4 ++ [y34]).length)), (.own (oi 7 1) (.slice .int) 0 l5_m5_5.length), (.own (oi 9 35) (.slice .int) 0 ((l24_m5_6 ++ [y36]).length))]) (by kernel_rfl) (congrArg (fun z_ => (.cells 29 [(ai ((y4.length : Nat) : Int)), (ai a1_0), (ai ((a1_2.length : Nat) : Int)), (.own (oi 3 1) (.slice .int) 0 l5_m5_3.length), (.own (oi 5 26) (.slice .int) 0 ((l24_m5_4 ++ [y34]).length)), (.own (oi 7 1) (.slice .int) 0 l5_m5_5.length), (.own (oi 9 35) (.slice .int) 0 z_)] : Ob)) ((by simp) : l24_m5_6.length + 1 = (l24_m5_6 ++ [y36]).length))).trans (weak_ren [((oi 5 1), (oi 5 26)), ((oi 6 1), (oi 9000 29)), ((oi 9 1), (oi 9 35)), ((oi 10 1), (oi 9000 38))]))), ⟨l24_m9 + 1, l24_m5_4 ++ [y34], l24_m5_6 ++ [y36], rfl, rfl⟩, hn24⟩
  have q27_ := of_decide_eq_false q27
  refine awp_condF_ q27 ?_
  refine awp_exit_ (te_ (te_ (be_ (tn_ ?_))))
  obtain rfl := Option.some.inj h
  have h := hn24
  (try dsimp only at h)
  obtain rfl := Option.some.inj h
  exact ⟨_, (weak_ren [((oi 0 1), (oi 1 1)), ((oi 1 1), (oi 2 1)), ((oi 2 1), (oi 3 1)), ((oi 3 1), (oi 4 1)), ((oi 4 1), (oi 5 1)), ((oi 5 1), (oi 6 1)), ((oi 6 1), (oi 7 1)), ((oi 7 1), (oi 8 1)), ((oi 8 1), (oi 9 1)), ((oi 9 1), (oi 10 1))]), ⟨l24_m5_4, l24_m5_6, rfl, rfl⟩⟩
 rintro _ _ ⟨l22_m5_4, l22_m5_6, rfl, rfl⟩ h
 (try dsimp only at h)
 refine seqR ?_
 refine awp_ret_ ?_
 obtain rfl := Option.some.inj h
 exact retM_ [(.agg [(ai ((y4.length : Nat) : Int)), (ai a1_0), (ai ((a1_2.length : Nat) : Int)), (.own (oi 1 1) (.slice .int) 0 l5_m5_3.length), (.own (oi 3 1) (.slice .int) 0 l22_m5_4.length), (.own (oi 5 1) (.slice .int) 0 l5_m5_5.length), (.own (oi 7 1) (.slice .int) 0 l22_m5_6.length)])] (weak_ren (tl := [(4, (.box (oi 0 1) 0))]) (g := 2) [((oi 1 1), (oi 2 1)), ((oi 2 1), (oi 3 1)), ((oi 3 1), (oi 4 1)), ((oi 4 1), (oi 5 1)), ((oi 5 1), (oi 6 1)), ((oi 6 1), (oi 7 1)), ((oi 7 1), (oi 8 1)), ((oi 8 1), (oi 9 1))])
def m_spec_SpaceOfCircuit : AC :=
 (.seq (rg [xo 3 (.i (.box 34 (tm 1))), xo 4 (.i (.alloc 29 [(.int .i64 0), (.int .i64 0), (.int .i64 0), .nils, .nils, .nils, .nils])), xo 5 (qm (cb false))])
 (.seq (.seq (rg [xo 6 (qm (tm 0)), xo 7 (.i (.ld false 3 (tm 3))), ⟨(some 8), none, (qc 15 [(tm 6), (tm 7)] [[], [none, (some (.pair .int (.pair .int (.pair .int .int)))), (some .int)]])⟩, xo 9 (.i (.not (tm 8))), xo 10 (qm (tm 9)), ⟨(some 11), (some (10, false)), (.i (.ld false 3 (tm 3)))⟩, ⟨(some 12), (some (10, false)), (qc 16 [(tm 11)] [[none, (some (.pair .int (.pair .int (.pair .int .int)))), (some .int)]])⟩, ⟨(some 13), (some (10, false)), (.i (.len (tm 12)))⟩, ⟨(some 14), (some (10, false)), (qb .gtr (tm 13) (ci 24))⟩, xo 15 (.i (.pick (tm 10) (cb true) (tm 14)))])
 (.cond (tm 15)
  (.seq (rg [xo 16 (.build [(.int .i64 0), (.int .i64 0), (.int .i64 0), .nils, .nils, .nils, .nils] []), xn (.st false 7 (tm 4) (tm 16)), xo 5 (qm (cb false))])
  .ret)
  .skip))
 (.seq (rg [xo 17 (qm (tm 0)), xo 18 (.i (.ld false 3 (tm 3))), ⟨(some 19), none, (qc 17 [(tm 17), (tm 18)] [[], [none, (some (.pair .int (.pair .int (.pair .int .int)))), (some .int)]])⟩, xn (.st false 7 (tm 4) (tm 19)), xo 5 (qm (cb true))])
 .ret)))
def r_spec_SpaceOfCircuit : List Res := [.cell 4 false 7, .tmp 5]
theorem c_spec_SpaceOfCircuit : compiled Tryd.prog Tryd.f5 = some (m_spec_SpaceOfCircuit, r_spec_SpaceOfCircuit) := by kernel_rfl
theorem hb_spec_SpaceOfCircuit : hasBody Tryd.prog 5 = true := by kernel_rfl
def L_spec_SpaceOfCircuit (a0 : Int) (a1_0 : Int) (a1_1 : List (Int × Int × Int × Int)) (a1_2 : List Int) : Option (Bool × Nat × Int × Nat × List (List Int) × List (List Int) × List (List Int) × List (List Int)) :=
 Option.bind (Option.bind (L_spec_crGood a0 a1_0 a1_1 a1_2) fun y5 =>
 cond (!y5)
  (some true)
  (Option.bind (L_spec_crDelays a1_0 a1_1 a1_2) fun y7 =>
  some (decide (24 < ((y7.length : Nat) : Int))))) fun l4_m15 =>
cond l4_m15
 (some (false, 0, 0, 0, ([] : List (List Int)), ([] : List (List Int)), ([] : List (List Int)), ([] : List (List Int))))
 (Option.bind (L_spec_ssOfCircuit a0 a1_0 a1_1 a1_2) fun y11 =>
 some (true, y11.1, a1_0, a1_2.length, y11.2.1, y11.2.2.1, y11.2.2.2.1, y11.2.2.2.2))
theorem ok_spec_SpaceOfCircuit {a0 : Int} {a1_0 : Int} {a1_1 : List (Int × Int × Int × Int)} {a1_2 : List Int} {r : Bool × Nat × Int × Nat × List (List Int) × List (List Int) × List (List Int) × List (List Int)} (h : L_spec_SpaceOfCircuit a0 a1_0 a1_1 a1_2 = some r) : CallM Tryd.prog Tab 5 [(ai a0), (.agg [(ai a1_0), (.tree (.pair .int (.pair .int (.pair .int .int))) a1_1), (.tree .int a1_2)])] [] (.tup [(.agg [(ai ((r.2.1 : Nat) : Int)), (ai r.2.2.1), (ai ((r.2.2.2.1 : Nat) : Int)), (.own (oi 1 1) (.slice .int) 0 r.2.2.2.2.1.length), (.own (oi 3 1) (.slice .int) 0 r.2.2.2.2.2.1.length), (.own (oi 5 1) (.slice .int) 0 r.2.2.2.2.2.2.1.length), (.own (oi 7 1) (.slice .int) 0 r.2.2.2.2.2.2.2.length)]), (.bool r.1)]) [((oi 0 1), .cells 29 [(ai ((r.2.1 : Nat) : Int)), (ai r.2.2.1), (ai ((r.2.2.2.1 : Nat) : Int)), (.own (oi 1 1) (.slice .int) 0 r.2.2.2.2.1.length), (.own (oi 3 1) (.slice .int) 0 r.2.2.2.2.2.1.length), (.own (oi 5 1) (.slice .int) 0 r.2.2.2.2.2.2.1.length), (.own (oi 7 1) (.slice .int) 0 r.2.2.2.2.2.2.2.length)]), ((oi 1 1), .mat 23 (oi 2 1) .int r.2.2.2.2.1), ((oi 2 1), .pool 3 .int r.2.2.2.2.1), ((oi 3 1), .mat 23 (oi 4 1) .int r.2.2.2.2.2.1), ((oi 4 1), .pool 3 .int r.2.2.2.2.2.1), ((oi 5 1), .mat 23 (oi 6 1) .int r.2.2.2.2.2.2.1), ((oi 6 1), .pool 3 .int r.2.2.2.2.2.2.1), ((oi 7 1), .mat 23 (oi 8 1) .int r.2.2.2.2.2.2.2), ((oi 8 1), .pool 3 .int r.2.2.2.2.2.2.2)] := by
 refine callM_of_ (by kernel_rfl) Tryd.func5 c_spec_SpaceOfCircuit (n := 20) (by kernel_rfl) (by simp) (tl := [(0, (ai a0)), (1, (.agg [(ai a1_0), (.tree (.pair .int (.pair .int (.pair .int .int))) a1_1), (.tree .int a1_2)]))]) rfl (by kernel_rfl) trivial ⟨trivial, ⟨⟨3, (.tail _ (.tail _ (.head _)))⟩, ⟨trivial, ⟨⟨3, (.tail _ (.tail _ (.tail _ (.tail _ (.head _)))))⟩, ⟨trivial, ⟨⟨3, (.tail _ (.tail _ (.tail _ (.tail _ (.tail _ (.tail _ (.head _)))))))⟩, ⟨trivial, ⟨⟨3, (.tail _ (.tail _ (.tail _ (.tail _ (.tail _ (.tail _ (.tail _ (.tail _ (.head _)))))))))⟩, ⟨trivial, trivial⟩⟩⟩⟩⟩⟩⟩⟩⟩ ?_
 unfold m_spec_SpaceOfCircuit
 unfold L_spec_SpaceOfCircuit at h
 refine seqR ?_
 refine awp_seqv_ ?_
 refine awp_seqB h (fun (l4_m15 : Bool) S_ => S_ = ⟨mkTm [(0, (ai a0)), (3, (.box (oi 0 1) 0)), (4, (.box (oi 1 1) 0)), (15, (.bool l4_m15))], mkOb (someL [((oi 0 1), .cells 34 [(ai a1_0), (.tree (.pair .int (.pair .int (.pair .int .int))) a1_1), (.tree .int a1_2)]), ((oi 1 1), .cells 29 [(ai 0), (ai 0), (ai 0), .nils, .nils, .nils, .nils])]), 2⟩) ?_ ?_
 ·intro v_ h
  obtain ⟨y5, h5, h⟩ := ob_some h
  rcases cond_some h with ⟨q6, h⟩ | ⟨q6, h⟩
  ·refine awp_region_ 14 ?_
   refine rs0 (ai a0) (by kernel_rfl) ?_
   refine rsl (.agg [(ai a1_0), (.tree (.pair .int (.pair .int (.pair .int .int))) a1_1), (.tree .int a1_2)]) (by kernel_rfl) ?_
   refine rcall (.bool y5) [] [(ai a0), (.agg [(ai a1_0), (.tree (.pair .int (.pair .int (.pair .int .int))) a1_1), (.tree .int a1_2)])] _ (caps := []) (args0 := [(ai a0), (.agg [(ai a1_0), (.tree (.pair .int (.pair .int (.pair .int .int))) a1_1), (.tree .int a1_2)])]) trivial (by kernel_rfl) (ok_spec_crGood h5) hb_spec_crGood ?_
   refine rs0 (.bool (!y5)) (by kernel_rfl) ?_
   refine rs0 (.bool (!y5)) (by kernel_rfl) ?_
   refine rs0 (.tup []) (s_skip (by kernel_rfl) q6) ?_
   refine rs0 (.tup []) (s_skip (by kernel_rfl) q6) ?_
   refine rs0 (.tup []) (s_skip (by kernel_rfl) q6) ?_
   refine rs0 (.tup []) (s_skip (by kernel_rfl) q6) ?_
   refine rs0 (.bool true) (s_pickT (by kernel_rfl) q6) ?_
   refine rnil (tn_ ?_)
   obtain rfl := Option.some.inj h
   exact ⟨_, (weak_ren [((oi 0 1), (oi 3 1)), ((oi 1 1), (oi 4 2))]), rfl⟩
  obtain ⟨y7, h7, h⟩ := ob_some h
  refine awp_region_ 14 ?_
  refine rs0 (ai a0) (by kernel_rfl) ?_
  refine rsl (.agg [(ai a1_0), (.tree (.pair .int (.pair .int (.pair .int .int))) a1_1), (.tree .int a1_2)]) (by kernel_rfl) ?_
  refine rcall (.bool y5) [] [(ai a0), (.agg [(ai a1_0), (.tree (.pair .int (.pair .int (.pair .int .int))) a1_1), (.tree .int a1_2)])] _ (caps := []) (args0 := [(ai a0), (.agg [(ai a1_0), (.tree (.pair .int (.pair .int (.pair .int .int))) a1_1), (.tree .int a1_2)])]) trivial (by kernel_rfl) (ok_spec_crGood h5) hb_spec_crGood ?_
  refine rs0 (.bool (!y5)) (by kernel_rfl) ?_
  refine rs0 (.bool (!y5)) (by kernel_rfl) ?_
  refine rsl (.agg [(ai a1_0), (.tree (.pair .int (.pair .int (.pair .int .int))) a1_1), (.tree .int a1_2)]) (s_gd (by kernel_rfl) q6 (by kernel_rfl)) ?_
  refine rcall (.own (oi 192 10) .int 0 y7.length) [((oi 192 10), some (.arr 3 .int y7))] [(.agg [(ai a1_0), (.tree (.pair .int (.pair .int (.pair .int .int))) a1_1), (.tree .int a1_2)])] _ (caps := []) (args0 := [(.agg [(ai a1_0), (.tree (.pair .int (.pair .int (.pair .int .int))) a1_1), (.tree .int a1_2)])]) (gdOK_b (by kernel_rfl) q6) (by kernel_rfl) (ok_spec_crDelays h7) hb_spec_crDelays ?_
  refine rs0 (ai ((y7.length : Nat) : Int)) (s_gd (by kernel_rfl) q6 (by kernel_rfl)) ?_
  refine rs0 (.bool (decide (24 < ((y7.length : Nat) : Int)))) (s_gd (by kernel_rfl) q6 (by kernel_rfl)) ?_
  refine rs0 (.bool (decide (24 < ((y7.length : Nat) : Int)))) (s_pickF (by kernel_rfl) q6) ?_
  refine rnil (tn_ ?_)
  obtain rfl := Option.some.inj h
  exact ⟨_, (weak_ren [((oi 0 1), (oi 3 1)), ((oi 1 1), (oi 4 2))]), rfl⟩
 rintro l4_m15 _ rfl h
 (try dsimp only at h)
 rcases cond_some h with ⟨q8, h⟩ | ⟨q8, h⟩
 ·refine awp_condT_ q8 ?_
  refine seqR ?_
  refine awp_ret_ (tr_ ?_)
  obtain rfl := Option.some.inj h
  exact retM_ [(.agg [(ai ((0 : Nat) : Int)), (ai 0), (ai ((0 : Nat) : Int)), (.own (oi 1 1) (.slice .int) 0 ((([] : List (List Int))).length)), (.own (oi 3 1) (.slice .int) 0 ((([] : List (List Int))).length)), (.own (oi 5 1) (.slice .int) 0 ((([] : List (List Int))).length)), (.own (oi 7 1) (.slice .int) 0 ((([] : List (List Int))).length))]), (.bool false)] ((weak_nil_cellV_ 9000 (oi 1 1) 3 29 [(ai 0), (ai 0), (ai 0), .nils, .nils, .nils, .nils] [(ai 0), (ai 0), (ai 0), (.own (oi 9000 5) (.slice .int) 0 0), .nils, .nils, .nils] 23 (.slice .int) (by kernel_rfl) (by kernel_rfl) (by kernel_rfl)).trans ((weak_none_ (e1 := 23) (n := 0) 9000 (oi 9000 5) 3 .int (by kernel_rfl) (by kernel_rfl) rfl (by kernel_rfl) (by kernel_rfl)).trans ((weak_nil_cellV_ 9002 (oi 1 1) 4 29 [(ai 0), (ai 0), (ai 0), (.own (oi 9000 5) (.slice .int) 0 0), .nils, .nils, .nils] [(ai 0), (ai 0), (ai 0), (.own (oi 9000 5) (.slice .int) 0 0), (.own (oi 9002 7) (.slice .int) 0 0), .nils, .nils] 23 (.slice .int) (by kernel_rfl) (by kernel_rfl) (by kernel_rfl)).trans ((weak_none_ (e1 := 23) (n := 0) 9000 (oi 9002 7) 3 .int (by kernel_rfl) (by kernel_rfl) rfl (by kernel_rfl) (by kernel_rfl)).trans ((weak_nil_cellV_ 9004 (oi 1 1) 5 29 [(ai 0), (ai 0), (ai 0), (.own (oi 9000 5) (.slice .int) 0 0), (.own (oi 9002 7) (.slice .int) 0 0), .nils, .nils] [(ai 0), (ai 0), (ai 0), (.own (oi 9000 5) (.slice .int) 0 0), (.own (oi 9002 7) (.slice .int) 0 0), (.own (oi 9004 9) (.slice .int) 0 0), .nils] 23 (.slice .int) (by kernel_rfl) (by kernel_rfl) (by kernel_rfl)).trans ((weak_none_ (e1 := 23) (n := 0) 9000 (oi 9004 9) 3 .int (by kernel_rfl) (by kernel_rfl) rfl (by kernel_rfl) (by kernel_rfl)).trans ((weak_nil_cellV_ 9006 (oi 1 1) 6 29 [(ai 0), (ai 0), (ai 0), (.own (oi 9000 5) (.slice .int) 0 0), (.own (oi 9002 7) (.slice .int) 0 0), (.own (oi 9004 9) (.slice .int) 0 0), .nils] [(ai 0), (ai 0), (ai 0), (.own (oi 9000 5) (.slice .int) 0 0), (.own (oi 9002 7) (.slice .int) 0 0), (.own (oi 9004 9) (.slice .int) 0 0), (.own (oi 9006 11) (.slice .int) 0 0)] 23 (.slice .int) (by kernel_rfl) (by kernel_rfl) (by kernel_rfl)).trans ((weak_none_ (e1 := 23) (n := 0) 9000 (oi 9006 11) 3 .int (by kernel_rfl) (by kernel_rfl) rfl (by kernel_rfl) (by kernel_rfl)).trans (weak_ren (tl := [(4, (.box (oi 0 1) 0)), (5, (.bool false))]) (g := 2) [((oi 0 1), (oi 1 1)), ((oi 1 1), (oi 9000 5)), ((oi 2 1), (oi 9000 6)), ((oi 3 1), (oi 9002 7)), ((oi 4 1), (oi 9000 8)), ((oi 5 1), (oi 9004 9)), ((oi 6 1), (oi 9000 10)), ((oi 7 1), (oi 9006 11)), ((oi 8 1), (oi 9000 12))])))))))))
 refine awp_condF_ q8 ?_
 refine awp_skip_ (tn_ ?_)
 refine ⟨_, Weak.refl _, ?_⟩
 refine awp_seqv_ ?_
 obtain ⟨y11, h11, h⟩ := ob_some h
 refine awp_region_ 7 ?_
 refine rs0 (ai a0) (by kernel_rfl) ?_
 refine rsl (.agg [(ai a1_0), (.tree (.pair .int (.pair .int (.pair .int .int))) a1_1), (.tree .int a1_2)]) (by kernel_rfl) ?_
 refine rcallM (.agg [(ai ((y11.1 : Nat) : Int)), (ai a1_0), (ai ((a1_2.length : Nat) : Int)), (.own (oi 305 4) (.slice .int) 0 y11.2.1.length), (.own (oi 307 4) (.slice .int) 0 y11.2.2.1.length), (.own (oi 309 4) (.slice .int) 0 y11.2.2.2.1.length), (.own (oi 311 4) (.slice .int) 0 y11.2.2.2.2.length)]) [((oi 304 4), some (.cells 29 [(ai ((y11.1 : Nat) : Int)), (ai a1_0), (ai ((a1_2.length : Nat) : Int)), (.own (oi 305 4) (.slice .int) 0 y11.2.1.length), (.own (oi 307 4) (.slice .int) 0 y11.2.2.1.length), (.own (oi 309 4) (.slice .int) 0 y11.2.2.2.1.length), (.own (oi 311 4) (.slice .int) 0 y11.2.2.2.2.length)])), ((oi 305 4), some (.mat 23 (oi 306 4) .int y11.2.1)), ((oi 306 4), some (.pool 3 .int y11.2.1)), ((oi 307 4), some (.mat 23 (oi 308 4) .int y11.2.2.1)), ((oi 308 4), some (.pool 3 .int y11.2.2.1)), ((oi 309 4), some (.mat 23 (oi 310 4) .int y11.2.2.2.1)), ((oi 310 4), some (.pool 3 .int y11.2.2.2.1)), ((oi 311 4), some (.mat 23 (oi 312 4) .int y11.2.2.2.2)), ((oi 312 4), some (.pool 3 .int y11.2.2.2.2))] [] [(ai a0), (.agg [(ai a1_0), (.tree (.pair .int (.pair .int (.pair .int .int))) a1_1), (.tree .int a1_2)])] (caps := []) trivial (ok_spec_ssOfCircuit h11) hb_spec_ssOfCircuit trivial (.cons (.ren (by kernel_rfl)) (.cons (.ren (by kernel_rfl)) .nil)) (reachL_mem (by kernel_rfl) (by kernel_rfl) trivial) ?_
 refine rsB 2 ?_
 refine rnil (tn_ ?_)
 refine ⟨_, Weak.refl _, ?_⟩
 refine awp_ret_ ?_
 obtain rfl := Option.some.inj h
 exact retM_ [(.agg [(ai ((y11.1 : Nat) : Int)), (ai a1_0), (ai ((a1_2.length : Nat) : Int)), (.own (oi 1 1) (.slice .int) 0 y11.2.1.length), (.own (oi 3 1) (.slice .int) 0 y11.2.2.1.length), (.own (oi 5 1) (.slice .int) 0 y11.2.2.2.1.length), (.own (oi 7 1) (.slice .int) 0 y11.2.2.2.2.length)]), (.bool true)] (weak_ren (tl := [(4, (.box (oi 0 1) 0)), (5, (.bool true))]) (g := 2) [((oi 0 1), (oi 1 1)), ((oi 1 1), (oi 305 4)), ((oi 2 1), (oi 306 4)), ((oi 3 1), (oi 307 4)), ((oi 4 1), (oi 308 4)), ((oi 5 1), (oi 309 4)), ((oi 6 1), (oi 310 4)), ((oi 7 1), (oi 311 4)), ((oi 8 1), (oi 312 4))])
def m_laws_FnExactSpaceOfCircuit : AC :=
 (.seq (rg [xo 3 (.i (.box 25 (tm 1))), xo 4 (qm (cb false))])
 (.seq (rg [xo 5 (qm (ci 1048576))])
 (.seq (rg [xo 16 (.i (.ld false 3 (tm 3))), xo 17 (qm (tm 5)), ⟨(some 18), none, (qc 4 [(tm 16), (tm 17)] [[none, (some (.pair .int (.pair .int (.pair .int .int)))), (some .int)], []])⟩, xo 5 (qm (tm 18))])
 (.seq (.seq (rg [xo 19 (qm (tm 5)), xo 20 (qb .lss (tm 19) (ci 0))])
 (.cond (tm 20)
  (.seq (rg [xo 4 (qm (cb true))])
  .ret)
  .skip))
 (.seq (rg [xo 22 (qm (tm 0)), xo 23 (.i (.ld false 3 (tm 3))), ⟨(some 24), none, (qc 6 [(tm 23)] [[none, (some (.pair .int (.pair .int (.pair .int .int)))), (some .int)]])⟩, ⟨(some 25), none, (qc 5 [(tm 22), (tm 24)] [[], [none, (some (.pair .int (.pair .int (.pair .int .int)))), (some .int)]])⟩, xo 21 (qm (tm 25)), xo 26 (.i (.extr 0 (tm 21))), xo 27 (.i (.extr 1 (tm 21))), xo 6 (.i (.alloc 29 [(.int .i64 0), (.int .i64 0), (.int .i64 0), .nils, .nils, .nils, .nils])), xn (.st false 7 (tm 6) (tm 26)), xo 7 (qm (tm 27))])
 (.seq (rg [xo 28 (.i (.ld false 3 (tm 3))), ⟨(some 29), none, (qc 6 [(tm 28)] [[none, (some (.pair .int (.pair .int (.pair .int .int)))), (some .int)]])⟩, xo 8 (.i (.alloc 34 [(.int .i64 0), .nils, .nils])), xn (.st false 3 (tm 8) (tm 29))])
 (.seq (rg [xo 31 (qm (tm 0)), xo 32 (.i (.ld false 3 (tm 8))), ⟨(some 33), none, (qc 7 [(tm 31), (tm 32)] [[], [none, (some (.pair .int (.pair .int (.pair .int .int)))), (some .int)]])⟩, xo 30 (qm (tm 33)), xo 34 (.i (.extr 0 (tm 30))), xo 35 (.i (.extr 1 (tm 30))), xo 9 (.i (.alloc 29 [(.int .i64 0), (.int .i64 0), (.int .i64 0), .nils, .nils, .nils, .nils])), xn (.st false 7 (tm 9) (tm 34)), xo 10 (qm (tm 35))])
 (.seq (.seq (rg [xo 36 (.i (.ld false 7 (tm 9))), xo 37 (.i (.ld false 7 (tm 6))), xo 38 (qc 8 [(tm 36), (tm 37)] [[none, none, none, (some (.slice .int)), (some (.slice .int)), (some (.slice .int)), (some (.slice .int))], [none, none, none, (some (.slice .int)), (some (.slice .int)), (some (.slice .int)), (some (.slice .int))]]), xo 39 (.i (.not (tm 38))), xo 40 (qm (tm 39)), ⟨(some 41), (some (40, false)), (qm (tm 10))⟩, ⟨(some 42), (some (40, false)), (qm (tm 7))⟩, ⟨(some 43), (some (40, false)), (.i (.cmp true 0 (tm 41) (tm 42)))⟩, xo 44 (.i (.pick (tm 40) (cb true) (tm 43)))])
 (.cond (tm 44)
  (.seq (rg [xo 4 (qm (cb false))])
  .ret)
  .skip))
 (.seq (.seq (.region [xo 45 (.i (.ld false 3 (tm 8))), xo 46 (.i (.ld false 3 (tm 3))), ⟨(some 47), none, (qc 6 [(tm 46)] [[none, (some (.pair .int (.pair .int (.pair .int .int)))), (some .int)]])⟩, ⟨(some 48), none, (qc 9 [(tm 45), (tm 47)] [[none, (some (.pair .int (.pair .int (.pair .int .int)))), (some .int)], [none, (some (.pair .int (.pair .int (.pair .int .int)))), (some .int)]])⟩, xo 49 (.i (.not (tm 48)))] true [(0, 2)])
 (.cond (tm 49)
  (.seq (rg [xo 4 (qm (cb false))])
  .ret)
  .skip))
 (.seq (rg [xo 11 (qm (ci 1))])
 (.seq (rg [xo 50 (.i (.ld false 3 (tm 8))), xo 51 (qm (tm 11)), ⟨(some 52), none, (qc 10 [(tm 50), (tm 51)] [[none, (some (.pair .int (.pair .int (.pair .int .int)))), (some .int)], []])⟩, xo 11 (qm (tm 52))])
 (.seq (.seq (rg [xo 53 (qm (tm 11)), xo 54 (qb .lss (tm 53) (ci 0)), xo 55 (qm (tm 54)), ⟨(some 56), (some (55, false)), (.i (.ld false 7 (tm 9)))⟩, ⟨(some 57), (some (55, false)), (.i (.ld false 7 (tm 6)))⟩, ⟨(some 58), (some (55, false)), (qc 8 [(tm 56), (tm 57)] [[none, none, none, (some (.slice .int)), (some (.slice .int)), (some (.slice .int)), (some (.slice .int))], [none, none, none, (some (.slice .int)), (some (.slice .int)), (some (.slice .int)), (some (.slice .int))]])⟩, ⟨(some 59), (some (55, false)), (.i (.not (tm 58)))⟩, xo 60 (.i (.pick (tm 55) (cb true) (tm 59))), xo 61 (qm (tm 60)), ⟨(some 62), (some (61, false)), (qm (tm 10))⟩, ⟨(some 63), (some (61, false)), (qm (tm 7))⟩, ⟨(some 64), (some (61, false)), (.i (.cmp true 0 (tm 62) (tm 63)))⟩, xo 65 (.i (.pick (tm 61) (cb true) (tm 64)))])
 (.cond (tm 65)
  (.seq (rg [xo 4 (qm (cb false))])
  .ret)
  .skip))
 (.seq (rg [xo 12 (qm (ci 1))])
 (.seq (rg [xo 66 (.i (.ld false 7 (tm 9))), xo 67 (qm (tm 12)), xo 68 (qc 11 [(tm 66), (tm 67)] [[none, none, none, (some (.slice .int)), (some (.slice .int)), (some (.slice .int)), (some (.slice .int))], []]), xo 12 (qm (tm 68))])
 (.seq (rg [xo 13 (qm (ci 1))])
 (.seq (rg [xo 69 (.i (.ld false 7 (tm 9))), xo 70 (qm (tm 13)), xo 71 (qc 12 [(tm 69), (tm 70)] [[none, none, none, (some (.slice .int)), (some (.slice .int)), (some (.slice .int)), (some (.slice .int))], []]), xo 13 (qm (tm 71))])
 (.seq (.seq (rg [xo 72 (qm (tm 13)), xo 73 (qb .lss (tm 72) (ci 0))])
 (.cond (tm 73)
  (.seq (rg [xo 4 (qm (cb false))])
  .ret)
  .skip))
 (.seq (.seq (rg [xo 74 (qm (tm 13)), xo 75 (qm (tm 12)), xo 76 (qb .neq (tm 74) (tm 75))])
 (.cond (tm 76)
  (.seq (rg [xo 4 (qm (cb false))])
  .ret)
  .skip))
 (.seq (rg [xo 78 (qm (tm 0)), xo 79 (.i (.ld false 3 (tm 3))), ⟨(some 80), none, (qc 6 [(tm 79)] [[none, (some (.pair .int (.pair .int (.pair .int .int)))), (some .int)]])⟩, ⟨(some 81), none, (qc 7 [(tm 78), (tm 80)] [[], [none, (some (.pair .int (.pair .int (.pair .int .int)))), (some .int)]])⟩, xo 77 (qm (tm 81)), xo 82 (.i (.extr 0 (tm 77))), xo 83 (.i (.extr 1 (tm 77))), xo 14 (.i (.alloc 29 [(.int .i64 0), (.int .i64 0), (.int .i64 0), .nils, .nils, .nils, .nils])), xn (.st false 7 (tm 14) (tm 82)), xo 15 (qm (tm 83))])
 (.seq (.seq (rg [xo 84 (.i (.ld false 7 (tm 14))), xo 85 (.i (.ld false 7 (tm 6))), xo 86 (qc 8 [(tm 84), (tm 85)] [[none, none, none, (some (.slice .int)), (some (.slice .int)), (some (.slice .int)), (some (.slice .int))], [none, none, none, (some (.slice .int)), (some (.slice .int)), (some (.slice .int)), (some (.slice .int))]]), xo 87 (.i (.not (tm 86))), xo 88 (qm (tm 87)), ⟨(some 89), (some (88, false)), (qm (tm 15))⟩, ⟨(some 90), (some (88, false)), (qm (tm 7))⟩, ⟨(some 91), (some (88, false)), (.i (.cmp true 0 (tm 89) (tm 90)))⟩, xo 92 (.i (.pick (tm 88) (cb true) (tm 91)))])
 (.cond (tm 92)
  (.seq (rg [xo 4 (qm (cb false))])
  .ret)
  .skip))
 (.seq (rg [xo 13 (qm (ci 1))])
 (.seq (rg [xo 93 (.i (.ld false 7 (tm 9))), xo 94 (qm (tm 13)), xo 95 (qc 12 [(tm 93), (tm 94)] [[none, none, none, (some (.slice .int)), (some (.slice .int)), (some (.slice .int)), (some (.slice .int))], []]), xo 13 (qm (tm 95))])
 (.seq (.seq (rg [xo 96 (qm (tm 13)), xo 97 (qb .lss (tm 96) (ci 0))])
 (.cond (tm 97)
  (.seq (rg [xo 4 (qm (cb false))])
  .ret)
  .skip))
 (.seq (.seq (rg [xo 98 (qm (tm 13)), xo 99 (qm (tm 12)), xo 100 (qb .neq (tm 98) (tm 99))])
 (.cond (tm 100)
  (.seq (rg [xo 4 (qm (cb false))])
  .ret)
  .skip))
 (.seq (rg [xo 4 (qm (cb true))])
 .ret)))))))))))))))))))))))))
def r_laws_FnExactSpaceOfCircuit : List Res := [.tmp 4]
theorem c_laws_FnExactSpaceOfCircuit : compiled Tryd.prog Tryd.f3 = some (m_laws_FnExactSpaceOfCircuit, r_laws_FnExactSpaceOfCircuit) := by kernel_rfl
theorem hb_laws_FnExactSpaceOfCircuit : hasBody Tryd.prog 3 = true := by kernel_rfl
def L_laws_FnExactSpaceOfCircuit (a0 : Int) (a1_0 : Int) (a1_1 : List (Int × Int × Int × Int)) (a1_2 : List Int) : Option Bool :=
 Option.bind (L_laws_szCircuit a1_0 a1_1 a1_2 1048576) fun y4 =>
cond (decide (y4 < 0))
 (some true)
 (Option.bind (L_laws_toCircuit a1_0 a1_1 a1_2) fun y10 =>
 Option.bind (L_spec_SpaceOfCircuit a0 y10.1 y10.2.1 y10.2.2) fun y11 =>
 Option.bind (L_laws_toCircuit a1_0 a1_1 a1_2) fun y13 =>
 Option.bind (L_impl_SpaceOfCircuit a0 y13.1 y13.2.1 y13.2.2) fun y15 =>
 Option.bind (Option.bind (L_laws_eqStateSpace ((y15.2.1 : Nat) : Int) y15.2.2.1 ((y15.2.2.2.1 : Nat) : Int) y15.2.2.2.2.1 y15.2.2.2.2.2.1 y15.2.2.2.2.2.2.1 y15.2.2.2.2.2.2.2 ((y11.2.1 : Nat) : Int) y11.2.2.1 ((y11.2.2.2.1 : Nat) : Int) y11.2.2.2.2.1 y11.2.2.2.2.2.1 y11.2.2.2.2.2.2.1 y11.2.2.2.2.2.2.2) fun y18 =>
  cond (!y18)
   (some true)
   (some (y15.1 != y11.1))) fun l17_m44 =>
 cond l17_m44
  (some false)
  (Option.bind (L_laws_toCircuit a1_0 a1_1 a1_2) fun y24 =>
  Option.bind (L_laws_eqCircuit y13.1 y13.2.1 y13.2.2 y24.1 y24.2.1 y24.2.2) fun y25 =>
  cond (!y25)
   (some false)
   (Option.bind (L_laws_markCircuit y13.1 y13.2.1 y13.2.2 1) fun y30 =>
   og (y30.1.length = y13.2.1.length) <|
   og (y30.2.1.length = y13.2.2.length) <|
   Option.bind (cond (decide (y30.2.2 < 0))
     (some true)
     (Option.bind (L_laws_eqStateSpace ((y15.2.1 : Nat) : Int) y15.2.2.1 ((y15.2.2.2.1 : Nat) : Int) y15.2.2.2.2.1 y15.2.2.2.2.2.1 y15.2.2.2.2.2.2.1 y15.2.2.2.2.2.2.2 ((y11.2.1 : Nat) : Int) y11.2.2.1 ((y11.2.2.2.1 : Nat) : Int) y11.2.2.2.2.1 y11.2.2.2.2.2.1 y11.2.2.2.2.2.2.1 y11.2.2.2.2.2.2.2) fun y36 =>
     cond (!y36)
      (some true)
      (some (y15.1 != y11.1)))) fun l34_m65 =>
   cond l34_m65
    (some false)
    (Option.bind (L_laws_markStateSpace ((y15.2.1 : Nat) : Int) y15.2.2.1 ((y15.2.2.2.1 : Nat) : Int) y15.2.2.2.2.1 y15.2.2.2.2.2.1 y15.2.2.2.2.2.2.1 y15.2.2.2.2.2.2.2 1) fun y42 =>
    og (y42.1.length = y15.2.2.2.2.1.length) <|
    og (y42.2.1.length = y15.2.2.2.2.2.1.length) <|
    og (y42.2.2.1.length = y15.2.2.2.2.2.2.1.length) <|
    og (y42.2.2.2.1.length = y15.2.2.2.2.2.2.2.length) <|
    Option.bind (L_laws_heldStateSpace ((y15.2.1 : Nat) : Int) y15.2.2.1 ((y15.2.2.2.1 : Nat) : Int) y42.1 y42.2.1 y42.2.2.1 y42.2.2.2.1 1) fun y49 =>
    cond (decide (y49 < 0))
     (some false)
     (cond (y49 != y42.2.2.2.2)
      (some false)
      (Option.bind (L_laws_toCircuit a1_0 a1_1 a1_2) fun y59 =>
      Option.bind (L_impl_SpaceOfCircuit a0 y59.1 y59.2.1 y59.2.2) fun y60 =>
      Option.bind (Option.bind (L_laws_eqStateSpace ((y60.2.1 : Nat) : Int) y60.2.2.1 ((y60.2.2.2.1 : Nat) : Int) y60.2.2.2.2.1 y60.2.2.2.2.2.1 y60.2.2.2.2.2.2.1 y60.2.2.2.2.2.2.2 ((y11.2.1 : Nat) : Int) y11.2.2.1 ((y11.2.2.2.1 : Nat) : Int) y11.2.2.2.2.1 y11.2.2.2.2.2.1 y11.2.2.2.2.2.2.1 y11.2.2.2.2.2.2.2) fun y63 =>
       cond (!y63)
        (some true)
        (some (y60.1 != y11.1))) fun l62_m92 =>
      cond l62_m92
       (some false)
       (Option.bind (L_laws_heldStateSpace ((y15.2.1 : Nat) : Int) y15.2.2.1 ((y15.2.2.2.1 : Nat) : Int) y42.1 y42.2.1 y42.2.2.1 y42.2.2.2.1 1) fun y69 =>
       cond (decide (y69 < 0))
        (some false)
        (cond (y69 != y42.2.2.2.2)
         (some false)
         (some true)))))))))
def rv_laws_FnExactSpaceOfCircuit (r : Bool) : RV := ⟨false, [(false, [.sc (.bool r)])]⟩
theorem ok_laws_FnExactSpaceOfCircuit {a0 : Int} {a1_0 : Int} {a1_1 : List (Int × Int × Int × Int)} {a1_2 : List Int} {r : Bool} (h : L_laws_FnExactSpaceOfCircuit a0 a1_0 a1_1 a1_2 = some r) : CallOK Tryd.prog Tab 3 [(ai a0), (.agg [(ai a1_0), (.tree (.pair .int (.pair .int (.pair .int .int))) a1_1), (.tree .int a1_2)])] (rv_laws_FnExactSpaceOfCircuit r) := by
 refine call_of_ (by kernel_rfl) Tryd.func3 c_laws_FnExactSpaceOfCircuit (n := 101) (by kernel_rfl) (by simp) (tl := [(0, (ai a0)), (1, (.agg [(ai a1_0), (.tree (.pair .int (.pair .int (.pair .int .int))) a1_1), (.tree .int a1_2)]))]) rfl ?_
 unfold m_laws_FnExactSpaceOfCircuit
 unfold L_laws_FnExactSpaceOfCircuit at h
 refine seqR ?_
 refine seqR ?_
 refine awp_seqv_ ?_
 obtain ⟨y4, h4, h⟩ := ob_some h
 refine awp_region_ 8 ?_
 refine rsl (.agg [(ai a1_0), (.tree (.pair .int (.pair .int (.pair .int .int))) a1_1), (.tree .int a1_2)]) (by kernel_rfl) ?_
 refine rs0 (ai 1048576) (by kernel_rfl) ?_
 refine rcall (ai y4) [] [(.agg [(ai a1_0), (.tree (.pair .int (.pair .int (.pair .int .int))) a1_1), (.tree .int a1_2)]), (ai 1048576)] _ (caps := []) (args0 := [(.agg [(ai a1_0), (.tree (.pair .int (.pair .int (.pair .int .int))) a1_1), (.tree .int a1_2)]), (ai 1048576)]) trivial (by kernel_rfl) (ok_laws_szCircuit h4) hb_laws_szCircuit ?_
 refine rsB 1 ?_
 refine rnil (tn_ ?_)
 refine ⟨_, Weak.refl _, ?_⟩
 refine awp_seqv_ ?_
 refine seqR ?_
 rcases cond_some h with ⟨q7, h⟩ | ⟨q7, h⟩
 ·have q7_ := of_decide_eq_true q7
  refine awp_condT_ q7 ?_
  refine seqR ?_
  refine awp_ret_ (tr_ ?_)
  obtain rfl := Option.some.inj h
  exact ret_ [(.bool true)] (p_one rfl (l_sc (by kernel_rfl)) p_nil)
 have q7_ := of_decide_eq_false q7
 refine awp_condF_ q7 ?_
 refine awp_skip_ (tn_ ?_)
 refine ⟨_, Weak.refl _, ?_⟩
 refine awp_seqv_ ?_
 obtain ⟨y10, h10, h⟩ := ob_some h
 obtain ⟨y11, h11, h⟩ := ob_some h
 refine awp_region_ 20 ?_
 refine rs0 (ai a0) (by kernel_rfl) ?_
 refine rsl (.agg [(ai a1_0), (.tree (.pair .int (.pair .int (.pair .int .int))) a1_1), (.tree .int a1_2)]) (by kernel_rfl) ?_
 refine rcall (.agg [(ai y10.1), (.own (oi 384 12) (.pair .int (.pair .int (.pair .int .int))) 0 y10.2.1.length), (.own (oi 385 12) .int 0 y10.2.2.length)]) [((oi 384 12), some (.arr 57 (.pair .int (.pair .int (.pair .int .int))) y10.2.1)), ((oi 385 12), some (.arr 3 .int y10.2.2))] [(.agg [(ai a1_0), (.tree (.pair .int (.pair .int (.pair .int .int))) a1_1), (.tree .int a1_2)])] _ (caps := []) (args0 := [(.agg [(ai a1_0), (.tree (.pair .int (.pair .int (.pair .int .int))) a1_1), (.tree .int a1_2)])]) trivial (by kernel_rfl) (ok_laws_toCircuit h10) hb_laws_toCircuit ?_
 refine rcallM (.tup [(.agg [(ai ((y11.2.1 : Nat) : Int)), (ai y11.2.2.1), (ai ((y11.2.2.2.1 : Nat) : Int)), (.own (oi 401 13) (.slice .int) 0 y11.2.2.2.2.1.length), (.own (oi 403 13) (.slice .int) 0 y11.2.2.2.2.2.1.length), (.own (oi 405 13) (.slice .int) 0 y11.2.2.2.2.2.2.1.length), (.own (oi 407 13) (.slice .int) 0 y11.2.2.2.2.2.2.2.length)]), (.bool y11.1)]) [((oi 400 13), some (.cells 29 [(ai ((y11.2.1 : Nat) : Int)), (ai y11.2.2.1), (ai ((y11.2.2.2.1 : Nat) : Int)), (.own (oi 401 13) (.slice .int) 0 y11.2.2.2.2.1.length), (.own (oi 403 13) (.slice .int) 0 y11.2.2.2.2.2.1.length), (.own (oi 405 13) (.slice .int) 0 y11.2.2.2.2.2.2.1.length), (.own (oi 407 13) (.slice .int) 0 y11.2.2.2.2.2.2.2.length)])), ((oi 401 13), some (.mat 23 (oi 402 13) .int y11.2.2.2.2.1)), ((oi 402 13), some (.pool 3 .int y11.2.2.2.2.1)), ((oi 403 13), some (.mat 23 (oi 404 13) .int y11.2.2.2.2.2.1)), ((oi 404 13), some (.pool 3 .int y11.2.2.2.2.2.1)), ((oi 405 13), some (.mat 23 (oi 406 13) .int y11.2.2.2.2.2.2.1)), ((oi 406 13), some (.pool 3 .int y11.2.2.2.2.2.2.1)), ((oi 407 13), some (.mat 23 (oi 408 13) .int y11.2.2.2.2.2.2.2)), ((oi 408 13), some (.pool 3 .int y11.2.2.2.2.2.2.2))] [] [(ai a0), (.agg [(ai y10.1), (.own (oi 384 12) (.pair .int (.pair .int (.pair .int .int))) 0 y10.2.1.length), (.own (oi 385 12) .int 0 y10.2.2.length)])] (caps := []) trivial (ok_spec_SpaceOfCircuit h11) hb_spec_SpaceOfCircuit trivial (.cons (.ren (by kernel_rfl)) (.cons (.agg (.cons (.ren (by kernel_rfl)) (.cons (.gnd (by kernel_rfl) (gd_own (e := 57) ((less_at (by kernel_rfl) (by kernel_rfl) (by kernel_rfl)).trans (by kernel_rfl)) rfl)) (.cons (.gnd (by kernel_rfl) (gd_own (e := 3) ((less_at (by kernel_rfl) (by kernel_rfl) (by kernel_rfl)).trans (by kernel_rfl)) rfl)) .nil)))) .nil)) (reachL_mem (by kernel_rfl) (by kernel_rfl) trivial) ?_
 refine rsB 6 ?_
 refine rnil (tn_ ?_)
 refine ⟨_, Weak.refl _, ?_⟩
 refine awp_seqv_ ?_
 obtain ⟨y13, h13, h⟩ := ob_some h
 refine awp_region_ 24 ?_
 refine rsl (.agg [(ai a1_0), (.tree (.pair .int (.pair .int (.pair .int .int))) a1_1), (.tree .int a1_2)]) (by kernel_rfl) ?_
 refine rcall (.agg [(ai y13.1), (.own (oi 464 21) (.pair .int (.pair .int (.pair .int .int))) 0 y13.2.1.length), (.own (oi 465 21) .int 0 y13.2.2.length)]) [((oi 464 21), some (.arr 57 (.pair .int (.pair .int (.pair .int .int))) y13.2.1)), ((oi 465 21), some (.arr 3 .int y13.2.2))] [(.agg [(ai a1_0), (.tree (.pair .int (.pair .int (.pair .int .int))) a1_1), (.tree .int a1_2)])] _ (caps := []) (args0 := [(.agg [(ai a1_0), (.tree (.pair .int (.pair .int (.pair .int .int))) a1_1), (.tree .int a1_2)])]) trivial (by kernel_rfl) (ok_laws_toCircuit h13) hb_laws_toCircuit ?_
 refine rsB 2 ?_
 refine rnil (tn_ ?_)
 refine ⟨_, Weak.refl _, ?_⟩
 refine awp_seqv_ ?_
 obtain ⟨y15, h15, h⟩ := ob_some h
 refine awp_region_ 33 ?_
 refine rs0 (ai a0) (by kernel_rfl) ?_
 refine rsl (.agg [(ai y13.1), (.own (oi 464 21) (.pair .int (.pair .int (.pair .int .int))) 0 y13.2.1.length), (.own (oi 465 21) .int 0 y13.2.2.length)]) (by kernel_rfl) ?_
 refine rcallM (.tup [(.agg [(ai ((y15.2.1 : Nat) : Int)), (ai y15.2.2.1), (ai ((y15.2.2.2.1 : Nat) : Int)), (.own (oi 529 26) (.slice .int) 0 y15.2.2.2.2.1.length), (.own (oi 531 26) (.slice .int) 0 y15.2.2.2.2.2.1.length), (.own (oi 533 26) (.slice .int) 0 y15.2.2.2.2.2.2.1.length), (.own (oi 535 26) (.slice .int) 0 y15.2.2.2.2.2.2.2.length)]), (.bool y15.1)]) [((oi 528 26), some (.cells 29 [(ai ((y15.2.1 : Nat) : Int)), (ai y15.2.2.1), (ai ((y15.2.2.2.1 : Nat) : Int)), (.own (oi 529 26) (.slice .int) 0 y15.2.2.2.2.1.length), (.own (oi 531 26) (.slice .int) 0 y15.2.2.2.2.2.1.length), (.own (oi 533 26) (.slice .int) 0 y15.2.2.2.2.2.2.1.length), (.own (oi 535 26) (.slice .int) 0 y15.2.2.2.2.2.2.2.length)])), ((oi 529 26), some (.mat 23 (oi 530 26) .int y15.2.2.2.2.1)), ((oi 530 26), some (.pool 3 .int y15.2.2.2.2.1)), ((oi 531 26), some (.mat 23 (oi 532 26) .int y15.2.2.2.2.2.1)), ((oi 532 26), some (.pool 3 .int y15.2.2.2.2.2.1)), ((oi 533 26), some (.mat 23 (oi 534 26) .int y15.2.2.2.2.2.2.1)), ((oi 534 26), some (.pool 3 .int y15.2.2.2.2.2.2.1)), ((oi 535 26), some (.mat 23 (oi 536 26) .int y15.2.2.2.2.2.2.2)), ((oi 536 26), some (.pool 3 .int y15.2.2.2.2.2.2.2))] [] [(ai a0), (.agg [(ai y13.1), (.own (oi 464 21) (.pair .int (.pair .int (.pair .int .int))) 0 y13.2.1.length), (.own (oi 465 21) .int 0 y13.2.2.length)])] (caps := []) trivial (ok_impl_SpaceOfCircuit h15) hb_impl_SpaceOfCircuit trivial (.cons (.ren (by kernel_rfl)) (.cons (.agg (.cons (.ren (by kernel_rfl)) (.cons (.gnd (by kernel_rfl) (gd_own (e := 57) ((less_at (by kernel_rfl) (by kernel_rfl) (by kernel_rfl)).trans (by kernel_rfl)) rfl)) (.cons (.gnd (by kernel_rfl) (gd_own (e := 3) ((less_at (by kernel_rfl) (by kernel_rfl) (by kernel_rfl)).trans (by kernel_rfl)) rfl)) .nil)))) .nil)) (reachL_mem (by kernel_rfl) (by kernel_rfl) trivial) ?_
 refine rsB 6 ?_
 refine rnil (tn_ ?_)
 refine ⟨_, Weak.refl _, ?_⟩
 refine awp_seqv_ ?_
 refine awp_seqB h (fun (l17_m44 : Bool) S_ => S_ = ⟨mkTm [(0, (ai a0)), (3, (.box (oi 0 1) 0)), (6, (.box (oi 1 1) 0)), (7, (.bool y11.1)), (8, (.box (oi 2 1) 0)), (9, (.box (oi 3 1) 0)), (10, (.bool y15.1)), (44, (.bool l17_m44))], mkOb (someL [((oi 0 1), .cells 25 [(ai a1_0), (.tree (.pair .int (.pair .int (.pair .int .int))) a1_1), (.tree .int a1_2)]), ((oi 1 1), .cells 29 [(ai ((y11.2.1 : Nat) : Int)), (ai y11.2.2.1), (ai ((y11.2.2.2.1 : Nat) : Int)), (.own (oi 4 1) (.slice .int) 0 y11.2.2.2.2.1.length), (.own (oi 6 1) (.slice .int) 0 y11.2.2.2.2.2.1.length), (.own (oi 8 1) (.slice .int) 0 y11.2.2.2.2.2.2.1.length), (.own (oi 10 1) (.slice .int) 0 y11.2.2.2.2.2.2.2.length)]), ((oi 2 1), .cells 34 [(ai y13.1), (.own (oi 12 1) (.pair .int (.pair .int (.pair .int .int))) 0 y13.2.1.length), (.own (oi 13 1) .int 0 y13.2.2.length)]), ((oi 3 1), .cells 29 [(ai ((y15.2.1 : Nat) : Int)), (ai y15.2.2.1), (ai ((y15.2.2.2.1 : Nat) : Int)), (.own (oi 14 1) (.slice .int) 0 y15.2.2.2.2.1.length), (.own (oi 16 1) (.slice .int) 0 y15.2.2.2.2.2.1.length), (.own (oi 18 1) (.slice .int) 0 y15.2.2.2.2.2.2.1.length), (.own (oi 20 1) (.slice .int) 0 y15.2.2.2.2.2.2.2.length)]), ((oi 4 1), .mat 23 (oi 5 1) .int y11.2.2.2.2.1), ((oi 5 1), .pool 3 .int y11.2.2.2.2.1), ((oi 6 1), .mat 23 (oi 7 1) .int y11.2.2.2.2.2.1), ((oi 7 1), .pool 3 .int y11.2.2.2.2.2.1), ((oi 8 1), .mat 23 (oi 9 1) .int y11.2.2.2.2.2.2.1), ((oi 9 1), .pool 3 .int y11.2.2.2.2.2.2.1), ((oi 10 1), .mat 23 (oi 11 1) .int y11.2.2.2.2.2.2.2), ((oi 11 1), .pool 3 .int y11.2.2.2.2.2.2.2), ((oi 12 1), .arr 57 (.pair .int (.pair .int (.pair .int .int))) y13.2.1), ((oi 13 1), .arr 3 .int y13.2.2), ((oi 14 1), .mat 23 (oi 15 1) .int y15.2.2.2.2.1), ((oi 15 1), .pool 3 .int y15.2.2.2.2.1), ((oi 16 1), .mat 23 (oi 17 1) .int y15.2.2.2.2.2.1), ((oi 17 1), .pool 3 .int y15.2.2.2.2.2.1), ((oi 18 1), .mat 23 (oi 19 1) .int y15.2.2.2.2.2.2.1), ((oi 19 1), .pool 3 .int y15.2.2.2.2.2.2.1), ((oi 20 1), .mat 23 (oi 21 1) .int y15.2.2.2.2.2.2.2), ((oi 21 1), .pool 3 .int y15.2.2.2.2.2.2.2)]), 2⟩) ?_ ?_
 ·intro v_ h
  obtain ⟨y18, h18, h⟩ := ob_some h
  rcases cond_some h with ⟨q19, h⟩ | ⟨q19, h⟩
  ·refine awp_region_ 42 ?_
   refine rsl (.agg [(ai ((y15.2.1 : Nat) : Int)), (ai y15.2.2.1), (ai ((y15.2.2.2.1 : Nat) : Int)), (.own (oi 529 26) (.slice .int) 0 y15.2.2.2.2.1.length), (.own (oi 531 26) (.slice .int) 0 y15.2.2.2.2.2.1.length), (.own (oi 533 26) (.slice .int) 0 y15.2.2.2.2.2.2.1.length), (.own (oi 535 26) (.slice .int) 0 y15.2.2.2.2.2.2.2.length)]) (by kernel_rfl) ?_
   refine rsl (.agg [(ai ((y11.2.1 : Nat) : Int)), (ai y11.2.2.1), (ai ((y11.2.2.2.1 : Nat) : Int)), (.own (oi 401 13) (.slice .int) 0 y11.2.2.2.2.1.length), (.own (oi 403 13) (.slice .int) 0 y11.2.2.2.2.2.1.length), (.own (oi 405 13) (.slice .int) 0 y11.2.2.2.2.2.2.1.length), (.own (oi 407 13) (.slice .int) 0 y11.2.2.2.2.2.2.2.length)]) (by kernel_rfl) ?_
   refine rcall (.bool y18) [] [(.agg [(ai ((y15.2.1 : Nat) : Int)), (ai y15.2.2.1), (ai ((y15.2.2.2.1 : Nat) : Int)), (.own (oi 529 26) (.slice .int) 0 y15.2.2.2.2.1.length), (.own (oi 531 26) (.slice .int) 0 y15.2.2.2.2.2.1.length), (.own (oi 533 26) (.slice .int) 0 y15.2.2.2.2.2.2.1.length), (.own (oi 535 26) (.slice .int) 0 y15.2.2.2.2.2.2.2.length)]), (.agg [(ai ((y11.2.1 : Nat) : Int)), (ai y11.2.2.1), (ai ((y11.2.2.2.1 : Nat) : Int)), (.own (oi 401 13) (.slice .int) 0 y11.2.2.2.2.1.length), (.own (oi 403 13) (.slice .int) 0 y11.2.2.2.2.2.1.length), (.own (oi 405 13) (.slice .int) 0 y11.2.2.2.2.2.2.1.length), (.own (oi 407 13) (.slice .int) 0 y11.2.2.2.2.2.2.2.length)])] _ (caps := []) (args0 := [(.agg [(ai ((y15.2.1 : Nat) : Int)), (ai y15.2.2.1), (ai ((y15.2.2.2.1 : Nat) : Int)), (.tree (.slice .int) y15.2.2.2.2.1), (.tree (.slice .int) y15.2.2.2.2.2.1), (.tree (.slice .int) y15.2.2.2.2.2.2.1), (.tree (.slice .int) y15.2.2.2.2.2.2.2)]), (.agg [(ai ((y11.2.1 : Nat) : Int)), (ai y11.2.2.1), (ai ((y11.2.2.2.1 : Nat) : Int)), (.tree (.slice .int) y11.2.2.2.2.1), (.tree (.slice .int) y11.2.2.2.2.2.1), (.tree (.slice .int) y11.2.2.2.2.2.2.1), (.tree (.slice .int) y11.2.2.2.2.2.2.2)])]) trivial (gm_cons (gd_agg (gm_cons (by kernel_rfl) (gm_cons (by kernel_rfl) (gm_cons (by kernel_rfl) (gm_cons (gd_mat (p := (oi 530 26)) (e1 := 23) (e := 3) (u := .int) (xss := y15.2.2.2.2.1) (by kernel_rfl) (pool_rows (by kernel_rfl)) rfl) (gm_cons (gd_mat (p := (oi 532 26)) (e1 := 23) (e := 3) (u := .int) (xss := y15.2.2.2.2.2.1) (by kernel_rfl) (pool_rows (by kernel_rfl)) rfl) (gm_cons (gd_mat (p := (oi 534 26)) (e1 := 23) (e := 3) (u := .int) (xss := y15.2.2.2.2.2.2.1) (by kernel_rfl) (pool_rows (by kernel_rfl)) rfl) (gm_cons (gd_mat (p := (oi 536 26)) (e1 := 23) (e := 3) (u := .int) (xss := y15.2.2.2.2.2.2.2) (by kernel_rfl) (pool_rows (by kernel_rfl)) rfl) gm_nil)))))))) (gm_cons (gd_agg (gm_cons (by kernel_rfl) (gm_cons (by kernel_rfl) (gm_cons (by kernel_rfl) (gm_cons (gd_mat (p := (oi 402 13)) (e1 := 23) (e := 3) (u := .int) (xss := y11.2.2.2.2.1) (by kernel_rfl) (pool_rows (by kernel_rfl)) rfl) (gm_cons (gd_mat (p := (oi 404 13)) (e1 := 23) (e := 3) (u := .int) (xss := y11.2.2.2.2.2.1) (by kernel_rfl) (pool_rows (by kernel_rfl)) rfl) (gm_cons (gd_mat (p := (oi 406 13)) (e1 := 23) (e := 3) (u := .int) (xss := y11.2.2.2.2.2.2.1) (by kernel_rfl) (pool_rows (by kernel_rfl)) rfl) (gm_cons (gd_mat (p := (oi 408 13)) (e1 := 23) (e := 3) (u := .int) (xss := y11.2.2.2.2.2.2.2) (by kernel_rfl) (pool_rows (by kernel_rfl)) rfl) gm_nil)))))))) gm_nil)) (ok_laws_eqStateSpace h18) hb_laws_eqStateSpace ?_
   refine rs0 (.bool (!y18)) (by kernel_rfl) ?_
   refine rs0 (.bool (!y18)) (by kernel_rfl) ?_
   refine rs0 (.tup []) (s_skip (by kernel_rfl) q19) ?_
   refine rs0 (.tup []) (s_skip (by kernel_rfl) q19) ?_
   refine rs0 (.tup []) (s_skip (by kernel_rfl) q19) ?_
   refine rs0 (.bool true) (s_pickT (by kernel_rfl) q19) ?_
   refine rnil (tn_ ?_)
   obtain rfl := Option.some.inj h
   exact ⟨_, (weak_ren [((oi 0 1), (oi 3 1)), ((oi 1 1), (oi 6 17)), ((oi 4 1), (oi 401 13)), ((oi 5 1), (oi 402 13)), ((oi 6 1), (oi 403 13)), ((oi 7 1), (oi 404 13)), ((oi 8 1), (oi 405 13)), ((oi 9 1), (oi 406 13)), ((oi 10 1), (oi 407 13)), ((oi 11 1), (oi 408 13)), ((oi 2 1), (oi 8 22)), ((oi 12 1), (oi 464 21)), ((oi 13 1), (oi 465 21)), ((oi 3 1), (oi 9 30)), ((oi 14 1), (oi 529 26)), ((oi 15 1), (oi 530 26)), ((oi 16 1), (oi 531 26)), ((oi 17 1), (oi 532 26)), ((oi 18 1), (oi 533 26)), ((oi 19 1), (oi 534 26)), ((oi 20 1), (oi 535 26)), ((oi 21 1), (oi 536 26))]), rfl⟩
  refine awp_region_ 42 ?_
  refine rsl (.agg [(ai ((y15.2.1 : Nat) : Int)), (ai y15.2.2.1), (ai ((y15.2.2.2.1 : Nat) : Int)), (.own (oi 529 26) (.slice .int) 0 y15.2.2.2.2.1.length), (.own (oi 531 26) (.slice .int) 0 y15.2.2.2.2.2.1.length), (.own (oi 533 26) (.slice .int) 0 y15.2.2.2.2.2.2.1.length), (.own (oi 535 26) (.slice .int) 0 y15.2.2.2.2.2.2.2.length)]) (by kernel_rfl) ?_
  refine rsl (.agg [(ai ((y11.2.1 : Nat) : Int)), (ai y11.2.2.1), (ai ((y11.2.2.2.1 : Nat) : Int)), (.own (oi 401 13) (.slice .int) 0 y11.2.2.2.2.1.length), (.own (oi 403 13) (.slice .int) 0 y11.2.2.2.2.2.1.length), (.own (oi 405 13) (.slice .int) 0 y11.2.2.2.2.2.2.1.length), (.own (oi 407 13) (.slice .int) 0 y11.2.2.2.2.2.2.2.length)]) (by kernel_rfl) ?_
  refine rcall (.bool y18) [] [(.agg [(ai ((y15.2.1 : Nat) : Int)), (ai y15.2.2.1), (ai ((y15.2.2.2.1 : Nat) : Int)), (.own (oi 529 26) (.slice .int) 0 y15.2.2.2.2.1.length), (.own (oi 531 26) (.slice .int) 0 y15.2.2.2.2.2.1.length), (.own (oi 533 26) (.slice .int) 0 y15.2.2.2.2.2.2.1.length), (.own (oi 535 26) (.slice .int) 0 y15.2.2.2.2.2.2.2.length)]), (.agg [(ai ((y11.2.1 : Nat) : Int)), (ai y11.2.2.1), (ai ((y11.2.2.2.1 : Nat) : Int)), (.own (oi 401 13) (.slice .int) 0 y11.2.2.2.2.1.length), (.own (oi 403 13) (.slice .int) 0 y11.2.2.2.2.2.1.length), (.own (oi 405 13) (.slice .int) 0 y11.2.2.2.2.2.2.1.length), (.own (oi 407 13) (.slice .int) 0 y11.2.2.2.2.2.2.2.length)])] _ (caps := []) (args0 := [(.agg [(ai ((y15.2.1 : Nat) : Int)), (ai y15.2.2.1), (ai ((y15.2.2.2.1 : Nat) : Int)), (.tree (.slice .int) y15.2.2.2.2.1), (.tree (.slice .int) y15.2.2.2.2.2.1), (.tree (.slice .int) y15.2.2.2.2.2.2.1), (.tree (.slice .int) y15.2.2.2.2.2.2.2)]), (.agg [(ai ((y11.2.1 : Nat) : Int)), (ai y11.2.2.1), (ai ((y11.2.2.2.1 : Nat) : Int)), (.tree (.slice .int) y11.2.2.2.2.1), (.tree (.slice .int) y11.2.2.2.2.2.1), (.tree (.slice .int) y11.2.2.2.2.2.2.1), (.tree (.slice .int) y11.2.2.2.2.2.2.2)])]) trivial (gm_cons (gd_agg (gm_cons (by kernel_rfl) (gm_cons (by kernel_rfl) (gm_cons (by kernel_rfl) (gm_cons (gd_mat (p := (oi 530 26)) (e1 := 23) (e := 3) (u := .int) (xss := y15.2.2.2.2.1) (by kernel_rfl) (pool_rows (by kernel_rfl)) rfl) (gm_cons (gd_mat (p := (oi 532 26)) (e1 := 23) (e := 3) (u := .int) (xss := y15.2.2.2.2.2.1) (by kernel_rfl) (pool_rows (by kernel_rfl)) rfl) (gm_cons (gd_mat (p := (oi 534 26)) (e1 := 23) (e := 3) (u := .int) (xss := y15.2.2.2.2.2.2.1) (by kernel_rfl) (pool_rows (by kernel_rfl)) rfl) (gm_cons (gd_mat (p := (oi 536 26)) (e1 := 23) (e := 3) (u := .int) (xss := y15.2.2.2.2.2.2.2) (by kernel_rfl) (pool_rows (by kernel_rfl)) rfl) gm_nil)))))))) (gm_cons (gd_agg (gm_cons (by kernel_rfl) (gm_cons (by kernel_rfl) (gm_cons (by kernel_rfl) (gm_cons (gd_mat (p := (oi 402 13)) (e1 := 23) (e := 3) (u := .int) (xss := y11.2.2.2.2.1) (by kernel_rfl) (pool_rows (by kernel_rfl)) rfl) (gm_cons (gd_mat (p := (oi 404 13)) (e1 := 23) (e := 3) (u := .int) (xss := y11.2.2.2.2.2.1) (by kernel_rfl) (pool_rows (by kernel_rfl)) rfl) (gm_cons (gd_mat (p := (oi 406 13)) (e1 := 23) (e := 3) (u := .int) (xss := y11.2.2.2.2.2.2.1) (by kernel_rfl) (pool_rows (by kernel_rfl)) rfl) (gm_cons (gd_mat (p := (oi 408 13)) (e1 := 23) (e := 3) (u := .int) (xss := y11.2.2.2.2.2.2.2) (by kernel_rfl) (pool_rows (by kernel_rfl)) rfl) gm_nil)))))))) gm_nil)) (ok_laws_eqStateSpace h18) hb_laws_eqStateSpace ?_
  refine rs0 (.bool (!y18)) (by kernel_rfl) ?_
  refine rs0 (.bool (!y18)) (by kernel_rfl) ?_
  refine rs0 (.bool y15.1) (s_gd (by kernel_rfl) q19 (by kernel_rfl)) ?_
  refine rs0 (.bool y11.1) (s_gd (by kernel_rfl) q19 (by kernel_rfl)) ?_
  refine rs0 (.bool (y15.1 != y11.1)) (s_gd (by kernel_rfl) q19 (by kernel_rfl)) ?_
  refine rs0 (.bool (y15.1 != y11.1)) (s_pickF (by kernel_rfl) q19) ?_
  refine rnil (tn_ ?_)
  obtain rfl := Option.some.inj h
  exact ⟨_, (weak_ren [((oi 0 1), (oi 3 1)), ((oi 1 1), (oi 6 17)), ((oi 4 1), (oi 401 13)), ((oi 5 1), (oi 402 13)), ((oi 6 1), (oi 403 13)), ((oi 7 1), (oi 404 13)), ((oi 8 1), (oi 405 13)), ((oi 9 1), (oi 406 13)), ((oi 10 1), (oi 407 13)), ((oi 11 1), (oi 408 13)), ((oi 2 1), (oi 8 22)), ((oi 12 1), (oi 464 21)), ((oi 13 1), (oi 465 21)), ((oi 3 1), (oi 9 30)), ((oi 14 1), (oi 529 26)), ((oi 15 1), (oi 530 26)), ((oi 16 1), (oi 531 26)), ((oi 17 1), (oi 532 26)), ((oi 18 1), (oi 533 26)), ((oi 19 1), (oi 534 26)), ((oi 20 1), (oi 535 26)), ((oi 21 1), (oi 536 26))]), rfl⟩
 rintro l17_m44 _ rfl h
 (try dsimp only at h)
 rcases cond_some h with ⟨q20, h⟩ | ⟨q20, h⟩
 ·refine awp_condT_ q20 ?_
  refine seqR ?_
  refine awp_ret_ (tr_ ?_)
  obtain rfl := Option.some.inj h
  exact ret_ [(.bool false)] (p_one rfl (l_sc (by kernel_rfl)) p_nil)
 refine awp_condF_ q20 ?_
 refine awp_skip_ (tn_ ?_)
 refine ⟨_, Weak.refl _, ?_⟩
 refine awp_seqv_ ?_
 refine awp_seqv_ ?_
 obtain ⟨y24, h24, h⟩ := ob_some h
 obtain ⟨y25, h25, h⟩ := ob_some h
 refine awp_regionD_ 7 ?_
 refine dsl (.agg [(ai y13.1), (.own (oi 12 1) (.pair .int (.pair .int (.pair .int .int))) 0 y13.2.1.length), (.own (oi 13 1) .int 0 y13.2.2.length)]) (by kernel_rfl) ?_
 refine dsl (.agg [(ai a1_0), (.tree (.pair .int (.pair .int (.pair .int .int))) a1_1), (.tree .int a1_2)]) (by kernel_rfl) ?_
 refine dcall (.agg [(ai y24.1), (.own (oi 752 4) (.pair .int (.pair .int (.pair .int .int))) 0 y24.2.1.length), (.own (oi 753 4) .int 0 y24.2.2.length)]) [((oi 752 4), some (.arr 57 (.pair .int (.pair .int (.pair .int .int))) y24.2.1)), ((oi 753 4), some (.arr 3 .int y24.2.2))] [(.agg [(ai a1_0), (.tree (.pair .int (.pair .int (.pair .int .int))) a1_1), (.tree .int a1_2)])] _ (caps := []) (args0 := [(.agg [(ai a1_0), (.tree (.pair .int (.pair .int (.pair .int .int))) a1_1), (.tree .int a1_2)])]) trivial (by kernel_rfl) (ok_laws_toCircuit h24) hb_laws_toCircuit ?_
 refine dcall (.bool y25) [] [(.agg [(ai y13.1), (.own (oi 12 1) (.pair .int (.pair .int (.pair .int .int))) 0 y13.2.1.length), (.own (oi 13 1) .int 0 y13.2.2.length)]), (.agg [(ai y24.1), (.own (oi 752 4) (.pair .int (.pair .int (.pair .int .int))) 0 y24.2.1.length), (.own (oi 753 4) .int 0 y24.2.2.length)])] _ (caps := []) (args0 := [(.agg [(ai y13.1), (.tree (.pair .int (.pair .int (.pair .int .int))) y13.2.1), (.tree .int y13.2.2)]), (.agg [(ai y24.1), (.tree (.pair .int (.pair .int (.pair .int .int))) y24.2.1), (.tree .int y24.2.2)])]) trivial (gm_cons (gd_agg (gm_cons (by kernel_rfl) (gm_cons (gd_own (e := 57) (by kernel_rfl) rfl) (gm_cons (gd_own (e := 3) (by kernel_rfl) rfl) gm_nil)))) (gm_cons (gd_agg (gm_cons (by kernel_rfl) (gm_cons (gd_own (e := 57) (by kernel_rfl) rfl) (gm_cons (gd_own (e := 3) (by kernel_rfl) rfl) gm_nil)))) gm_nil)) (ok_laws_eqCircuit h25) hb_laws_eqCircuit ?_
 refine ds0 (.bool (!y25)) (by kernel_rfl) ?_
 refine dnil (badB_spec (by kernel_rfl)) (tn_ ?_)
 refine ⟨_, Weak.refl _, ?_⟩
 rcases cond_some h with ⟨q26, h⟩ | ⟨q26, h⟩
 ·refine awp_condT_ q26 ?_
  refine seqR ?_
  refine awp_ret_ (tr_ ?_)
  obtain rfl := Option.some.inj h
  exact ret_ [(.bool false)] (p_one rfl (l_sc (by kernel_rfl)) p_nil)
 refine awp_condF_ q26 ?_
 refine awp_skip_ (tn_ ?_)
 refine ⟨_, Weak.refl _, ?_⟩
 refine seqR ?_
 refine awp_seqv_ ?_
 obtain ⟨y30, h30, h⟩ := ob_some h
 obtain ⟨g31, h⟩ := og_some h
 obtain ⟨g32, h⟩ := og_some h
 refine awp_region_ 12 ?_
 refine rsl (.agg [(ai y13.1), (.own (oi 12 1) (.pair .int (.pair .int (.pair .int .int))) 0 y13.2.1.length), (.own (oi 13 1) .int 0 y13.2.2.length)]) (by kernel_rfl) ?_
 refine rs0 (ai 1) (by kernel_rfl) ?_
 refine rcallM (ai y30.2.2) [((oi 12 1), some (.arr 57 (.pair .int (.pair .int (.pair .int .int))) y30.1)), ((oi 13 1), some (.arr 3 .int y30.2.1)), ((oi 12 1), none), ((oi 13 1), none)] [((oi 0 0), (oi 12 1)), ((oi 1 0), (oi 13 1))] [(.agg [(ai y13.1), (.own (oi 12 1) (.pair .int (.pair .int (.pair .int .int))) 0 y13.2.1.length), (.own (oi 13 1) .int 0 y13.2.2.length)]), (ai 1)] (caps := []) trivial (ok_laws_markCircuit h30 rfl rfl) hb_laws_markCircuit ⟨(by kernel_rfl), ⟨(by kernel_rfl), trivial⟩⟩ (.cons (.agg (.cons (.ren (by kernel_rfl)) (.cons (.ren (by kernel_rfl)) (.cons (.ren (by kernel_rfl)) .nil)))) (.cons (.ren (by kernel_rfl)) .nil)) (reachL_mem (by kernel_rfl) (by kernel_rfl) ⟨(re_arg (by kernel_rfl)), ⟨(re_arg (by kernel_rfl)), trivial⟩⟩) ?_
 refine rsB 1 ?_
 refine rnil (tn_ ?_)
 refine ⟨_, Weak.refl _, ?_⟩
 refine awp_seqv_ ?_
 refine awp_seqB h (fun (l34_m65 : Bool) S_ => S_ = ⟨mkTm [(0, (ai a0)), (3, (.box (oi 0 1) 0)), (6, (.box (oi 1 1) 0)), (7, (.bool y11.1)), (9, (.box (oi 2 1) 0)), (65, (.bool l34_m65))], mkOb (someL [((oi 0 1), .cells 25 [(ai a1_0), (.tree (.pair .int (.pair .int (.pair .int .int))) a1_1), (.tree .int a1_2)]), ((oi 1 1), .cells 29 [(ai ((y11.2.1 : Nat) : Int)), (ai y11.2.2.1), (ai ((y11.2.2.2.1 : Nat) : Int)), (.own (oi 3 1) (.slice .int) 0 y11.2.2.2.2.1.length), (.own (oi 5 1) (.slice .int) 0 y11.2.2.2.2.2.1.length), (.own (oi 7 1) (.slice .int) 0 y11.2.2.2.2.2.2.1.length), (.own (oi 9 1) (.slice .int) 0 y11.2.2.2.2.2.2.2.length)]), ((oi 2 1), .cells 29 [(ai ((y15.2.1 : Nat) : Int)), (ai y15.2.2.1), (ai ((y15.2.2.2.1 : Nat) : Int)), (.own (oi 11 1) (.slice .int) 0 y15.2.2.2.2.1.length), (.own (oi 13 1) (.slice .int) 0 y15.2.2.2.2.2.1.length), (.own (oi 15 1) (.slice .int) 0 y15.2.2.2.2.2.2.1.length), (.own (oi 17 1) (.slice .int) 0 y15.2.2.2.2.2.2.2.length)]), ((oi 3 1), .mat 23 (oi 4 1) .int y11.2.2.2.2.1), ((oi 4 1), .pool 3 .int y11.2.2.2.2.1), ((oi 5 1), .mat 23 (oi 6 1) .int y11.2.2.2.2.2.1), ((oi 6 1), .pool 3 .int y11.2.2.2.2.2.1), ((oi 7 1), .mat 23 (oi 8 1) .int y11.2.2.2.2.2.2.1), ((oi 8 1), .pool 3 .int y11.2.2.2.2.2.2.1), ((oi 9 1), .mat 23 (oi 10 1) .int y11.2.2.2.2.2.2.2), ((oi 10 1), .pool 3 .int y11.2.2.2.2.2.2.2), ((oi 11 1), .mat 23 (oi 12 1) .int y15.2.2.2.2.1), ((oi 12 1), .pool 3 .int y15.2.2.2.2.1), ((oi 13 1), .mat 23 (oi 14 1) .int y15.2.2.2.2.2.1), ((oi 14 1), .pool 3 .int y15.2.2.2.2.2.1), ((oi 15 1), .mat 23 (oi 16 1) .int y15.2.2.2.2.2.2.1), ((oi 16 1), .pool 3 .int y15.2.2.2.2.2.2.1), ((oi 17 1), .mat 23 (oi 18 1) .int y15.2.2.2.2.2.2.2), ((oi 18 1), .pool 3 .int y15.2.2.2.2.2.2.2)]), 2⟩) ?_ ?_
 ·intro v_ h
  rcases cond_some h with ⟨q35, h⟩ | ⟨q35, h⟩
  ·have q35_ := of_decide_eq_true q35
   refine awp_region_ 25 ?_
   refine rs0 (ai y30.2.2) (by kernel_rfl) ?_
   refine rs0 (.bool (decide (y30.2.2 < 0))) (by kernel_rfl) ?_
   refine rs0 (.bool (decide (y30.2.2 < 0))) (by kernel_rfl) ?_
   refine rs0 (.tup []) (s_skip (by kernel_rfl) q35) ?_
   refine rs0 (.tup []) (s_skip (by kernel_rfl) q35) ?_
   refine rs0 (.tup []) (s_skip (by kernel_rfl) q35) ?_
   refine rs0 (.tup []) (s_skip (by kernel_rfl) q35) ?_
   refine rs0 (.bool true) (s_pickT (by kernel_rfl) q35) ?_
   refine rsB 5 ?_
   refine rnil (tn_ ?_)
   obtain rfl := Option.some.inj h
   exact ⟨_, (weak_ren [((oi 3 1), (oi 4 1)), ((oi 4 1), (oi 5 1)), ((oi 5 1), (oi 6 1)), ((oi 6 1), (oi 7 1)), ((oi 7 1), (oi 8 1)), ((oi 8 1), (oi 9 1)), ((oi 9 1), (oi 10 1)), ((oi 10 1), (oi 11 1)), ((oi 2 1), (oi 3 1)), ((oi 11 1), (oi 14 1)), ((oi 12 1), (oi 15 1)), ((oi 13 1), (oi 16 1)), ((oi 14 1), (oi 17 1)), ((oi 15 1), (oi 18 1)), ((oi 16 1), (oi 19 1)), ((oi 17 1), (oi 20 1)), ((oi 18 1), (oi 21 1))]), rfl⟩
  have q35_ := of_decide_eq_false q35
  obtain ⟨y36, h36, h⟩ := ob_some h
  rcases cond_some h with ⟨q37, h⟩ | ⟨q37, h⟩
  ·refine awp_region_ 25 ?_
   refine rs0 (ai y30.2.2) (by kernel_rfl) ?_
   refine rs0 (.bool (decide (y30.2.2 < 0))) (by kernel_rfl) ?_
   refine rs0 (.bool (decide (y30.2.2 < 0))) (by kernel_rfl) ?_
   refine rsl (.agg [(ai ((y15.2.1 : Nat) : Int)), (ai y15.2.2.1), (ai ((y15.2.2.2.1 : Nat) : Int)), (.own (oi 14 1) (.slice .int) 0 y15.2.2.2.2.1.length), (.own (oi 16 1) (.slice .int) 0 y15.2.2.2.2.2.1.length), (.own (oi 18 1) (.slice .int) 0 y15.2.2.2.2.2.2.1.length), (.own (oi 20 1) (.slice .int) 0 y15.2.2.2.2.2.2.2.length)]) (s_gd (by kernel_rfl) q35 (by kernel_rfl)) ?_
   refine rsl (.agg [(ai ((y11.2.1 : Nat) : Int)), (ai y11.2.2.1), (ai ((y11.2.2.2.1 : Nat) : Int)), (.own (oi 4 1) (.slice .int) 0 y11.2.2.2.2.1.length), (.own (oi 6 1) (.slice .int) 0 y11.2.2.2.2.2.1.length), (.own (oi 8 1) (.slice .int) 0 y11.2.2.2.2.2.2.1.length), (.own (oi 10 1) (.slice .int) 0 y11.2.2.2.2.2.2.2.length)]) (s_gd (by kernel_rfl) q35 (by kernel_rfl)) ?_
   refine rcall (.bool y36) [] [(.agg [(ai ((y15.2.1 : Nat) : Int)), (ai y15.2.2.1), (ai ((y15.2.2.2.1 : Nat) : Int)), (.own (oi 14 1) (.slice .int) 0 y15.2.2.2.2.1.length), (.own (oi 16 1) (.slice .int) 0 y15.2.2.2.2.2.1.length), (.own (oi 18 1) (.slice .int) 0 y15.2.2.2.2.2.2.1.length), (.own (oi 20 1) (.slice .int) 0 y15.2.2.2.2.2.2.2.length)]), (.agg [(ai ((y11.2.1 : Nat) : Int)), (ai y11.2.2.1), (ai ((y11.2.2.2.1 : Nat) : Int)), (.own (oi 4 1) (.slice .int) 0 y11.2.2.2.2.1.length), (.own (oi 6 1) (.slice .int) 0 y11.2.2.2.2.2.1.length), (.own (oi 8 1) (.slice .int) 0 y11.2.2.2.2.2.2.1.length), (.own (oi 10 1) (.slice .int) 0 y11.2.2.2.2.2.2.2.length)])] _ (caps := []) (args0 := [(.agg [(ai ((y15.2.1 : Nat) : Int)), (ai y15.2.2.1), (ai ((y15.2.2.2.1 : Nat) : Int)), (.tree (.slice .int) y15.2.2.2.2.1), (.tree (.slice .int) y15.2.2.2.2.2.1), (.tree (.slice .int) y15.2.2.2.2.2.2.1), (.tree (.slice .int) y15.2.2.2.2.2.2.2)]), (.agg [(ai ((y11.2.1 : Nat) : Int)), (ai y11.2.2.1), (ai ((y11.2.2.2.1 : Nat) : Int)), (.tree (.slice .int) y11.2.2.2.2.1), (.tree (.slice .int) y11.2.2.2.2.2.1), (.tree (.slice .int) y11.2.2.2.2.2.2.1), (.tree (.slice .int) y11.2.2.2.2.2.2.2)])]) (gdOK_b (by kernel_rfl) q35) (gm_cons (gd_agg (gm_cons (by kernel_rfl) (gm_cons (by kernel_rfl) (gm_cons (by kernel_rfl) (gm_cons (gd_mat (p := (oi 15 1)) (e1 := 23) (e := 3) (u := .int) (xss := y15.2.2.2.2.1) (by kernel_rfl) (pool_rows (by kernel_rfl)) rfl) (gm_cons (gd_mat (p := (oi 17 1)) (e1 := 23) (e := 3) (u := .int) (xss := y15.2.2.2.2.2.1) (by kernel_rfl) (pool_rows (by kernel_rfl)) rfl) (gm_cons (gd_mat (p := (oi 19 1)) (e1 := 23) (e := 3) (u := .int) (xss := y15.2.2.2.2.2.2.1) (by kernel_rfl) (pool_rows (by kernel_rfl)) rfl) (gm_cons (gd_mat (p := (oi 21 1)) (e1 := 23) (e := 3) (u := .int) (xss := y15.2.2.2.2.2.2.2) (by kernel_rfl) (pool_rows (by kernel_rfl)) rfl) gm_nil)))))))) (gm_cons (gd_agg (gm_cons (by kernel_rfl) (gm_cons (by kernel_rfl) (gm_cons (by kernel_rfl) (gm_cons (gd_mat (p := (oi 5 1)) (e1 := 23) (e := 3) (u := .int) (xss := y11.2.2.2.2.1) (by kernel_rfl) (pool_rows (by kernel_rfl)) rfl) (gm_cons (gd_mat (p := (oi 7 1)) (e1 := 23) (e := 3) (u := .int) (xss := y11.2.2.2.2.2.1) (by kernel_rfl) (pool_rows (by kernel_rfl)) rfl) (gm_cons (gd_mat (p := (oi 9 1)) (e1 := 23) (e := 3) (u := .int) (xss := y11.2.2.2.2.2.2.1) (by kernel_rfl) (pool_rows (by kernel_rfl)) rfl) (gm_cons (gd_mat (p := (oi 11 1)) (e1 := 23) (e := 3) (u := .int) (xss := y11.2.2.2.2.2.2.2) (by kernel_rfl) (pool_rows (by kernel_rfl)) rfl) gm_nil)))))))) gm_nil)) (ok_laws_eqStateSpace h36) hb_laws_eqStateSpace ?_
   refine rs0 (.bool (!y36)) (s_gd (by kernel_rfl) q35 (by kernel_rfl)) ?_
   refine rs0 (.bool (!y36)) (s_pickF (by kernel_rfl) q35) ?_
   refine rs0 (.bool (!y36)) (by kernel_rfl) ?_
   refine rs0 (.tup []) (s_skip (by kernel_rfl) q37) ?_
   refine rs0 (.tup []) (s_skip (by kernel_rfl) q37) ?_
   refine rs0 (.tup []) (s_skip (by kernel_rfl) q37) ?_
   refine rs0 (.bool true) (s_pickT (by kernel_rfl) q37) ?_
   refine rnil (tn_ ?_)
   obtain rfl := Option.some.inj h
   exact ⟨_, (weak_ren [((oi 3 1), (oi 4 1)), ((oi 4 1), (oi 5 1)), ((oi 5 1), (oi 6 1)), ((oi 6 1), (oi 7 1)), ((oi 7 1), (oi 8 1)), ((oi 8 1), (oi 9 1)), ((oi 9 1), (oi 10 1)), ((oi 10 1), (oi 11 1)), ((oi 2 1), (oi 3 1)), ((oi 11 1), (oi 14 1)), ((oi 12 1), (oi 15 1)), ((oi 13 1), (oi 16 1)), ((oi 14 1), (oi 17 1)), ((oi 15 1), (oi 18 1)), ((oi 16 1), (oi 19 1)), ((oi 17 1), (oi 20 1)), ((oi 18 1), (oi 21 1))]), rfl⟩
  refine awp_region_ 25 ?_
  refine rs0 (ai y30.2.2) (by kernel_rfl) ?_
  refine rs0 (.bool (decide (y30.2.2 < 0))) (by kernel_rfl) ?_
  refine rs0 (.bool (decide (y30.2.2 < 0))) (by kernel_rfl) ?_
  refine rsl (.agg [(ai ((y15.2.1 : Nat) : Int)), (ai y15.2.2.1), (ai ((y15.2.2.2.1 : Nat) : Int)), (.own (oi 14 1) (.slice .int) 0 y15.2.2.2.2.1.length), (.own (oi 16 1) (.slice .int) 0 y15.2.2.2.2.2.1.length), (.own (oi 18 1) (.slice .int) 0 y15.2.2.2.2.2.2.1.length), (.own (oi 20 1) (.slice .int) 0 y15.2.2.2.2.2.2.2.length)]) (s_gd (by kernel_rfl) q35 (by kernel_rfl)) ?_
  refine rsl (.agg [(ai ((y11.2.1 : Nat) : Int)), (ai y11.2.2.1), (ai ((y11.2.2.2.1 : Nat) : Int)), (.own (oi 4 1) (.slice .int) 0 y11.2.2.2.2.1.length), (.own (oi 6 1) (.slice .int) 0 y11.2.2.2.2.2.1.length), (.own (oi 8 1) (.slice .int) 0 y11.2.2.2.2.2.2.1.length), (.own (oi 10 1) (.slice .int) 0 y11.2.2.2.2.2.2.2.length)]) (s_gd (by kernel_rfl) q35 (by kernel_rfl)) ?_
  refine rcall (.bool y36) [] [(.agg [(ai ((y15.2.1 : Nat) : Int)), (ai y15.2.2.1), (ai ((y15.2.2.2.1 : Nat) : Int)), (.own (oi 14 1) (.slice .int) 0 y15.2.2.2.2.1.length), (.own (oi 16 1) (.slice .int) 0 y15.2.2.2.2.2.1.length), (.own (oi 18 1) (.slice .int) 0 y15.2.2.2.2.2.2.1.length), (.own (oi 20 1) (.slice .int) 0 y15.2.2.2.2.2.2.2.length)]), (.agg [(ai ((y11.2.1 : Nat) : Int)), (ai y11.2.2.1), (ai ((y11.2.2.2.1 : Nat) : Int)), (.own (oi 4 1) (.slice .int) 0 y11.2.2.2.2.1.length), (.own (oi 6 1) (.slice .int) 0 y11.2.2.2.2.2.1.length), (.own (oi 8 1) (.slice .int) 0 y11.2.2.2.2.2.2.1.length), (.own (oi 10 1) (.slice .int) 0 y11.2.2.2.2.2.2.2.length)])] _ (caps := []) (args0 := [(.agg [(ai ((y15.2.1 : Nat) : Int)), (ai y15.2.2.1), (ai ((y15.2.2.2.1 : Nat) : Int)), (.tree (.slice .int) y15.2.2.2.2.1), (.tree (.slice .int) y15.2.2.2.2.2.1), (.tree (.slice .int) y15.2.2.2.2.2.2.1), (.tree (.slice .int) y15.2.2.2.2.2.2.2)]), (.agg [(ai ((y11.2.1 : Nat) : Int)), (ai y11.2.2.1), (ai ((y11.2.2.2.1 : Nat) : Int)), (.tree (.slice .int) y11.2.2.2.2.1), (.tree (.slice .int) y11.2.2.2.2.2.1), (.tree (.slice .int) y11.2.2.2.2.2.2.1), (.tree (.slice .int) y11.2.2.2.2.2.2.2)])]) (gdOK_b (by kernel_rfl) q35) (gm_cons (gd_agg (gm_cons (by kernel_rfl) (gm_cons (by kernel_rfl) (gm_cons (by kernel_rfl) (gm_cons (gd_mat (p := (oi 15 1)) (e1 := 23) (e := 3) (u := .int) (xss := y15.2.2.2.2.1) (by kernel_rfl) (pool_rows (by kernel_rfl)) rfl) (gm_cons (gd_mat (p := (oi 17 1)) (e1 := 23) (e := 3) (u := .int) (xss := y15.2.2.2.2.2.1) (by kernel_rfl) (pool_rows (by kernel_rfl)) rfl) (gm_cons (gd_mat (p := (oi 19 1)) (e1 := 23) (e := 3) (u := .int) (xss := y15.2.2.2.2.2.2.1) (by kernel_rfl) (pool_rows (by kernel_rfl)) rfl) (gm_cons (gd_mat (p := (oi 21 1)) (e1 := 23) (e := 3) (u := .int) (xss := y15.2.2.2.2.2.2.2) (by kernel_rfl) (pool_rows (by kernel_rfl)) rfl) gm_nil)))))))) (gm_cons (gd_agg (gm_cons (by kernel_rfl) (gm_cons (by kernel_rfl) (gm_cons (by kernel_rfl) (gm_cons (gd_mat (p := (oi 5 1)) (e1 := 23) (e := 3) (u := .int) (xss := y11.2.2.2.2.1) (by kernel_rfl) (pool_rows (by kernel_rfl)) rfl) (gm_cons (gd_mat (p := (oi 7 1)) (e1 := 23) (e := 3) (u := .int) (xss := y11.2.2.2.2.2.1) (by kernel_rfl) (pool_rows (by kernel_rfl)) rfl) (gm_cons (gd_mat (p := (oi 9 1)) (e1 := 23) (e := 3) (u := .int) (xss := y11.2.2.2.2.2.2.1) (by kernel_rfl) (pool_rows (by kernel_rfl)) rfl) (gm_cons (gd_mat (p := (oi 11 1)) (e1 := 23) (e := 3) (u := .int) (xss := y11.2.2.2.2.2.2.2) (by kernel_rfl) (pool_rows (by kernel_rfl)) rfl) gm_nil)))))))) gm_nil)) (ok_laws_eqStateSpace h36) hb_laws_eqStateSpace ?_
  refine rs0 (.bool (!y36)) (s_gd (by kernel_rfl) q35 (by kernel_rfl)) ?_
  refine rs0 (.bool (!y36)) (s_pickF (by kernel_rfl) q35) ?_
  refine rs0 (.bool (!y36)) (by kernel_rfl) ?_
  refine rs0 (.bool y15.1) (s_gd (by kernel_rfl) q37 (by kernel_rfl)) ?_
  refine rs0 (.bool y11.1) (s_gd (by kernel_rfl) q37 (by kernel_rfl)) ?_
  refine rs0 (.bool (y15.1 != y11.1)) (s_gd (by kernel_rfl) q37 (by kernel_rfl)) ?_
  refine rs0 (.bool (y15.1 != y11.1)) (s_pickF (by kernel_rfl) q37) ?_
  refine rnil (tn_ ?_)
  obtain rfl := Option.some.inj h
  exact ⟨_, (weak_ren [((oi 3 1), (oi 4 1)), ((oi 4 1), (oi 5 1)), ((oi 5 1), (oi 6 1)), ((oi 6 1), (oi 7 1)), ((oi 7 1), (oi 8 1)), ((oi 8 1), (oi 9 1)), ((oi 9 1), (oi 10 1)), ((oi 10 1), (oi 11 1)), ((oi 2 1), (oi 3 1)), ((oi 11 1), (oi 14 1)), ((oi 12 1), (oi 15 1)), ((oi 13 1), (oi 16 1)), ((oi 14 1), (oi 17 1)), ((oi 15 1), (oi 18 1)), ((oi 16 1), (oi 19 1)), ((oi 17 1), (oi 20 1)), ((oi 18 1), (oi 21 1))]), rfl⟩
 rintro l34_m65 _ rfl h
 (try dsimp only at h)
 rcases cond_some h with ⟨q38, h⟩ | ⟨q38, h⟩
 ·refine awp_condT_ q38 ?_
  refine seqR ?_
  refine awp_ret_ (tr_ ?_)
  obtain rfl := Option.some.inj h
  exact ret_ [(.bool false)] (p_one rfl (l_sc (by kernel_rfl)) p_nil)
 refine awp_condF_ q38 ?_
 refine awp_skip_ (tn_ ?_)
 refine ⟨_, Weak.refl _, ?_⟩
 refine seqR ?_
 refine awp_seqv_ ?_
 obtain ⟨y42, h42, h⟩ := ob_some h
 obtain ⟨g43, h⟩ := og_some h
 obtain ⟨g44, h⟩ := og_some h
 obtain ⟨g45, h⟩ := og_some h
 obtain ⟨g46, h⟩ := og_some h
 refine awp_region_ 7 ?_
 refine rsl (.agg [(ai ((y15.2.1 : Nat) : Int)), (ai y15.2.2.1), (ai ((y15.2.2.2.1 : Nat) : Int)), (.own (oi 11 1) (.slice .int) 0 y15.2.2.2.2.1.length), (.own (oi 13 1) (.slice .int) 0 y15.2.2.2.2.2.1.length), (.own (oi 15 1) (.slice .int) 0 y15.2.2.2.2.2.2.1.length), (.own (oi 17 1) (.slice .int) 0 y15.2.2.2.2.2.2.2.length)]) (by kernel_rfl) ?_
 refine rs0 (ai 1) (by kernel_rfl) ?_
 refine rcallM (ai y42.2.2.2.2) [((oi 11 1), some (.mat 23 (oi 1088 5) .int y42.1)), ((oi 1088 5), some (.pool 3 .int y42.1)), ((oi 13 1), some (.mat 23 (oi 1089 5) .int y42.2.1)), ((oi 1089 5), some (.pool 3 .int y42.2.1)), ((oi 15 1), some (.mat 23 (oi 1090 5) .int y42.2.2.1)), ((oi 1090 5), some (.pool 3 .int y42.2.2.1)), ((oi 17 1), some (.mat 23 (oi 1091 5) .int y42.2.2.2.1)), ((oi 1091 5), some (.pool 3 .int y42.2.2.2.1)), ((oi 11 1), none), ((oi 12 1), some (.pool 3 .int [])), ((oi 13 1), none), ((oi 14 1), some (.pool 3 .int [])), ((oi 15 1), none), ((oi 16 1), some (.pool 3 .int [])), ((oi 17 1), none), ((oi 18 1), some (.pool 3 .int []))] [((oi 0 0), (oi 11 1)), ((oi 1 0), (oi 12 1)), ((oi 2 0), (oi 13 1)), ((oi 3 0), (oi 14 1)), ((oi 4 0), (oi 15 1)), ((oi 5 0), (oi 16 1)), ((oi 6 0), (oi 17 1)), ((oi 7 0), (oi 18 1))] [(.agg [(ai ((y15.2.1 : Nat) : Int)), (ai y15.2.2.1), (ai ((y15.2.2.2.1 : Nat) : Int)), (.own (oi 11 1) (.slice .int) 0 y15.2.2.2.2.1.length), (.own (oi 13 1) (.slice .int) 0 y15.2.2.2.2.2.1.length), (.own (oi 15 1) (.slice .int) 0 y15.2.2.2.2.2.2.1.length), (.own (oi 17 1) (.slice .int) 0 y15.2.2.2.2.2.2.2.length)]), (ai 1)] (caps := []) trivial (ok_laws_markStateSpace h42 rfl rfl rfl rfl) hb_laws_markStateSpace ⟨(by kernel_rfl), ⟨(by kernel_rfl), ⟨(by kernel_rfl), ⟨(by kernel_rfl), ⟨(by kernel_rfl), ⟨(by kernel_rfl), ⟨(by kernel_rfl), ⟨(by kernel_rfl), trivial⟩⟩⟩⟩⟩⟩⟩⟩ (.cons (.agg (.cons (.ren (by kernel_rfl)) (.cons (.ren (by kernel_rfl)) (.cons (.ren (by kernel_rfl)) (.cons (.ren (by kernel_rfl)) (.cons (.ren (by kernel_rfl)) (.cons (.ren (by kernel_rfl)) (.cons (.ren (by kernel_rfl)) .nil)))))))) (.cons (.ren (by kernel_rfl)) .nil)) (reachL_mem (by kernel_rfl) (by kernel_rfl) ⟨(re_arg (by kernel_rfl)), ⟨re_rows (o := (oi 11 1)) (p := (oi 12 1)) (e1 := 23) (m := y15.2.2.2.2.1.length) (u := .int) (xss := y15.2.2.2.2.1) (re_arg (by kernel_rfl)) (by kernel_rfl), ⟨(re_arg (by kernel_rfl)), ⟨re_rows (o := (oi 13 1)) (p := (oi 14 1)) (e1 := 23) (m := y15.2.2.2.2.2.1.length) (u := .int) (xss := y15.2.2.2.2.2.1) (re_arg (by kernel_rfl)) (by kernel_rfl), ⟨(re_arg (by kernel_rfl)), ⟨re_rows (o := (oi 15 1)) (p := (oi 16 1)) (e1 := 23) (m := y15.2.2.2.2.2.2.1.length) (u := .int) (xss := y15.2.2.2.2.2.2.1) (re_arg (by kernel_rfl)) (by kernel_rfl), ⟨(re_arg (by kernel_rfl)), ⟨re_rows (o := (oi 17 1)) (p := (oi 18 1)) (e1 := 23) (m := y15.2.2.2.2.2.2.2.length) (u := .int) (xss := y15.2.2.2.2.2.2.2) (re_arg (by kernel_rfl)) (by kernel_rfl), trivial⟩⟩⟩⟩⟩⟩⟩⟩) ?_
 refine rsB 1 ?_
 refine rnil (tn_ ?_)
 refine ⟨_, Weak.refl _, ?_⟩
 refine seqR ?_
 refine awp_seqv_ ?_
 obtain ⟨y49, h49, h⟩ := ob_some h
 refine awp_region_ 12 ?_
 refine rsl (.agg [(ai ((y15.2.1 : Nat) : Int)), (ai y15.2.2.1), (ai ((y15.2.2.2.1 : Nat) : Int)), (.own (oi 11 1) (.slice .int) 0 y15.2.2.2.2.1.length), (.own (oi 13 1) (.slice .int) 0 y15.2.2.2.2.2.1.length), (.own (oi 15 1) (.slice .int) 0 y15.2.2.2.2.2.2.1.length), (.own (oi 17 1) (.slice .int) 0 y15.2.2.2.2.2.2.2.length)]) (by kernel_rfl) ?_
 refine rs0 (ai 1) (by kernel_rfl) ?_
 refine rcall (ai y49) [] [(.agg [(ai ((y15.2.1 : Nat) : Int)), (ai y15.2.2.1), (ai ((y15.2.2.2.1 : Nat) : Int)), (.own (oi 11 1) (.slice .int) 0 y15.2.2.2.2.1.length), (.own (oi 13 1) (.slice .int) 0 y15.2.2.2.2.2.1.length), (.own (oi 15 1) (.slice .int) 0 y15.2.2.2.2.2.2.1.length), (.own (oi 17 1) (.slice .int) 0 y15.2.2.2.2.2.2.2.length)]), (ai 1)] _ (caps := []) (args0 := [(.agg [(ai ((y15.2.1 : Nat) : Int)), (ai y15.2.2.1), (ai ((y15.2.2.2.1 : Nat) : Int)), (.tree (.slice .int) y42.1), (.tree (.slice .int) y42.2.1), (.tree (.slice .int) y42.2.2.1), (.tree (.slice .int) y42.2.2.2.1)]), (ai 1)]) trivial (gm_cons (gd_agg (gm_cons (by kernel_rfl) (gm_cons (by kernel_rfl) (gm_cons (by kernel_rfl) (gm_cons (gd_mat (p := (oi 1088 5)) (e1 := 23) (e := 3) (u := .int) (xss := y42.1) (by kernel_rfl) (pool_rows (by kernel_rfl)) g43.symm) (gm_cons (gd_mat (p := (oi 1089 5)) (e1 := 23) (e := 3) (u := .int) (xss := y42.2.1) (by kernel_rfl) (pool_rows (by kernel_rfl)) g44.symm) (gm_cons (gd_mat (p := (oi 1090 5)) (e1 := 23) (e := 3) (u := .int) (xss := y42.2.2.1) (by kernel_rfl) (pool_rows (by kernel_rfl)) g45.symm) (gm_cons (gd_mat (p := (oi 1091 5)) (e1 := 23) (e := 3) (u := .int) (xss := y42.2.2.2.1) (by kernel_rfl) (pool_rows (by kernel_rfl)) g46.symm) gm_nil)))))))) (gm_cons (by kernel_rfl) gm_nil)) (ok_laws_heldStateSpace h49) hb_laws_heldStateSpace ?_
 refine rsB 1 ?_
 refine rnil (tn_ ?_)
 refine ⟨_, Weak.refl _, ?_⟩
 refine awp_seqv_ ?_
 refine seqR ?_
 rcases cond_some h with ⟨q52, h⟩ | ⟨q52, h⟩
 ·have q52_ := of_decide_eq_true q52
  refine awp_condT_ q52 ?_
  refine seqR ?_
  refine awp_ret_ (tr_ ?_)
  obtain rfl := Option.some.inj h
  exact ret_ [(.bool false)] (p_one rfl (l_sc (by kernel_rfl)) p_nil)
 have q52_ := of_decide_eq_false q52
 refine awp_condF_ q52 ?_
 refine awp_skip_ (tn_ ?_)
 refine ⟨_, Weak.refl _, ?_⟩
 refine awp_seqv_ ?_
 refine seqR ?_
 rcases cond_some h with ⟨q56, h⟩ | ⟨q56, h⟩
 ·refine awp_condT_ q56 ?_
  refine seqR ?_
  refine awp_ret_ (tr_ ?_)
  obtain rfl := Option.some.inj h
  exact ret_ [(.bool false)] (p_one rfl (l_sc (by kernel_rfl)) p_nil)
 refine awp_condF_ q56 ?_
 refine awp_skip_ (tn_ ?_)
 refine ⟨_, Weak.refl _, ?_⟩
 refine awp_seqv_ ?_
 obtain ⟨y59, h59, h⟩ := ob_some h
 obtain ⟨y60, h60, h⟩ := ob_some h
 refine awp_region_ 27 ?_
 refine rs0 (ai a0) (by kernel_rfl) ?_
 refine rsl (.agg [(ai a1_0), (.tree (.pair .int (.pair .int (.pair .int .int))) a1_1), (.tree .int a1_2)]) (by kernel_rfl) ?_
 refine rcall (.agg [(ai y59.1), (.own (oi 1280 19) (.pair .int (.pair .int (.pair .int .int))) 0 y59.2.1.length), (.own (oi 1281 19) .int 0 y59.2.2.length)]) [((oi 1280 19), some (.arr 57 (.pair .int (.pair .int (.pair .int .int))) y59.2.1)), ((oi 1281 19), some (.arr 3 .int y59.2.2))] [(.agg [(ai a1_0), (.tree (.pair .int (.pair .int (.pair .int .int))) a1_1), (.tree .int a1_2)])] _ (caps := []) (args0 := [(.agg [(ai a1_0), (.tree (.pair .int (.pair .int (.pair .int .int))) a1_1), (.tree .int a1_2)])]) trivial (by kernel_rfl) (ok_laws_toCircuit h59) hb_laws_toCircuit ?_
 refine rcallM (.tup [(.agg [(ai ((y60.2.1 : Nat) : Int)), (ai y60.2.2.1), (ai ((y60.2.2.2.1 : Nat) : Int)), (.own (oi 1297 20) (.slice .int) 0 y60.2.2.2.2.1.length), (.own (oi 1299 20) (.slice .int) 0 y60.2.2.2.2.2.1.length), (.own (oi 1301 20) (.slice .int) 0 y60.2.2.2.2.2.2.1.length), (.own (oi 1303 20) (.slice .int) 0 y60.2.2.2.2.2.2.2.length)]), (.bool y60.1)]) [((oi 1296 20), some (.cells 29 [(ai ((y60.2.1 : Nat) : Int)), (ai y60.2.2.1), (ai ((y60.2.2.2.1 : Nat) : Int)), (.own (oi 1297 20) (.slice .int) 0 y60.2.2.2.2.1.length), (.own (oi 1299 20) (.slice .int) 0 y60.2.2.2.2.2.1.length), (.own (oi 1301 20) (.slice .int) 0 y60.2.2.2.2.2.2.1.length), (.own (oi 1303 20) (.slice .int) 0 y60.2.2.2.2.2.2.2.length)])), ((oi 1297 20), some (.mat 23 (oi 1298 20) .int y60.2.2.2.2.1)), ((oi 1298 20), some (.pool 3 .int y60.2.2.2.2.1)), ((oi 1299 20), some (.mat 23 (oi 1300 20) .int y60.2.2.2.2.2.1)), ((oi 1300 20), some (.pool 3 .int y60.2.2.2.2.2.1)), ((oi 1301 20), some (.mat 23 (oi 1302 20) .int y60.2.2.2.2.2.2.1)), ((oi 1302 20), some (.pool 3 .int y60.2.2.2.2.2.2.1)), ((oi 1303 20), some (.mat 23 (oi 1304 20) .int y60.2.2.2.2.2.2.2)), ((oi 1304 20), some (.pool 3 .int y60.2.2.2.2.2.2.2))] [] [(ai a0), (.agg [(ai y59.1), (.own (oi 1280 19) (.pair .int (.pair .int (.pair .int .int))) 0 y59.2.1.length), (.own (oi 1281 19) .int 0 y59.2.2.length)])] (caps := []) trivial (ok_impl_SpaceOfCircuit h60) hb_impl_SpaceOfCircuit trivial (.cons (.ren (by kernel_rfl)) (.cons (.agg (.cons (.ren (by kernel_rfl)) (.cons (.gnd (by kernel_rfl) (gd_own (e := 57) ((less_at (by kernel_rfl) (by kernel_rfl) (by kernel_rfl)).trans (by kernel_rfl)) rfl)) (.cons (.gnd (by kernel_rfl) (gd_own (e := 3) ((less_at (by kernel_rfl) (by kernel_rfl) (by kernel_rfl)).trans (by kernel_rfl)) rfl)) .nil)))) .nil)) (reachL_mem (by kernel_rfl) (by kernel_rfl) trivial) ?_
 refine rsB 6 ?_
 refine rnil (tn_ ?_)
 refine ⟨_, Weak.refl _, ?_⟩
 refine awp_seqv_ ?_
 refine awp_seqB h (fun (l62_m92 : Bool) S_ => S_ = ⟨mkTm [(9, (.box (oi 0 1) 0)), (12, (ai y42.2.2.2.2)), (92, (.bool l62_m92))], mkOb (someL [((oi 0 1), .cells 29 [(ai ((y15.2.1 : Nat) : Int)), (ai y15.2.2.1), (ai ((y15.2.2.2.1 : Nat) : Int)), (.own (oi 1 1) (.slice .int) 0 y42.1.length), (.own (oi 3 1) (.slice .int) 0 y42.2.1.length), (.own (oi 5 1) (.slice .int) 0 y42.2.2.1.length), (.own (oi 7 1) (.slice .int) 0 y42.2.2.2.1.length)]), ((oi 1 1), .mat 23 (oi 2 1) .int y42.1), ((oi 2 1), .pool 3 .int y42.1), ((oi 3 1), .mat 23 (oi 4 1) .int y42.2.1), ((oi 4 1), .pool 3 .int y42.2.1), ((oi 5 1), .mat 23 (oi 6 1) .int y42.2.2.1), ((oi 6 1), .pool 3 .int y42.2.2.1), ((oi 7 1), .mat 23 (oi 8 1) .int y42.2.2.2.1), ((oi 8 1), .pool 3 .int y42.2.2.2.1)]), 2⟩) ?_ ?_
 ·intro v_ h
  obtain ⟨y63, h63, h⟩ := ob_some h
  rcases cond_some h with ⟨q64, h⟩ | ⟨q64, h⟩
  ·refine awp_region_ 36 ?_
   refine rsl (.agg [(ai ((y60.2.1 : Nat) : Int)), (ai y60.2.2.1), (ai ((y60.2.2.2.1 : Nat) : Int)), (.own (oi 1297 20) (.slice .int) 0 y60.2.2.2.2.1.length), (.own (oi 1299 20) (.slice .int) 0 y60.2.2.2.2.2.1.length), (.own (oi 1301 20) (.slice .int) 0 y60.2.2.2.2.2.2.1.length), (.own (oi 1303 20) (.slice .int) 0 y60.2.2.2.2.2.2.2.length)]) (by kernel_rfl) ?_
   refine rsl (.agg [(ai ((y11.2.1 : Nat) : Int)), (ai y11.2.2.1), (ai ((y11.2.2.2.1 : Nat) : Int)), (.own (oi 3 1) (.slice .int) 0 y11.2.2.2.2.1.length), (.own (oi 5 1) (.slice .int) 0 y11.2.2.2.2.2.1.length), (.own (oi 7 1) (.slice .int) 0 y11.2.2.2.2.2.2.1.length), (.own (oi 9 1) (.slice .int) 0 y11.2.2.2.2.2.2.2.length)]) (by kernel_rfl) ?_
   refine rcall (.bool y63) [] [(.agg [(ai ((y60.2.1 : Nat) : Int)), (ai y60.2.2.1), (ai ((y60.2.2.2.1 : Nat) : Int)), (.own (oi 1297 20) (.slice .int) 0 y60.2.2.2.2.1.length), (.own (oi 1299 20) (.slice .int) 0 y60.2.2.2.2.2.1.length), (.own (oi 1301 20) (.slice .int) 0 y60.2.2.2.2.2.2.1.length), (.own (oi 1303 20) (.slice .int) 0 y60.2.2.2.2.2.2.2.length)]), (.agg [(ai ((y11.2.1 : Nat) : Int)), (ai y11.2.2.1), (ai ((y11.2.2.2.1 : Nat) : Int)), (.own (oi 3 1) (.slice .int) 0 y11.2.2.2.2.1.length), (.own (oi 5 1) (.slice .int) 0 y11.2.2.2.2.2.1.length), (.own (oi 7 1) (.slice .int) 0 y11.2.2.2.2.2.2.1.length), (.own (oi 9 1) (.slice .int) 0 y11.2.2.2.2.2.2.2.length)])] _ (caps := []) (args0 := [(.agg [(ai ((y60.2.1 : Nat) : Int)), (ai y60.2.2.1), (ai ((y60.2.2.2.1 : Nat) : Int)), (.tree (.slice .int) y60.2.2.2.2.1), (.tree (.slice .int) y60.2.2.2.2.2.1), (.tree (.slice .int) y60.2.2.2.2.2.2.1), (.tree (.slice .int) y60.2.2.2.2.2.2.2)]), (.agg [(ai ((y11.2.1 : Nat) : Int)), (ai y11.2.2.1), (ai ((y11.2.2.2.1 : Nat) : Int)), (.tree (.slice .int) y11.2.2.2.2.1), (.tree (.slice .int) y11.2.2.2.2.2.1), (.tree (.slice .int) y11.2.2.2.2.2.2.1), (.tree (.slice .int) y11.2.2.2.2.2.2.2)])]) trivial (gm_cons (gd_agg (gm_cons (by kernel_rfl) (gm_cons (by kernel_rfl) (gm_cons (by kernel_rfl) (gm_cons (gd_mat (p := (oi 1298 20)) (e1 := 23) (e := 3) (u := .int) (xss := y60.2.2.2.2.1) (by kernel_rfl) (pool_rows (by kernel_rfl)) rfl) (gm_cons (gd_mat (p := (oi 1300 20)) (e1 := 23) (e := 3) (u := .int) (xss := y60.2.2.2.2.2.1) (by kernel_rfl) (pool_rows (by kernel_rfl)) rfl) (gm_cons (gd_mat (p := (oi 1302 20)) (e1 := 23) (e := 3) (u := .int) (xss := y60.2.2.2.2.2.2.1) (by kernel_rfl) (pool_rows (by kernel_rfl)) rfl) (gm_cons (gd_mat (p := (oi 1304 20)) (e1 := 23) (e := 3) (u := .int) (xss := y60.2.2.2.2.2.2.2) (by kernel_rfl) (pool_rows (by kernel_rfl)) rfl) gm_nil)))))))) (gm_cons (gd_agg (gm_cons (by kernel_rfl) (gm_cons (by kernel_rfl) (gm_cons (by kernel_rfl) (gm_cons (gd_mat (p := (oi 4 1)) (e1 := 23) (e := 3) (u := .int) (xss := y11.2.2.2.2.1) (by kernel_rfl) (pool_rows (by kernel_rfl)) rfl) (gm_cons (gd_mat (p := (oi 6 1)) (e1 := 23) (e := 3) (u := .int) (xss := y11.2.2.2.2.2.1) (by kernel_rfl) (pool_rows (by kernel_rfl)) rfl) (gm_cons (gd_mat (p := (oi 8 1)) (e1 := 23) (e := 3) (u := .int) (xss := y11.2.2.2.2.2.2.1) (by kernel_rfl) (pool_rows (by kernel_rfl)) rfl) (gm_cons (gd_mat (p := (oi 10 1)) (e1 := 23) (e := 3) (u := .int) (xss := y11.2.2.2.2.2.2.2) (by kernel_rfl) (pool_rows (by kernel_rfl)) rfl) gm_nil)))))))) gm_nil)) (ok_laws_eqStateSpace h63) hb_laws_eqStateSpace ?_
   refine rs0 (.bool (!y63)) (by kernel_rfl) ?_
   refine rs0 (.bool (!y63)) (by kernel_rfl) ?_
   refine rs0 (.tup []) (s_skip (by kernel_rfl) q64) ?_
   refine rs0 (.tup []) (s_skip (by kernel_rfl) q64) ?_
   refine rs0 (.tup []) (s_skip (by kernel_rfl) q64) ?_
   refine rs0 (.bool true) (s_pickT (by kernel_rfl) q64) ?_
   refine rnil (tn_ ?_)
   obtain rfl := Option.some.inj h
   exact ⟨_, ((weak_ob_ (oi 2 1) (.cells 29 [(ai ((y15.2.1 : Nat) : Int)), (ai y15.2.2.1), (ai ((y15.2.2.2.1 : Nat) : Int)), (.own (oi 11 1) (.slice .int) 0 y15.2.2.2.2.1.length), (.own (oi 13 1) (.slice .int) 0 y15.2.2.2.2.2.1.length), (.own (oi 15 1) (.slice .int) 0 y15.2.2.2.2.2.2.1.length), (.own (oi 17 1) (.slice .int) 0 y15.2.2.2.2.2.2.2.length)]) (.cells 29 [(ai ((y15.2.1 : Nat) : Int)), (ai y15.2.2.1), (ai ((y15.2.2.2.1 : Nat) : Int)), (.own (oi 11 1) (.slice .int) 0 y42.1.length), (.own (oi 13 1) (.slice .int) 0 y15.2.2.2.2.2.1.length), (.own (oi 15 1) (.slice .int) 0 y15.2.2.2.2.2.2.1.length), (.own (oi 17 1) (.slice .int) 0 y15.2.2.2.2.2.2.2.length)]) (by kernel_rfl) (congrArg (fun z_ => (.cells 29 [(ai ((y15.2.1 : Nat) : Int)), (ai y15.2.2.1), (ai ((y15.2.2.2.1 : Nat) : Int)), (.own (oi 11 1) (.slice .int) 0 z_), (.own (oi 13 1) (.slice .int) 0 y15.2.2.2.2.2.1.length), (.own (oi 15 1) (.slice .int) 0 y15.2.2.2.2.2.2.1.length), (.own (oi 17 1) (.slice .int) 0 y15.2.2.2.2.2.2.2.length)] : Ob)) (g43.symm : y15.2.2.2.2.1.length = y42.1.length))).trans ((weak_ob_ (oi 2 1) (.cells 29 [(ai ((y15.2.1 : Nat) : Int)), (ai y15.2.2.1), (ai ((y15.2.2.2.1 : Nat) : Int)), (.own (oi 11 1) (.slice .int) 0 y42.1.length), (.own (oi 13 1) (.slice .int) 0 y15.2.2.2.2.2.1.length), (.own (oi 15 1) (.slice .int) 0 y15.2.2.2.2.2.2.1.length), (.own (oi 17 1) (.slice .int) 0 y15.2.2.2.2.2.2.2.length)]) (.cells 29 [(ai ((y15.2.1 : Nat) : Int)), (ai y15.2.2.1), (ai ((y15.2.2.2.1 : Nat) : Int)), (.own (oi 11 1) (.slice .int) 0 y42.1.length), (.own (oi 13 1) (.slice .int) 0 y42.2.1.length), (.own (oi 15 1) (.slice .int) 0 y15.2.2.2.2.2.2.1.length), (.own (oi 17 1) (.slice .int) 0 y15.2.2.2.2.2.2.2.length)]) (by kernel_rfl) (congrArg (fun z_ => (.cells 29 [(ai ((y15.2.1 : Nat) : Int)), (ai y15.2.2.1), (ai ((y15.2.2.2.1 : Nat) : Int)), (.own (oi 11 1) (.slice .int) 0 y42.1.length), (.own (oi 13 1) (.slice .int) 0 z_), (.own (oi 15 1) (.slice .int) 0 y15.2.2.2.2.2.2.1.length), (.own (oi 17 1) (.slice .int) 0 y15.2.2.2.2.2.2.2.length)] : Ob)) (g44.symm : y15.2.2.2.2.2.1.length = y42.2.1.length))).trans ((weak_ob_ (oi 2 1) (.cells 29 [(ai ((y15.2.1 : Nat) : Int)), (ai y15.2.2.1), (ai ((y15.2.2.2.1 : Nat) : Int)), (.own (oi 11 1) (.slice .int) 0 y42.1.length), (.own (oi 13 1) (.slice .int) 0 y42.2.1.length), (.own (oi 15 1) (.slice .int) 0 y15.2.2.2.2.2.2.1.length), (.own (oi 17 1) (.slice .int) 0 y15.2.2.2.2.2.2.2.length)]) (.cells 29 [(ai ((y15.2.1 : Nat) : Int)), (ai y15.2.2.1), (ai ((y15.2.2.2.1 : Nat) : Int)), (.own (oi 11 1) (.slice .int) 0 y42.1.length), (.own (oi 13 1) (.slice .int) 0 y42.2.1.length), (.own (oi 15 1) (.slice .int) 0 y42.2.2.1.length), (.own (oi 17 1) (.slice .int) 0 y15.2.2.2.2.2.2.2.length)]) (by kernel_rfl) (congrArg (fun z_ => (.cells 29 [(ai ((y15.2.1 : Nat) : Int)), (ai y15.2.2.1), (ai ((y15.2.2.2.1 : Nat) : Int)), (.own (oi 11 1) (.slice .int) 0 y42.1.length), (.own (oi 13 1) (.slice .int) 0 y42.2.1.length), (.own (oi 15 1) (.slice .int) 0 z_), (.own (oi 17 1) (.slice .int) 0 y15.2.2.2.2.2.2.2.length)] : Ob)) (g45.symm : y15.2.2.2.2.2.2.1.length = y42.2.2.1.length))).trans ((weak_ob_ (oi 2 1) (.cells 29 [(ai ((y15.2.1 : Nat) : Int)), (ai y15.2.2.1), (ai ((y15.2.2.2.1 : Nat) : Int)), (.own (oi 11 1) (.slice .int) 0 y42.1.length), (.own (oi 13 1) (.slice .int) 0 y42.2.1.length), (.own (oi 15 1) (.slice .int) 0 y42.2.2.1.length), (.own (oi 17 1) (.slice .int) 0 y15.2.2.2.2.2.2.2.length)]) (.cells 29 [(ai ((y15.2.1 : Nat) : Int)), (ai y15.2.2.1), (ai ((y15.2.2.2.1 : Nat) : Int)), (.own (oi 11 1) (.slice .int) 0 y42.1.length), (.own (oi 13 1) (.slice .int) 0 y42.2.1.length), (.own (oi 15 1) (.slice .int) 0 y42.2.2.1.length), (.own (oi 17 1) (.slice .int) 0 y42.2.2.2.1.length)]) (by kernel_rfl) (congrArg (fun z_ => (.cells 29 [(ai ((y15.2.1 : Nat) : Int)), (ai y15.2.2.1), (ai ((y15.2.2.2.1 : Nat) : Int)), (.own (oi 11 1) (.slice .int) 0 y42.1.length), (.own (oi 13 1) (.slice .int) 0 y42.2.1.length), (.own (oi 15 1) (.slice .int) 0 y42.2.2.1.length), (.own (oi 17 1) (.slice .int) 0 z_)] : Ob)) (g46.symm : y15.2.2.2.2.2.2.2.length = y42.2.2.2.1.length))).trans (weak_ren [((oi 0 1), (oi 2 1)), ((oi 1 1), (oi 11 1)), ((oi 2 1), (oi 1088 5)), ((oi 3 1), (oi 13 1)), ((oi 4 1), (oi 1089 5)), ((oi 5 1), (oi 15 1)), ((oi 6 1), (oi 1090 5)), ((oi 7 1), (oi 17 1)), ((oi 8 1), (oi 1091 5))]))))), rfl⟩
  refine awp_region_ 36 ?_
  refine rsl (.agg [(ai ((y60.2.1 : Nat) : Int)), (ai y60.2.2.1), (ai ((y60.2.2.2.1 : Nat) : Int)), (.own (oi 1297 20) (.slice .int) 0 y60.2.2.2.2.1.length), (.own (oi 1299 20) (.slice .int) 0 y60.2.2.2.2.2.1.length), (.own (oi 1301 20) (.slice .int) 0 y60.2.2.2.2.2.2.1.length), (.own (oi 1303 20) (.slice .int) 0 y60.2.2.2.2.2.2.2.length)]) (by kernel_rfl) ?_
  refine rsl (.agg [(ai ((y11.2.1 : Nat) : Int)), (ai y11.2.2.1), (ai ((y11.2.2.2.1 : Nat) : Int)), (.own (oi 3 1) (.slice .int) 0 y11.2.2.2.2.1.length), (.own (oi 5 1) (.slice .int) 0 y11.2.2.2.2.2.1.length), (.own (oi 7 1) (.slice .int) 0 y11.2.2.2.2.2.2.1.length), (.own (oi 9 1) (.slice .int) 0 y11.2.2.2.2.2.2.2.length)]) (by kernel_rfl) ?_
  refine rcall (.bool y63) [] [(.agg [(ai ((y60.2.1 : Nat) : Int)), (ai y60.2.2.1), (ai ((y60.2.2.2.1 : Nat) : Int)), (.own (oi 1297 20) (.slice .int) 0 y60.2.2.2.2.1.length), (.own (oi 1299 20) (.slice .int) 0 y60.2.2.2.2.2.1.length), (.own (oi 1301 20) (.slice .int) 0 y60.2.2.2.2.2.2.1.length), (.own (oi 1303 20) (.slice .int) 0 y60.2.2.2.2.2.2.2.length)]), (.agg [(ai ((y11.2.1 : Nat) : Int)), (ai y11.2.2.1), (ai ((y11.2.2.2.1 : Nat) : Int)), (.own (oi 3 1) (.slice .int) 0 y11.2.2.2.2.1.length), (.own (oi 5 1) (.slice .int) 0 y11.2.2.2.2.2.1.length), (.own (oi 7 1) (.slice .int) 0 y11.2.2.2.2.2.2.1.length), (.own (oi 9 1) (.slice .int) 0 y11.2.2.2.2.2.2.2.length)])] _ (caps := []) (args0 := [(.agg [(ai ((y60.2.1 : Nat) : Int)), (ai y60.2.2.1), (ai ((y60.2.2.2.1 : Nat) : Int)), (.tree (.slice .int) y60.2.2.2.2.1), (.tree (.slice .int) y60.2.2.2.2.2.1), (.tree (.slice .int) y60.2.2.2.2.2.2.1), (.tree (.slice .int) y60.2.2.2.2.2.2.2)]), (.agg [(ai ((y11.2.1 : Nat) : Int)), (ai y11.2.2.1), (ai ((y11.2.2.2.1 : Nat) : Int)), (.tree (.slice .int) y11.2.2.2.2.1), (.tree (.slice .int) y11.2.2.2.2.2.1), (.tree (.slice .int) y11.2.2.2.2.2.2.1), (.tree (.slice .int) y11.2.2.2.2.2.2.2)])]) trivial (gm_cons (gd_agg (gm_cons (by kernel_rfl) (gm_cons (by kernel_rfl) (gm_cons (by kernel_rfl) (gm_cons (gd_mat (p := (oi 1298 20)) (e1 := 23) (e := 3) (u := .int) (xss := y60.2.2.2.2.1) (by kernel_rfl) (pool_rows (by kernel_rfl)) rfl) (gm_cons (gd_mat (p := (oi 1300 20)) (e1 := 23) (e := 3) (u := .int) (xss := y60.2.2.2.2.2.1) (by kernel_rfl) (pool_rows (by kernel_rfl)) rfl) (gm_cons (gd_mat (p := (oi 1302 20)) (e1 := 23) (e := 3) (u := .int) (xss := y60.2.2.2.2.2.2.1) (by kernel_rfl) (pool_rows (by kernel_rfl)) rfl) (gm_cons (gd_mat (p := (oi 1304 20)) (e1 := 23) (e := 3) (u := .int) (xss := y60.2.2.2.2.2.2.2) (by kernel_rfl) (pool_rows (by kernel_rfl)) rfl) gm_nil)))))))) (gm_cons (gd_agg (gm_cons (by kernel_rfl) (gm_cons (by kernel_rfl) (gm_cons (by kernel_rfl) (gm_cons (gd_mat (p := (oi 4 1)) (e1 := 23) (e := 3) (u := .int) (xss := y11.2.2.2.2.1) (by kernel_rfl) (pool_rows (by kernel_rfl)) rfl) (gm_cons (gd_mat (p := (oi 6 1)) (e1 := 23) (e := 3) (u := .int) (xss := y11.2.2.2.2.2.1) (by kernel_rfl) (pool_rows (by kernel_rfl)) rfl) (gm_cons (gd_mat (p := (oi 8 1)) (e1 := 23) (e := 3) (u := .int) (xss := y11.2.2.2.2.2.2.1) (by kernel_rfl) (pool_rows (by kernel_rfl)) rfl) (gm_cons (gd_mat (p := (oi 10 1)) (e1 := 23) (e := 3) (u := .int) (xss := y11.2.2.2.2.2.2.2) (by kernel_rfl) (pool_rows (by kernel_rfl)) rfl) gm_nil)))))))) gm_nil)) (ok_laws_eqStateSpace h63) hb_laws_eqStateSpace ?_
  refine rs0 (.bool (!y63)) (by kernel_rfl) ?_
  refine rs0 (.bool (!y63)) (by kernel_rfl) ?_
  refine rs0 (.bool y60.1) (s_gd (by kernel_rfl) q64 (by kernel_rfl)) ?_
  refine rs0 (.bool y11.1) (s_gd (by kernel_rfl) q64 (by kernel_rfl)) ?_
  refine rs0 (.bool (y60.1 != y11.1)) (s_gd (by kernel_rfl) q64 (by kernel_rfl)) ?_
  refine rs0 (.bool (y60.1 != y11.1)) (s_pickF (by kernel_rfl) q64) ?_
  refine rnil (tn_ ?_)
  obtain rfl := Option.some.inj h
  exact ⟨_, ((weak_ob_ (oi 2 1) (.cells 29 [(ai ((y15.2.1 : Nat) : Int)), (ai y15.2.2.1), (ai ((y15.2.2.2.1 : Nat) : Int)), (.own (oi 11 1) (.slice .int) 0 y15.2.2.2.2.1.length), (.own (oi 13 1) (.slice .int) 0 y15.2.2.2.2.2.1.length), (.own (oi 15 1) (.slice .int) 0 y15.2.2.2.2.2.2.1.length), (.own (oi 17 1) (.slice .int) 0 y15.2.2.2.2.2.2.2.length)]) (.cells 29 [(ai ((y15.2.1 : Nat) : Int)), (ai y15.2.2.1), (ai ((y15.2.2.2.1 : Nat) : Int)), (.own (oi 11 1) (.slice .int) 0 y42.1.length), (.own (oi 13 1) (.slice .int) 0 y15.2.2.2.2.2.1.length), (.own (oi 15 1) (.slice .int) 0 y15.2.2.2.2.2.2.1.length), (.own (oi 17 1) (.slice .int) 0 y15.2.2.2.2.2.2.2.length)]) (by kernel_rfl) (congrArg (fun z_ => (.cells 29 [(ai ((y15.2.1 : Nat) : Int)), (ai y15.2.2.1), (ai ((y15.2.2.2.1 : Nat) : Int)), (.own (oi 11 1) (.slice .int) 0 z_), (.own (oi 13 1) (.slice .int) 0 y15.2.2.2.2.2.1.length), (.own (oi 15 1) (.slice .int) 0 y15.2.2.2.2.2.2.1.length), (.own (oi 17 1) (.slice .int) 0 y15.2.2.2.2.2.2.2.length)] : Ob)) (g43.symm : y15.2.2.2.2.1.length = y42.1.length))).trans ((weak_ob_ (oi 2 1) (.cells 29 [(ai ((y15.2.1 : Nat) : Int)), (ai y15.2.2.1), (ai ((y15.2.2.2.1 : Nat) : Int)), (.own (oi 11 1) (.slice .int) 0 y42.1.length), (.own (oi 13 1) (.slice .int) 0 y15.2.2.2.2.2.1.length), (.own (oi 15 1) (.slice .int) 0 y15.2.2.2.2.2.2.1.length), (.own (oi 17 1) (.slice .int) 0 y15.2.2.2.2.2.2.2.length)]) (.cells 29 [(ai ((y15.2.1 : Nat) : Int)), (ai y15.2.2.1), (ai ((y15.2.2.2.1 : Nat) : Int)), (.own (oi 11 1) (.slice .int) 0 y42.1.length), (.own (oi 13 1) (.slice .int) 0 y42.2.1.length), (.own (oi 15 1) (.slice .int) 0 y15.2.2.2.2.2.2.1.length), (.own (oi 17 1) (.slice .int) 0 y15.2.2.2.2.2.2.2.length)]) (by kernel_rfl) (congrArg (fun z_ => (.cells 29 [(ai ((y15.2.1 : Nat) : Int)), (ai y15.2.2.1), (ai ((y15.2.2.2.1 : Nat) : Int)), (.own (oi 11 1) (.slice .int) 0 y42.1.length), (.own (oi 13 1) (.slice .int) 0 z_), (.own (oi 15 1) (.slice .int) 0 y15.2.2.2.2.2.2.1.length), (.own (oi 17 1) (.slice .int) 0 y15.2.2.2.2.2.2.2.length)] : Ob)) (g44.symm : y15.2.2.2.2.2.1.length = y42.2.1.length))).trans ((weak_ob_ (oi 2 1) (.cells 29 [(ai ((y15.2.1 : Nat) : Int)), (ai y15.2.2.1), (ai ((y15.2.2.2.1 : Nat) : Int)), (.own (oi 11 1) (.slice .int) 0 y42.1.length), (.own (oi 13 1) (.slice .int) 0 y42.2.1.length), (.own (oi 15 1) (.slice .int) 0 y15.2.2.2.2.2.2.1.length), (.own (oi 17 1) (.slice .int) 0 y15.2.2.2.2.2.2.2.length)]) (.cells 29 [(ai ((y15.2.1 : Nat) : Int)), (ai y15.2.2.1), (ai ((y15.2.2.2.1 : Nat) : Int)), (.own (oi 11 1) (.slice .int) 0 y42.1.length), (.own (oi 13 1) (.slice .int) 0 y42.2.1.length), (.own (oi 15 1) (.slice .int) 0 y42.2.2.1.length), (.own (oi 17 1) (.slice .int) 0 y15.2.2.2.2.2.2.2.length)]) (by kernel_rfl) (congrArg (fun z_ => (.cells 29 [(ai ((y15.2.1 : Nat) : Int)), (ai y15.2.2.1), (ai ((y15.2.2.2.1 : Nat) : Int)), (.own (oi 11 1) (.slice .int) 0 y42.1.length), (.own (oi 13 1) (.slice .int) 0 y42.2.1.length), (.own (oi 15 1) (.slice .int) 0 z_), (.own (oi 17 1) (.slice .int) 0 y15.2.2.2.2.2.2.2.length)] : Ob)) (g45.symm : y15.2.2.2.2.2.2.1.length = y42.2.2.1.length))).trans ((weak_ob_ (oi 2 1) (.cells 29 [(ai ((y15.2.1 : Nat) : Int)), (ai y15.2.2.1), (ai ((y15.2.2.2.1 : Nat) : Int)), (.own (oi 11 1) (.slice .int) 0 y42.1.length), (.own (oi 13 1) (.slice .int) 0 y42.2.1.length), (.own (oi 15 1) (.slice .int) 0 y42.2.2.1.length), (.own (oi 17 1) (.slice .int) 0 y15.2.2.2.2.2.2.2.length)]) (.cells 29 [(ai ((y15.2.1 : Nat) : Int)), (ai y15.2.2.1), (ai ((y15.2.2.2.1 : Nat) : Int)), (.own (oi 11 1) (.slice .int) 0 y42.1.length), (.own (oi 13 1) (.slice .int) 0 y42.2.1.length), (.own (oi 15 1) (.slice .int) 0 y42.2.2.1.length), (.own (oi 17 1) (.slice .int) 0 y42.2.2.2.1.length)]) (by kernel_rfl) (congrArg (fun z_ => (.cells 29 [(ai ((y15.2.1 : Nat) : Int)), (ai y15.2.2.1), (ai ((y15.2.2.2.1 : Nat) : Int)), (.own (oi 11 1) (.slice .int) 0 y42.1.length), (.own (oi 13 1) (.slice .int) 0 y42.2.1.length), (.own (oi 15 1) (.slice .int) 0 y42.2.2.1.length), (.own (oi 17 1) (.slice .int) 0 z_)] : Ob)) (g46.symm : y15.2.2.2.2.2.2.2.length = y42.2.2.2.1.length))).trans (weak_ren [((oi 0 1), (oi 2 1)), ((oi 1 1), (oi 11 1)), ((oi 2 1), (oi 1088 5)), ((oi 3 1), (oi 13 1)), ((oi 4 1), (oi 1089 5)), ((oi 5 1), (oi 15 1)), ((oi 6 1), (oi 1090 5)), ((oi 7 1), (oi 17 1)), ((oi 8 1), (oi 1091 5))]))))), rfl⟩
 rintro l62_m92 _ rfl h
 (try dsimp only at h)
 rcases cond_some h with ⟨q65, h⟩ | ⟨q65, h⟩
 ·refine awp_condT_ q65 ?_
  refine seqR ?_
  refine awp_ret_ (tr_ ?_)
  obtain rfl := Option.some.inj h
  exact ret_ [(.bool false)] (p_one rfl (l_sc (by kernel_rfl)) p_nil)
 refine awp_condF_ q65 ?_
 refine awp_skip_ (tn_ ?_)
 refine ⟨_, Weak.refl _, ?_⟩
 refine seqR ?_
 refine awp_seqv_ ?_
 obtain ⟨y69, h69, h⟩ := ob_some h
 refine awp_region_ 7 ?_
 refine rsl (.agg [(ai ((y15.2.1 : Nat) : Int)), (ai y15.2.2.1), (ai ((y15.2.2.2.1 : Nat) : Int)), (.own (oi 1 1) (.slice .int) 0 y42.1.length), (.own (oi 3 1) (.slice .int) 0 y42.2.1.length), (.own (oi 5 1) (.slice .int) 0 y42.2.2.1.length), (.own (oi 7 1) (.slice .int) 0 y42.2.2.2.1.length)]) (by kernel_rfl) ?_
 refine rs0 (ai 1) (by kernel_rfl) ?_
 refine rcall (ai y69) [] [(.agg [(ai ((y15.2.1 : Nat) : Int)), (ai y15.2.2.1), (ai ((y15.2.2.2.1 : Nat) : Int)), (.own (oi 1 1) (.slice .int) 0 y42.1.length), (.own (oi 3 1) (.slice .int) 0 y42.2.1.length), (.own (oi 5 1) (.slice .int) 0 y42.2.2.1.length), (.own (oi 7 1) (.slice .int) 0 y42.2.2.2.1.length)]), (ai 1)] _ (caps := []) (args0 := [(.agg [(ai ((y15.2.1 : Nat) : Int)), (ai y15.2.2.1), (ai ((y15.2.2.2.1 : Nat) : Int)), (.tree (.slice .int) y42.1), (.tree (.slice .int) y42.2.1), (.tree (.slice .int) y42.2.2.1), (.tree (.slice .int) y42.2.2.2.1)]), (ai 1)]) trivial (gm_cons (gd_agg (gm_cons (by kernel_rfl) (gm_cons (by kernel_rfl) (gm_cons (by kernel_rfl) (gm_cons (gd_mat (p := (oi 2 1)) (e1 := 23) (e := 3) (u := .int) (xss := y42.1) (by kernel_rfl) (pool_rows (by kernel_rfl)) rfl) (gm_cons (gd_mat (p := (oi 4 1)) (e1 := 23) (e := 3) (u := .int) (xss := y42.2.1) (by kernel_rfl) (pool_rows (by kernel_rfl)) rfl) (gm_cons (gd_mat (p := (oi 6 1)) (e1 := 23) (e := 3) (u := .int) (xss := y42.2.2.1) (by kernel_rfl) (pool_rows (by kernel_rfl)) rfl) (gm_cons (gd_mat (p := (oi 8 1)) (e1 := 23) (e := 3) (u := .int) (xss := y42.2.2.2.1) (by kernel_rfl) (pool_rows (by kernel_rfl)) rfl) gm_nil)))))))) (gm_cons (by kernel_rfl) gm_nil)) (ok_laws_heldStateSpace h69) hb_laws_heldStateSpace ?_
 refine rsB 1 ?_
 refine rnil (tn_ ?_)
 refine ⟨_, Weak.refl _, ?_⟩
 refine awp_seqv_ ?_
 refine seqR ?_
 rcases cond_some h with ⟨q72, h⟩ | ⟨q72, h⟩
 ·have q72_ := of_decide_eq_true q72
  refine awp_condT_ q72 ?_
  refine seqR ?_
  refine awp_ret_ (tr_ ?_)
  obtain rfl := Option.some.inj h
  exact ret_ [(.bool false)] (p_one rfl (l_sc (by kernel_rfl)) p_nil)
 have q72_ := of_decide_eq_false q72
 refine awp_condF_ q72 ?_
 refine awp_skip_ (tn_ ?_)
 refine ⟨_, Weak.refl _, ?_⟩
 refine awp_seqv_ ?_
 refine seqR ?_
 rcases cond_some h with ⟨q76, h⟩ | ⟨q76, h⟩
 ·refine awp_condT_ q76 ?_
  refine seqR ?_
  refine awp_ret_ (tr_ ?_)
  obtain rfl := Option.some.inj h
  exact ret_ [(.bool false)] (p_one rfl (l_sc (by kernel_rfl)) p_nil)
 refine awp_condF_ q76 ?_
 refine awp_skip_ (tn_ ?_)
 refine ⟨_, Weak.refl _, ?_⟩
 refine seqR ?_
 refine awp_ret_ ?_
 obtain rfl := Option.some.inj h
 exact ret_ [(.bool true)] (p_one rfl (l_sc (by kernel_rfl)) p_nil)
end Go.Proofs.YtbgfolfhknnlgaaDoor
