/- Lemmas on the program and on partial functions that stand in place of its code (part 5); no condition beyond those that each one states. -/
import Derived.Test.YtbgfolfhknnlgaaDoorZ4
namespace Go.Proofs.YtbgfolfhknnlgaaDoor
open Go.RowKit Go.Deep
set_option maxRecDepth 4000
def m_laws_szIntS : AC :=
 (.seq (rg [xo 4 (qm (ci 0))])
 (.seq (rg [xo 5 (qm (tm 1)), xo 6 (qm (tm 0)), xo 7 (.i (.len (tm 6))), xo 8 (qb .sub (tm 5) (tm 7)), xo 1 (qm (tm 8))])
 (.seq (.seq (rg [xo 9 (qm (tm 1)), xo 10 (qb .lss (tm 9) (ci 0))])
 (.cond (tm 10)
  (.seq (rg [xo 4 (qm (ci (-1)))])
  .ret)
  .skip))
 (.seq (rg [xo 11 (qm (tm 1)), xo 4 (qm (tm 11))])
 .ret))))
def r_laws_szIntS : List Res := [.tmp 4]
theorem c_laws_szIntS : compiled Tryd.prog Tryd.f14 = some (m_laws_szIntS, r_laws_szIntS) := by kernel_rfl
theorem hb_laws_szIntS : hasBody Tryd.prog 14 = true := by kernel_rfl
def L_laws_szIntS (a0 : List Int) (a1 : Int) : Option Int :=
 cond (decide (IntKind.i64.wrap (a1 - ((a0.length : Nat) : Int)) < 0))
 (some (-1))
 (some (IntKind.i64.wrap (a1 - ((a0.length : Nat) : Int))))
def rv_laws_szIntS (r : Int) : RV := ⟨false, [(false, [.sc (.int .i64 r)])]⟩
theorem ok_laws_szIntS {a0 : List Int} {a1 : Int} {r : Int} (h : L_laws_szIntS a0 a1 = some r) : CallOK Tryd.prog Tab 14 [(.tree .int a0), (ai a1)] (rv_laws_szIntS r) := by
 refine call_of_ (by kernel_rfl) Tryd.func14 c_laws_szIntS (n := 12) (by kernel_rfl) (by simp) (tl := [(0, (.tree .int a0)), (1, (ai a1))]) rfl ?_
 unfold m_laws_szIntS
 unfold L_laws_szIntS at h
 refine seqR ?_
 refine seqR ?_
 refine awp_seqv_ ?_
 refine seqR ?_
 rcases cond_some h with ⟨q5, h⟩ | ⟨q5, h⟩
 ·have q5_ := of_decide_eq_true q5
  refine awp_condT_ q5 ?_
  refine seqR ?_
  refine awp_ret_ (tr_ ?_)
  obtain rfl := Option.some.inj h
  exact ret_ [(ai (-1))] (p_one rfl (l_sc (by kernel_rfl)) p_nil)
 have q5_ := of_decide_eq_false q5
 refine awp_condF_ q5 ?_
 refine awp_skip_ (tn_ ?_)
 refine ⟨_, Weak.refl _, ?_⟩
 refine seqR ?_
 refine awp_ret_ ?_
 obtain rfl := Option.some.inj h
 exact ret_ [(ai (IntKind.i64.wrap (a1 - ((a0.length : Nat) : Int))))] (p_one rfl (l_sc (by kernel_rfl)) p_nil)
def m_laws_toIntS_l1 : AC :=
 (.seq (.seq (rg [xo 8 (qm (tm 4)), xo 9 (qm (tm 0)), xo 10 (.i (.len (tm 9))), xo 11 (qb .lss (tm 8) (tm 10))])
 (.cond (tm 11)
  .skip
  (.exit 0)))
 (.seq (.block 1 (rg [xo 14 (qm (tm 3)), xo 15 (qm (tm 4)), xo 16 (qm (tm 0)), xo 17 (qm (tm 4)), xo 18 (qx 1 (tm 16) (tm 17)), xo 19 (ql (tm 18)), xo 20 (qx 1 (tm 14) (tm 15)), xn (qs (tm 20) (tm 19))]))
 (rg [xo 12 (qm (tm 4)), xo 13 (qb .add (tm 12) (ci 1)), xo 4 (qm (tm 13))])))
def m_laws_toIntS : AC :=
 (.seq (rg [xo 2 (qm (.cst .nils))])
 (.seq (rg [xo 5 (qm (tm 0)), xo 6 (.i (.len (tm 5))), xo 7 (.make 3 .int 8 (tm 6) (tm 6)), xo 3 (qm (tm 7))])
 (.seq (.seq (rg [xo 4 (qm (ci 0))])
 (.block 0 (.loop m_laws_toIntS_l1)))
 (.seq (rg [xo 21 (qm (tm 3)), xo 2 (qm (tm 21))])
 .ret))))
def r_laws_toIntS : List Res := [.tmp 2]
theorem c_laws_toIntS : compiled Tryd.prog Tryd.f19 = some (m_laws_toIntS, r_laws_toIntS) := by kernel_rfl
theorem hb_laws_toIntS : hasBody Tryd.prog 19 = true := by kernel_rfl
def L_laws_toIntS_l1 (a0 : List Int) (l6_m4 : Nat) (l6_m3 : List Int) : Option (Ctl (Nat × List Int) (List Int)) :=
 cond (decide (((l6_m4 : Nat) : Int) < ((a0.length : Nat) : Int)))
 (Option.bind (a0[l6_m4]?) fun x11 =>
 Option.bind (l6_m3[l6_m4]?) fun x12 =>
 og (l6_m4 + 1 < 4611686018427387904) <|
 some (Ctl.next (l6_m4 + 1, l6_m3.set l6_m4 x11)))
 (some (Ctl.out l6_m3))
def L_laws_toIntS (a0 : List Int) : Option (List Int) :=
 og (0 ≤ ((a0.length : Nat) : Int) ∧ ((a0.length : Nat) : Int) ≤ ((a0.length : Nat) : Int) ∧ ((a0.length : Nat) : Int) ≤ 1073741824 ∧ (8 : Int) * ((a0.length : Nat) : Int) ≤ 140737488355328) <|
Option.bind (loopM (fun s_ : Nat × List Int => L_laws_toIntS_l1 a0 s_.1 s_.2) 4611686018427387904 (0, List.replicate a0.length (0 : Int))) fun l4_m3 =>
some l4_m3
def rv_laws_toIntS (r : List Int) : RV := ⟨false, [(false, [.new 3 .int r])]⟩
theorem ok_laws_toIntS {a0 : List Int} {r : List Int} (h : L_laws_toIntS a0 = some r) : CallOK Tryd.prog Tab 19 [(.tree .int a0)] (rv_laws_toIntS r) := by
 refine call_of_ (by kernel_rfl) Tryd.func19 c_laws_toIntS (n := 22) (by kernel_rfl) (by simp) (tl := [(0, (.tree .int a0))]) rfl ?_
 unfold m_laws_toIntS
 unfold L_laws_toIntS at h
 refine seqR ?_
 refine awp_seqv_ ?_
 obtain ⟨g3, h⟩ := og_some h
 refine awp_region_ 6 ?_
 refine rs0 (.tree .int a0) (by kernel_rfl) ?_
 refine rs0 (ai ((a0.length : Nat) : Int)) (by kernel_rfl) ?_
 refine rs1 (.own (oi 7 4) .int 0 a0.length) (oi 7 4) (.arr 3 .int (List.replicate a0.length (0 : Int))) (s_make (t := .int) (k := .i64) (k' := .i64) (m := ((a0.length : Nat) : Int)) (m' := ((a0.length : Nat) : Int)) (by kernel_rfl) (by kernel_rfl) g3 rfl) ?_
 refine rsB 1 ?_
 refine rnil (tn_ ?_)
 refine ⟨_, Weak.refl _, ?_⟩
 refine awp_seqB h (fun (l4_m3 : List Int) S_ => S_ = ⟨mkTm [(3, (.own (oi 0 1) .int 0 l4_m3.length))], mkOb (someL [((oi 0 1), .arr 3 .int l4_m3)]), 2⟩) ?_ ?_
 ·intro v_ h
  refine seqR ?_
  refine awp_block_ ?_
  refine awp_loopL h (fun t_ S_ => ∃ (l6_m4 : Nat), ∃ (l6_m3 : List Int), t_ = (l6_m4, l6_m3) ∧ S_ = ⟨mkTm [(0, (.tree .int a0)), (3, (.own (oi 0 1) .int 0 l6_m3.length)), (4, (ai ((l6_m4 : Nat) : Int)))], mkOb (someL [((oi 0 1), .arr 3 .int l6_m3)]), 2⟩) ⟨_, ((weak_tm_ 3 (.own (oi 7 4) .int 0 a0.length) (.own (oi 7 4) .int 0 ((List.replicate a0.length (0 : Int)).length)) (by kernel_rfl) (congrArg (fun z_ => ((.own (oi 7 4) .int 0 z_) : AV)) (List.length_replicate.symm : a0.length = (List.replicate a0.length (0 : Int)).length))).trans (weak_ren [((oi 0 1), (oi 7 4))])), ⟨0, List.replicate a0.length (0 : Int), rfl, rfl⟩⟩ ?_
  rintro n_ _ _ c_ ⟨l6_m4, l6_m3, rfl, rfl⟩ h hn6
  (try dsimp only at h)
  unfold L_laws_toIntS_l1 at h
  unfold m_laws_toIntS_l1
  refine awp_seqv_ ?_
  refine seqR ?_
  rcases cond_some h with ⟨q9, h⟩ | ⟨q9, h⟩
  ·have q9_ := of_decide_eq_true q9
   refine awp_condT_ q9 ?_
   refine awp_skip_ (tn_ ?_)
   refine ⟨_, Weak.refl _, ?_⟩
   refine awp_seqv_ ?_
   refine awp_block_ ?_
   obtain ⟨x11, e11, h⟩ := ob_some h
   obtain ⟨x12, e12, h⟩ := ob_some h
   refine awp_region_ 14 ?_
   refine rs0 (.own (oi 0 1) .int 0 l6_m3.length) (by kernel_rfl) ?_
   refine rs0 (ai ((l6_m4 : Nat) : Int)) (by kernel_rfl) ?_
   refine rs0 (.tree .int a0) (by kernel_rfl) ?_
   refine rs0 (ai ((l6_m4 : Nat) : Int)) (by kernel_rfl) ?_
   refine rs0 (.telt .int x11 0) (s_idxT (t := .int) (xs := a0) (k := .i64) (m := ((l6_m4 : Nat) : Int)) (by kernel_rfl) (by kernel_rfl) rfl (nat_nn _) rfl e11) ?_
   refine rs0 (ai x11) (by kernel_rfl) ?_
   refine rs0 (.elt (oi 0 1) l6_m4 0) (s_idxO (t := .int) (o := (oi 0 1)) (len := l6_m3.length) (k := .i64) (m := ((l6_m4 : Nat) : Int)) (by kernel_rfl) (by kernel_rfl) rfl (nat_nn _) rfl (getN_lt e12)) ?_
   refine rsn2 (oi 0 1) (oi 0 1) (.arr 3 .int (l6_m3.set l6_m4 x11)) (s_stE (i := (oi 0 1)) (j := l6_m4) (k := 0) (e := 3) (t := .int) (xs := l6_m3) (cs := [(ai x11)]) (x1 := x11) (by kernel_rfl) (by kernel_rfl) e12 (by kernel_rfl) (by kernel_rfl)) ?_
   refine rnil (bn_ (tn_ ?_))
   refine ⟨_, Weak.refl _, ?_⟩
   obtain ⟨g13, h⟩ := og_some h
   refine awp_region_ 17 ?_
   refine rs0 (ai ((l6_m4 : Nat) : Int)) (by kernel_rfl) ?_
   refine rs0 (ai ((l6_m4 + 1 : Nat) : Int)) (s_add1 (j := l6_m4) (by kernel_rfl) (by kernel_rfl) g13) ?_
   refine rsB 1 ?_
   refine rnil (tn_ ?_)
   obtain rfl := Option.some.inj h
   exact ⟨(l6_m4 + 1, l6_m3.set l6_m4 x11), _, ((weak_tm_ 3 (.own (oi 0 1) .int 0 l6_m3.length) (.own (oi 0 1) .int 0 ((l6_m3.set l6_m4 x11).length)) (by kernel_rfl) (congrArg (fun z_ => ((.own (oi 0 1) .int 0 z_) : AV)) (((rfl : l6_m3.length = l6_m3.length).trans List.length_set.symm) : l6_m3.length = (l6_m3.set l6_m4 x11).length))).trans (weak_ren [])), ⟨l6_m4 + 1, l6_m3.set l6_m4 x11, rfl, rfl⟩, hn6⟩
  have q9_ := of_decide_eq_false q9
  refine awp_condF_ q9 ?_
  refine awp_exit_ (te_ (te_ (be_ (tn_ ?_))))
  obtain rfl := Option.some.inj h
  have h := hn6
  (try dsimp only at h)
  obtain rfl := Option.some.inj h
  exact ⟨_, (weak_ren []), rfl⟩
 rintro l4_m3 _ rfl h
 (try dsimp only at h)
 refine seqR ?_
 refine awp_ret_ ?_
 obtain rfl := Option.some.inj h
 exact ret_ [(.own (oi 0 1) .int 0 l4_m3.length)] (p_one rfl (l_own (by kernel_rfl) rfl) p_nil)
def m_laws_eqIntS_l1 : AC :=
 (.seq (.seq (rg [xo 11 (qm (tm 5)), xo 12 (qm (tm 0)), xo 13 (.i (.len (tm 12))), xo 14 (qb .lss (tm 11) (tm 13))])
 (.cond (tm 14)
  .skip
  (.exit 0)))
 (.seq (.block 1 (.seq (.region [xo 17 (qm (tm 0)), xo 18 (qm (tm 5)), xo 19 (qx 1 (tm 17) (tm 18)), xo 20 (ql (tm 19)), xo 21 (qm (tm 1)), xo 22 (qm (tm 5)), xo 23 (qx 1 (tm 21) (tm 22)), xo 24 (ql (tm 23)), xo 25 (qb .neq (tm 20) (tm 24))] true [])
 (.cond (tm 25)
  (.seq (rg [xo 4 (qm (cb false))])
  .ret)
  .skip)))
 (rg [xo 15 (qm (tm 5)), xo 16 (qb .add (tm 15) (ci 1)), xo 5 (qm (tm 16))])))
def m_laws_eqIntS : AC :=
 (.seq (rg [xo 4 (qm (cb false))])
 (.seq (.seq (rg [xo 6 (qm (tm 0)), xo 7 (.i (.len (tm 6))), xo 8 (qm (tm 1)), xo 9 (.i (.len (tm 8))), xo 10 (qb .neq (tm 7) (tm 9))])
 (.cond (tm 10)
  (.seq (rg [xo 4 (qm (cb false))])
  .ret)
  .skip))
 (.seq (.seq (rg [xo 5 (qm (ci 0))])
 (.block 0 (.loop m_laws_eqIntS_l1)))
 (.seq (rg [xo 4 (qm (cb true))])
 .ret))))
def r_laws_eqIntS : List Res := [.tmp 4]
theorem c_laws_eqIntS : compiled Tryd.prog Tryd.f24 = some (m_laws_eqIntS, r_laws_eqIntS) := by kernel_rfl
theorem hb_laws_eqIntS : hasBody Tryd.prog 24 = true := by kernel_rfl
def L_laws_eqIntS_l1 (a0 : List Int) (a1 : List Int) (l8_m5 : Nat) : Option (Ctl Nat (Ctl Unit Bool)) :=
 cond (decide (((l8_m5 : Nat) : Int) < ((a0.length : Nat) : Int)))
 (Option.bind (a0[l8_m5]?) fun x14 =>
 Option.bind (a1[l8_m5]?) fun x15 =>
 cond (x14 != x15)
  (some (Ctl.out (Ctl.out false)))
  (og (l8_m5 + 1 < 4611686018427387904) <|
  some (Ctl.next (l8_m5 + 1))))
 (some (Ctl.out (Ctl.next ())))
def L_laws_eqIntS (a0 : List Int) (a1 : List Int) : Option Bool :=
 cond (((a0.length : Nat) : Int) != ((a1.length : Nat) : Int))
 (some false)
 (seqC (loopM (fun s_ : Nat => L_laws_eqIntS_l1 a0 a1 s_) 4611686018427387904 0) fun _ =>
 some true)
def rv_laws_eqIntS (r : Bool) : RV := ⟨false, [(false, [.sc (.bool r)])]⟩
theorem ok_laws_eqIntS {a0 : List Int} {a1 : List Int} {r : Bool} (h : L_laws_eqIntS a0 a1 = some r) : CallOK Tryd.prog Tab 24 [(.tree .int a0), (.tree .int a1)] (rv_laws_eqIntS r) := by
 refine call_of_ (by kernel_rfl) Tryd.func24 c_laws_eqIntS (n := 26) (by kernel_rfl) (by simp) (tl := [(0, (.tree .int a0)), (1, (.tree .int a1))]) rfl ?_
 unfold m_laws_eqIntS
 unfold L_laws_eqIntS at h
 refine seqR ?_
 refine awp_seqv_ ?_
 refine seqR ?_
 rcases cond_some h with ⟨q4, h⟩ | ⟨q4, h⟩
 ·refine awp_condT_ q4 ?_
  refine seqR ?_
  refine awp_ret_ (tr_ ?_)
  obtain rfl := Option.some.inj h
  exact ret_ [(.bool false)] (p_one rfl (l_sc (by kernel_rfl)) p_nil)
 refine awp_condF_ q4 ?_
 refine awp_skip_ (tn_ ?_)
 refine ⟨_, Weak.refl _, ?_⟩
 refine awp_seqC h (fun (_ : Unit) S_ => S_ = ⟨mkTm [], mkOb (someL []), 2⟩) ?_ ?_
 ·intro v_ h hk6
  refine seqR ?_
  refine awp_block_ ?_
  refine awp_loopL h (fun (l8_m5 : Nat) S_ => S_ = ⟨mkTm [(0, (.tree .int a0)), (1, (.tree .int a1)), (5, (ai ((l8_m5 : Nat) : Int)))], mkOb (someL []), 2⟩) ⟨_, (weak_ren []), rfl⟩ ?_
  rintro n_ l8_m5 _ c_ rfl h hn8
  (try dsimp only at h)
  unfold L_laws_eqIntS_l1 at h
  unfold m_laws_eqIntS_l1
  refine awp_seqv_ ?_
  refine seqR ?_
  rcases cond_some h with ⟨q11, h⟩ | ⟨q11, h⟩
  ·have q11_ := of_decide_eq_true q11
   refine awp_condT_ q11 ?_
   refine awp_skip_ (tn_ ?_)
   refine ⟨_, Weak.refl _, ?_⟩
   refine awp_seqv_ ?_
   refine awp_block_ ?_
   refine awp_seqv_ ?_
   obtain ⟨x14, e14, h⟩ := ob_some h
   obtain ⟨x15, e15, h⟩ := ob_some h
   refine awp_regionD_ 15 ?_
   refine ds0 (.tree .int a0) (by kernel_rfl) ?_
   refine ds0 (ai ((l8_m5 : Nat) : Int)) (by kernel_rfl) ?_
   refine ds0 (.telt .int x14 0) (s_idxT (t := .int) (xs := a0) (k := .i64) (m := ((l8_m5 : Nat) : Int)) (by kernel_rfl) (by kernel_rfl) rfl (nat_nn _) rfl e14) ?_
   refine ds0 (ai x14) (by kernel_rfl) ?_
   refine ds0 (.tree .int a1) (by kernel_rfl) ?_
   refine ds0 (ai ((l8_m5 : Nat) : Int)) (by kernel_rfl) ?_
   refine ds0 (.telt .int x15 0) (s_idxT (t := .int) (xs := a1) (k := .i64) (m := ((l8_m5 : Nat) : Int)) (by kernel_rfl) (by kernel_rfl) rfl (nat_nn _) rfl e15) ?_
   refine ds0 (ai x15) (by kernel_rfl) ?_
   refine ds0 (.bool (x14 != x15)) (by kernel_rfl) ?_
   refine dnil (badB_spec (by kernel_rfl)) (tn_ ?_)
   refine ⟨_, Weak.refl _, ?_⟩
   rcases cond_some h with ⟨q16, h⟩ | ⟨q16, h⟩
   ·refine awp_condT_ q16 ?_
    refine seqR ?_
    refine awp_ret_ (br_ (tr_ (tr_ (br_ (tr_ ?_)))))
    obtain rfl := Option.some.inj h
    have h := hn8
    (try dsimp only at h)
    obtain rfl := Option.some.inj h
    have h := hk6
    (try dsimp only at h)
    obtain rfl := Option.some.inj h
    exact ret_ [(.bool false)] (p_one rfl (l_sc (by kernel_rfl)) p_nil)
   refine awp_condF_ q16 ?_
   refine awp_skip_ (bn_ (tn_ ?_))
   refine ⟨_, Weak.refl _, ?_⟩
   obtain ⟨g18, h⟩ := og_some h
   refine awp_region_ 18 ?_
   refine rs0 (ai ((l8_m5 : Nat) : Int)) (by kernel_rfl) ?_
   refine rs0 (ai ((l8_m5 + 1 : Nat) : Int)) (s_add1 (j := l8_m5) (by kernel_rfl) (by kernel_rfl) g18) ?_
   refine rsB 1 ?_
   refine rnil (tn_ ?_)
   obtain rfl := Option.some.inj h
   exact ⟨l8_m5 + 1, _, (weak_ren []), rfl, hn8⟩
  have q11_ := of_decide_eq_false q11
  refine awp_condF_ q11 ?_
  refine awp_exit_ (te_ (te_ (be_ (tn_ ?_))))
  obtain rfl := Option.some.inj h
  have h := hn8
  (try dsimp only at h)
  obtain rfl := Option.some.inj h
  exact ⟨(), _, rfl, (weak_ren []), rfl⟩
 rintro _ _ rfl h
 (try dsimp only at h)
 refine seqR ?_
 refine awp_ret_ ?_
 obtain rfl := Option.some.inj h
 exact ret_ [(.bool true)] (p_one rfl (l_sc (by kernel_rfl)) p_nil)
def m_laws_markIntS_l1 : AC :=
 (.seq (.seq (rg [xo 6 (qm (tm 5)), xo 7 (qm (tm 0)), xo 8 (.i (.len (tm 7))), xo 9 (qb .lss (tm 6) (tm 8))])
 (.cond (tm 9)
  .skip
  (.exit 0)))
 (.seq (.block 1 (.seq (rg [xo 12 (qm (tm 0)), xo 13 (qm (tm 5)), xo 14 (qm (tm 1)), xo 15 (qx 1 (tm 12) (tm 13)), xn (qs (tm 15) (tm 14))])
 (rg [xo 16 (qm (tm 1)), xo 17 (qb .add (tm 16) (ci 1)), xo 1 (qm (tm 17))])))
 (rg [xo 10 (qm (tm 5)), xo 11 (qb .add (tm 10) (ci 1)), xo 5 (qm (tm 11))])))
def m_laws_markIntS : AC :=
 (.seq (rg [xo 4 (qm (ci 0))])
 (.seq (.seq (rg [xo 5 (qm (ci 0))])
 (.block 0 (.loop m_laws_markIntS_l1)))
 (.seq (rg [xo 18 (qm (tm 1)), xo 4 (qm (tm 18))])
 .ret)))
def r_laws_markIntS : List Res := [.tmp 4]
theorem c_laws_markIntS : compiled Tryd.prog Tryd.f26 = some (m_laws_markIntS, r_laws_markIntS) := by kernel_rfl
theorem hb_laws_markIntS : hasBody Tryd.prog 26 = true := by kernel_rfl
def L_laws_markIntS_l1  (l5_m1 : Int) (l5_m5 : Nat) (l5_m0 : List Int) : Option (Ctl (Int × Nat × List Int) (Int × List Int)) :=
 cond (decide (((l5_m5 : Nat) : Int) < ((l5_m0.length : Nat) : Int)))
 (Option.bind (l5_m0[l5_m5]?) fun x11 =>
 og (l5_m5 + 1 < 4611686018427387904) <|
 some (Ctl.next (IntKind.i64.wrap (l5_m1 + 1), l5_m5 + 1, l5_m0.set l5_m5 l5_m1)))
 (some (Ctl.out (l5_m1, l5_m0)))
def L_laws_markIntS (a0 : List Int) (a1 : Int) : Option (List Int × Int) :=
 Option.bind (loopM (fun s_ : Int × Nat × List Int => L_laws_markIntS_l1 s_.1 s_.2.1 s_.2.2) 4611686018427387904 (a1, 0, a0)) fun (l3_m1, l3_p0) =>
some (l3_p0, l3_m1)
theorem ok_laws_markIntS {a0 : List Int} {a1 : Int} {r : List Int × Int} (h : L_laws_markIntS a0 a1 = some r) {n_a0 : Nat} (hn_a0 : n_a0 = a0.length) : CallM Tryd.prog Tab 26 [(.own (oi 0 0) .int 0 n_a0), (ai a1)] [((oi 0 0), .arr 3 .int a0)] (ai r.2) [((oi 0 0), .arr 3 .int r.1)] := by
 refine callM_of_ (by kernel_rfl) Tryd.func26 c_laws_markIntS (n := 19) (by kernel_rfl) (by simp) (tl := [(0, (.own (oi 0 0) .int 0 n_a0)), (1, (ai a1))]) rfl (by kernel_rfl) ⟨trivial, trivial⟩ ⟨trivial, trivial⟩ ?_
 unfold m_laws_markIntS
 unfold L_laws_markIntS at h
 refine seqR ?_
 refine awp_seqB h (fun t_ S_ => ∃ (l3_m1 : Int), ∃ (l3_p0 : List Int), t_ = (l3_m1, l3_p0) ∧ S_ = ⟨mkTm [(1, (ai l3_m1))], mkOb (someL [((oi 0 0), .arr 3 .int l3_p0)]), 2⟩) ?_ ?_
 ·intro v_ h
  refine seqR ?_
  refine awp_block_ ?_
  refine awp_loopL h (fun t_ S_ => ∃ (l5_m1 : Int), ∃ (l5_m5 : Nat), ∃ (l5_m0 : List Int), t_ = (l5_m1, l5_m5, l5_m0) ∧ S_ = ⟨mkTm [(0, (.own (oi 0 0) .int 0 l5_m0.length)), (1, (ai l5_m1)), (5, (ai ((l5_m5 : Nat) : Int)))], mkOb (someL [((oi 0 0), .arr 3 .int l5_m0)]), 2⟩) ⟨_, ((weak_tm_ 0 (.own (oi 0 0) .int 0 n_a0) (.own (oi 0 0) .int 0 a0.length) (by kernel_rfl) (congrArg (fun z_ => ((.own (oi 0 0) .int 0 z_) : AV)) (hn_a0 : n_a0 = a0.length))).trans (weak_ren [])), ⟨a1, 0, a0, rfl, rfl⟩⟩ ?_
  rintro n_ _ _ c_ ⟨l5_m1, l5_m5, l5_m0, rfl, rfl⟩ h hn5
  (try dsimp only at h)
  unfold L_laws_markIntS_l1 at h
  unfold m_laws_markIntS_l1
  refine awp_seqv_ ?_
  refine seqR ?_
  rcases cond_some h with ⟨q8, h⟩ | ⟨q8, h⟩
  ·have q8_ := of_decide_eq_true q8
   refine awp_condT_ q8 ?_
   refine awp_skip_ (tn_ ?_)
   refine ⟨_, Weak.refl _, ?_⟩
   refine awp_seqv_ ?_
   refine awp_block_ ?_
   refine awp_seqv_ ?_
   obtain ⟨x11, e11, h⟩ := ob_some h
   refine awp_region_ 11 ?_
   refine rs0 (.own (oi 0 0) .int 0 l5_m0.length) (by kernel_rfl) ?_
   refine rs0 (ai ((l5_m5 : Nat) : Int)) (by kernel_rfl) ?_
   refine rs0 (ai l5_m1) (by kernel_rfl) ?_
   refine rs0 (.elt (oi 0 0) l5_m5 0) (s_idxO (t := .int) (o := (oi 0 0)) (len := l5_m0.length) (k := .i64) (m := ((l5_m5 : Nat) : Int)) (by kernel_rfl) (by kernel_rfl) rfl (nat_nn _) rfl (getN_lt e11)) ?_
   refine rsn2 (oi 0 0) (oi 0 0) (.arr 3 .int (l5_m0.set l5_m5 l5_m1)) (s_stE (i := (oi 0 0)) (j := l5_m5) (k := 0) (e := 3) (t := .int) (xs := l5_m0) (cs := [(ai l5_m1)]) (x1 := l5_m1) (by kernel_rfl) (by kernel_rfl) e11 (by kernel_rfl) (by kernel_rfl)) ?_
   refine rnil (tn_ ?_)
   refine ⟨_, Weak.refl _, ?_⟩
   refine awp_region_ 14 ?_
   refine rsB 3 ?_
   refine rnil (bn_ (tn_ ?_))
   refine ⟨_, Weak.refl _, ?_⟩
   obtain ⟨g12, h⟩ := og_some h
   refine awp_region_ 17 ?_
   refine rs0 (ai ((l5_m5 : Nat) : Int)) (by kernel_rfl) ?_
   refine rs0 (ai ((l5_m5 + 1 : Nat) : Int)) (s_add1 (j := l5_m5) (by kernel_rfl) (by kernel_rfl) g12) ?_
   refine rsB 1 ?_
   refine rnil (tn_ ?_)
   obtain rfl := Option.some.inj h
   exact ⟨(IntKind.i64.wrap (l5_m1 + 1), l5_m5 + 1, l5_m0.set l5_m5 l5_m1), _, ((weak_tm_ 0 (.own (oi 0 0) .int 0 l5_m0.length) (.own (oi 0 0) .int 0 ((l5_m0.set l5_m5 l5_m1).length)) (by kernel_rfl) (congrArg (fun z_ => ((.own (oi 0 0) .int 0 z_) : AV)) (((rfl : l5_m0.length = l5_m0.length).trans List.length_set.symm) : l5_m0.length = (l5_m0.set l5_m5 l5_m1).length))).trans (weak_ren [])), ⟨IntKind.i64.wrap (l5_m1 + 1), l5_m5 + 1, l5_m0.set l5_m5 l5_m1, rfl, rfl⟩, hn5⟩
  have q8_ := of_decide_eq_false q8
  refine awp_condF_ q8 ?_
  refine awp_exit_ (te_ (te_ (be_ (tn_ ?_))))
  obtain rfl := Option.some.inj h
  have h := hn5
  (try dsimp only at h)
  obtain rfl := Option.some.inj h
  exact ⟨_, (weak_ren []), ⟨l5_m1, l5_m0, rfl, rfl⟩⟩
 rintro _ _ ⟨l3_m1, l3_p0, rfl, rfl⟩ h
 (try dsimp only at h)
 refine seqR ?_
 refine awp_ret_ ?_
 obtain rfl := Option.some.inj h
 exact retM_ [(ai l3_m1)] (weak_ren (tl := [(4, (ai l3_m1))]) (g := 2) [])
def m_laws_heldIntS_l1 : AC :=
 (.seq (.seq (rg [xo 6 (qm (tm 5)), xo 7 (qm (tm 0)), xo 8 (.i (.len (tm 7))), xo 9 (qb .lss (tm 6) (tm 8))])
 (.cond (tm 9)
  .skip
  (.exit 0)))
 (.seq (.block 1 (.seq (.seq (rg [xo 12 (qm (tm 0)), xo 13 (qm (tm 5)), xo 14 (qx 1 (tm 12) (tm 13)), xo 15 (ql (tm 14)), xo 16 (qm (tm 1)), xo 17 (qb .neq (tm 15) (tm 16))])
 (.cond (tm 17)
  (.seq (rg [xo 4 (qm (ci (-1)))])
  .ret)
  .skip))
 (rg [xo 18 (qm (tm 1)), xo 19 (qb .add (tm 18) (ci 1)), xo 1 (qm (tm 19))])))
 (rg [xo 10 (qm (tm 5)), xo 11 (qb .add (tm 10) (ci 1)), xo 5 (qm (tm 11))])))
def m_laws_heldIntS : AC :=
 (.seq (rg [xo 4 (qm (ci 0))])
 (.seq (.seq (rg [xo 5 (qm (ci 0))])
 (.block 0 (.loop m_laws_heldIntS_l1)))
 (.seq (rg [xo 20 (qm (tm 1)), xo 4 (qm (tm 20))])
 .ret)))
def r_laws_heldIntS : List Res := [.tmp 4]
theorem c_laws_heldIntS : compiled Tryd.prog Tryd.f49 = some (m_laws_heldIntS, r_laws_heldIntS) := by kernel_rfl
theorem hb_laws_heldIntS : hasBody Tryd.prog 49 = true := by kernel_rfl
def L_laws_heldIntS_l1 (a0 : List Int) (l4_m1 : Int) (l4_m5 : Nat) : Option (Ctl (Int × Nat) (Ctl Int Int)) :=
 cond (decide (((l4_m5 : Nat) : Int) < ((a0.length : Nat) : Int)))
 (Option.bind (a0[l4_m5]?) fun x11 =>
 cond (x11 != l4_m1)
  (some (Ctl.out (Ctl.out (-1))))
  (og (l4_m5 + 1 < 4611686018427387904) <|
  some (Ctl.next (IntKind.i64.wrap (l4_m1 + 1), l4_m5 + 1))))
 (some (Ctl.out (Ctl.next l4_m1)))
def L_laws_heldIntS (a0 : List Int) (a1 : Int) : Option Int :=
 seqC (loopM (fun s_ : Int × Nat => L_laws_heldIntS_l1 a0 s_.1 s_.2) 4611686018427387904 (a1, 0)) fun l2_m1 =>
some l2_m1
def rv_laws_heldIntS (r : Int) : RV := ⟨false, [(false, [.sc (.int .i64 r)])]⟩
theorem ok_laws_heldIntS {a0 : List Int} {a1 : Int} {r : Int} (h : L_laws_heldIntS a0 a1 = some r) : CallOK Tryd.prog Tab 49 [(.tree .int a0), (ai a1)] (rv_laws_heldIntS r) := by
 refine call_of_ (by kernel_rfl) Tryd.func49 c_laws_heldIntS (n := 21) (by kernel_rfl) (by simp) (tl := [(0, (.tree .int a0)), (1, (ai a1))]) rfl ?_
 unfold m_laws_heldIntS
 unfold L_laws_heldIntS at h
 refine seqR ?_
 refine awp_seqC h (fun (l2_m1 : Int) S_ => S_ = ⟨mkTm [(1, (ai l2_m1))], mkOb (someL []), 2⟩) ?_ ?_
 ·intro v_ h hk2
  refine seqR ?_
  refine awp_block_ ?_
  refine awp_loopL h (fun t_ S_ => ∃ (l4_m1 : Int), ∃ (l4_m5 : Nat), t_ = (l4_m1, l4_m5) ∧ S_ = ⟨mkTm [(0, (.tree .int a0)), (1, (ai l4_m1)), (5, (ai ((l4_m5 : Nat) : Int)))], mkOb (someL []), 2⟩) ⟨_, (weak_ren []), ⟨a1, 0, rfl, rfl⟩⟩ ?_
  rintro n_ _ _ c_ ⟨l4_m1, l4_m5, rfl, rfl⟩ h hn4
  (try dsimp only at h)
  unfold L_laws_heldIntS_l1 at h
  unfold m_laws_heldIntS_l1
  refine awp_seqv_ ?_
  refine seqR ?_
  rcases cond_some h with ⟨q7, h⟩ | ⟨q7, h⟩
  ·have q7_ := of_decide_eq_true q7
   refine awp_condT_ q7 ?_
   refine awp_skip_ (tn_ ?_)
   refine ⟨_, Weak.refl _, ?_⟩
   refine awp_seqv_ ?_
   refine awp_block_ ?_
   refine awp_seqv_ ?_
   refine awp_seqv_ ?_
   obtain ⟨x11, e11, h⟩ := ob_some h
   refine awp_region_ 12 ?_
   refine rs0 (.tree .int a0) (by kernel_rfl) ?_
   refine rs0 (ai ((l4_m5 : Nat) : Int)) (by kernel_rfl) ?_
   refine rs0 (.telt .int x11 0) (s_idxT (t := .int) (xs := a0) (k := .i64) (m := ((l4_m5 : Nat) : Int)) (by kernel_rfl) (by kernel_rfl) rfl (nat_nn _) rfl e11) ?_
   refine rsB 3 ?_
   refine rnil (tn_ ?_)
   refine ⟨_, Weak.refl _, ?_⟩
   rcases cond_some h with ⟨q12, h⟩ | ⟨q12, h⟩
   ·refine awp_condT_ q12 ?_
    refine seqR ?_
    refine awp_ret_ (tr_ (br_ (tr_ (tr_ (br_ (tr_ ?_))))))
    obtain rfl := Option.some.inj h
    have h := hn4
    (try dsimp only at h)
    obtain rfl := Option.some.inj h
    have h := hk2
    (try dsimp only at h)
    obtain rfl := Option.some.inj h
    exact ret_ [(ai (-1))] (p_one rfl (l_sc (by kernel_rfl)) p_nil)
   refine awp_condF_ q12 ?_
   refine awp_skip_ (tn_ ?_)
   refine ⟨_, Weak.refl _, ?_⟩
   refine awp_region_ 15 ?_
   refine rsB 3 ?_
   refine rnil (bn_ (tn_ ?_))
   refine ⟨_, Weak.refl _, ?_⟩
   obtain ⟨g14, h⟩ := og_some h
   refine awp_region_ 18 ?_
   refine rs0 (ai ((l4_m5 : Nat) : Int)) (by kernel_rfl) ?_
   refine rs0 (ai ((l4_m5 + 1 : Nat) : Int)) (s_add1 (j := l4_m5) (by kernel_rfl) (by kernel_rfl) g14) ?_
   refine rsB 1 ?_
   refine rnil (tn_ ?_)
   obtain rfl := Option.some.inj h
   exact ⟨(IntKind.i64.wrap (l4_m1 + 1), l4_m5 + 1), _, (weak_ren []), ⟨IntKind.i64.wrap (l4_m1 + 1), l4_m5 + 1, rfl, rfl⟩, hn4⟩
  have q7_ := of_decide_eq_false q7
  refine awp_condF_ q7 ?_
  refine awp_exit_ (te_ (te_ (be_ (tn_ ?_))))
  obtain rfl := Option.some.inj h
  have h := hn4
  (try dsimp only at h)
  obtain rfl := Option.some.inj h
  exact ⟨l4_m1, _, rfl, (weak_ren []), rfl⟩
 rintro l2_m1 _ rfl h
 (try dsimp only at h)
 refine seqR ?_
 refine awp_ret_ ?_
 obtain rfl := Option.some.inj h
 exact ret_ [(ai l2_m1)] (p_one rfl (l_sc (by kernel_rfl)) p_nil)
def m_spec_l1In : AC :=
 (.seq (rg [xo 6 (qm (cb false))])
 (.seq (rg [xo 7 (qm (tm 0)), xo 8 (qm (tm 1)), xo 9 (qb .geq (tm 7) (tm 8)), xo 10 (qm (tm 9)), ⟨(some 11), (some (10, true)), (qm (tm 0))⟩, ⟨(some 12), (some (10, true)), (qm (tm 2))⟩, ⟨(some 13), (some (10, true)), (qb .leq (tm 11) (tm 12))⟩, xo 14 (.i (.pick (tm 10) (tm 13) (cb false))), xo 6 (qm (tm 14))])
 .ret))
def r_spec_l1In : List Res := [.tmp 6]
theorem c_spec_l1In : compiled Tryd.prog Tryd.f30 = some (m_spec_l1In, r_spec_l1In) := by kernel_rfl
theorem hb_spec_l1In : hasBody Tryd.prog 30 = true := by kernel_rfl
def L_spec_l1In (a0 : Int) (a1 : Int) (a2 : Int) : Option Bool :=
 Option.bind (cond (decide (a1 ≤ a0))
  (some (decide (a0 ≤ a2)))
  (some false)) fun l2_m6 =>
some l2_m6
def rv_spec_l1In (r : Bool) : RV := ⟨false, [(false, [.sc (.bool r)])]⟩
theorem ok_spec_l1In {a0 : Int} {a1 : Int} {a2 : Int} {r : Bool} (h : L_spec_l1In a0 a1 a2 = some r) : CallOK Tryd.prog Tab 30 [(ai a0), (ai a1), (ai a2)] (rv_spec_l1In r) := by
 refine call_of_ (by kernel_rfl) Tryd.func30 c_spec_l1In (n := 15) (by kernel_rfl) (by simp) (tl := [(0, (ai a0)), (1, (ai a1)), (2, (ai a2))]) rfl ?_
 unfold m_spec_l1In
 unfold L_spec_l1In at h
 refine seqR ?_
 refine awp_seqB h (fun (l2_m6 : Bool) S_ => S_ = ⟨mkTm [(6, (.bool l2_m6))], mkOb (someL []), 2⟩) ?_ ?_
 ·intro v_ h
  rcases cond_some h with ⟨q3, h⟩ | ⟨q3, h⟩
  ·have q3_ := of_decide_eq_true q3
   refine awp_region_ 11 ?_
   refine rs0 (ai a0) (by kernel_rfl) ?_
   refine rs0 (ai a1) (by kernel_rfl) ?_
   refine rs0 (.bool (decide (a1 ≤ a0))) (by kernel_rfl) ?_
   refine rs0 (.bool (decide (a1 ≤ a0))) (by kernel_rfl) ?_
   refine rs0 (ai a0) (s_gd (by kernel_rfl) q3 (by kernel_rfl)) ?_
   refine rs0 (ai a2) (s_gd (by kernel_rfl) q3 (by kernel_rfl)) ?_
   refine rs0 (.bool (decide (a0 ≤ a2))) (s_gd (by kernel_rfl) q3 (by kernel_rfl)) ?_
   refine rs0 (.bool (decide (a0 ≤ a2))) (s_pickT (by kernel_rfl) q3) ?_
   refine rsB 1 ?_
   refine rnil (tn_ ?_)
   obtain rfl := Option.some.inj h
   exact ⟨_, (weak_ren []), rfl⟩
  have q3_ := of_decide_eq_false q3
  refine awp_region_ 11 ?_
  refine rs0 (ai a0) (by kernel_rfl) ?_
  refine rs0 (ai a1) (by kernel_rfl) ?_
  refine rs0 (.bool (decide (a1 ≤ a0))) (by kernel_rfl) ?_
  refine rs0 (.bool (decide (a1 ≤ a0))) (by kernel_rfl) ?_
  refine rs0 (.tup []) (s_skip (by kernel_rfl) q3) ?_
  refine rs0 (.tup []) (s_skip (by kernel_rfl) q3) ?_
  refine rs0 (.tup []) (s_skip (by kernel_rfl) q3) ?_
  refine rs0 (.bool false) (s_pickF (by kernel_rfl) q3) ?_
  refine rsB 1 ?_
  refine rnil (tn_ ?_)
  obtain rfl := Option.some.inj h
  exact ⟨_, (weak_ren []), rfl⟩
 rintro l2_m6 _ rfl h
 (try dsimp only at h)
 refine awp_ret_ ?_
 obtain rfl := Option.some.inj h
 exact ret_ [(.bool l2_m6)] (p_one rfl (l_sc (by kernel_rfl)) p_nil)
def m_spec_fdGood_l1 : AC :=
 (.seq (.seq (rg [xo 7 (qm (tm 3)), xo 8 (qm (tm 3)), xo 9 (qb .mul (tm 7) (tm 8)), xo 10 (qm (tm 0)), xo 11 (qb .leq (tm 9) (tm 10))])
 (.cond (tm 11)
  .skip
  (.exit 0)))
 (.seq (.block 1 (.seq (rg [xo 14 (qm (tm 0)), xo 15 (qm (tm 3)), xo 16 (qb .rem (tm 14) (tm 15)), xo 17 (qb .eql (tm 16) (ci 0))])
 (.cond (tm 17)
  (.seq (rg [xo 2 (qm (cb false))])
  .ret)
  .skip)))
 (rg [xo 12 (qm (tm 3)), xo 13 (qb .add (tm 12) (ci 1)), xo 3 (qm (tm 13))])))
def m_spec_fdGood : AC :=
 (.seq (rg [xo 2 (qm (cb false))])
 (.seq (.seq (rg [xo 4 (qm (tm 0)), xo 5 (qc 30 [(tm 4), (ci 2), (ci 97)] [[], [], []]), xo 6 (.i (.not (tm 5)))])
 (.cond (tm 6)
  (.seq (rg [xo 2 (qm (cb false))])
  .ret)
  .skip))
 (.seq (.seq (rg [xo 3 (qm (ci 2))])
 (.block 0 (.loop m_spec_fdGood_l1)))
 (.seq (rg [xo 2 (qm (cb true))])
 .ret))))
def r_spec_fdGood : List Res := [.tmp 2]
theorem c_spec_fdGood : compiled Tryd.prog Tryd.f29 = some (m_spec_fdGood, r_spec_fdGood) := by kernel_rfl
theorem hb_spec_fdGood : hasBody Tryd.prog 29 = true := by kernel_rfl
def L_spec_fdGood_l1 (a0 : Int) (l9_m3 : Nat) : Option (Ctl Nat (Ctl Unit Bool)) :=
 cond (decide (IntKind.i64.wrap (((l9_m3 : Nat) : Int) * ((l9_m3 : Nat) : Int)) ≤ a0))
 (og (((l9_m3 : Nat) : Int) ≠ 0) <|
 cond ((Int.tmod a0 ((l9_m3 : Nat) : Int)) == 0)
  (some (Ctl.out (Ctl.out false)))
  (og (l9_m3 + 1 < 4611686018427387904) <|
  some (Ctl.next (l9_m3 + 1))))
 (some (Ctl.out (Ctl.next ())))
def L_spec_fdGood (a0 : Int) : Option Bool :=
 Option.bind (L_spec_l1In a0 2 97) fun y4 =>
cond (!y4)
 (some false)
 (seqC (loopM (fun s_ : Nat => L_spec_fdGood_l1 a0 s_) 4611686018427387904 2) fun _ =>
 some true)
def rv_spec_fdGood (r : Bool) : RV := ⟨false, [(false, [.sc (.bool r)])]⟩
theorem ok_spec_fdGood {a0 : Int} {r : Bool} (h : L_spec_fdGood a0 = some r) : CallOK Tryd.prog Tab 29 [(ai a0)] (rv_spec_fdGood r) := by
 refine call_of_ (by kernel_rfl) Tryd.func29 c_spec_fdGood (n := 18) (by kernel_rfl) (by simp) (tl := [(0, (ai a0))]) rfl ?_
 unfold m_spec_fdGood
 unfold L_spec_fdGood at h
 refine seqR ?_
 refine awp_seqv_ ?_
 refine awp_seqv_ ?_
 obtain ⟨y4, h4, h⟩ := ob_some h
 refine awp_region_ 5 ?_
 refine rs0 (ai a0) (by kernel_rfl) ?_
 refine rcall (.bool y4) [] [(ai a0), (ai 2), (ai 97)] _ (caps := []) (args0 := [(ai a0), (ai 2), (ai 97)]) trivial (by kernel_rfl) (ok_spec_l1In h4) hb_spec_l1In ?_
 refine rsB 1 ?_
 refine rnil (tn_ ?_)
 refine ⟨_, Weak.refl _, ?_⟩
 rcases cond_some h with ⟨q5, h⟩ | ⟨q5, h⟩
 ·refine awp_condT_ q5 ?_
  refine seqR ?_
  refine awp_ret_ (tr_ ?_)
  obtain rfl := Option.some.inj h
  exact ret_ [(.bool false)] (p_one rfl (l_sc (by kernel_rfl)) p_nil)
 refine awp_condF_ q5 ?_
 refine awp_skip_ (tn_ ?_)
 refine ⟨_, Weak.refl _, ?_⟩
 refine awp_seqC h (fun (_ : Unit) S_ => S_ = ⟨mkTm [], mkOb (someL []), 2⟩) ?_ ?_
 ·intro v_ h hk7
  refine seqR ?_
  refine awp_block_ ?_
  refine awp_loopL h (fun (l9_m3 : Nat) S_ => S_ = ⟨mkTm [(0, (ai a0)), (3, (ai ((l9_m3 : Nat) : Int)))], mkOb (someL []), 2⟩) ⟨_, (weak_ren []), rfl⟩ ?_
  rintro n_ l9_m3 _ c_ rfl h hn9
  (try dsimp only at h)
  unfold L_spec_fdGood_l1 at h
  unfold m_spec_fdGood_l1
  refine awp_seqv_ ?_
  refine seqR ?_
  rcases cond_some h with ⟨q12, h⟩ | ⟨q12, h⟩
  ·have q12_ := of_decide_eq_true q12
   refine awp_condT_ q12 ?_
   refine awp_skip_ (tn_ ?_)
   refine ⟨_, Weak.refl _, ?_⟩
   refine awp_seqv_ ?_
   refine awp_block_ ?_
   refine awp_seqv_ ?_
   obtain ⟨g15, h⟩ := og_some h
   refine awp_region_ 11 ?_
   refine rs0 (ai a0) (by kernel_rfl) ?_
   refine rs0 (ai ((l9_m3 : Nat) : Int)) (by kernel_rfl) ?_
   refine rs0 (ai (Int.tmod a0 ((l9_m3 : Nat) : Int))) (s_rem (k := .i64) (a := a0) (b := ((l9_m3 : Nat) : Int)) (by kernel_rfl) (by kernel_rfl) g15) ?_
   refine rsB 1 ?_
   refine rnil (tn_ ?_)
   refine ⟨_, Weak.refl _, ?_⟩
   rcases cond_some h with ⟨q16, h⟩ | ⟨q16, h⟩
   ·refine awp_condT_ q16 ?_
    refine seqR ?_
    refine awp_ret_ (br_ (tr_ (tr_ (br_ (tr_ ?_)))))
    obtain rfl := Option.some.inj h
    have h := hn9
    (try dsimp only at h)
    obtain rfl := Option.some.inj h
    have h := hk7
    (try dsimp only at h)
    obtain rfl := Option.some.inj h
    exact ret_ [(.bool false)] (p_one rfl (l_sc (by kernel_rfl)) p_nil)
   refine awp_condF_ q16 ?_
   refine awp_skip_ (bn_ (tn_ ?_))
   refine ⟨_, Weak.refl _, ?_⟩
   obtain ⟨g18, h⟩ := og_some h
   refine awp_region_ 14 ?_
   refine rs0 (ai ((l9_m3 : Nat) : Int)) (by kernel_rfl) ?_
   refine rs0 (ai ((l9_m3 + 1 : Nat) : Int)) (s_add1 (j := l9_m3) (by kernel_rfl) (by kernel_rfl) g18) ?_
   refine rsB 1 ?_
   refine rnil (tn_ ?_)
   obtain rfl := Option.some.inj h
   exact ⟨l9_m3 + 1, _, (weak_ren []), rfl, hn9⟩
  have q12_ := of_decide_eq_false q12
  refine awp_condF_ q12 ?_
  refine awp_exit_ (te_ (te_ (be_ (tn_ ?_))))
  obtain rfl := Option.some.inj h
  have h := hn9
  (try dsimp only at h)
  obtain rfl := Option.some.inj h
  exact ⟨(), _, rfl, (weak_ren []), rfl⟩
 rintro _ _ rfl h
 (try dsimp only at h)
 refine seqR ?_
 refine awp_ret_ ?_
 obtain rfl := Option.some.inj h
 exact ret_ [(.bool true)] (p_one rfl (l_sc (by kernel_rfl)) p_nil)
def m_spec_l1All_l1 : AC :=
 (.seq (rg [xo 12 (qb .lss (tm 11) (tm 10))])
 (.seq (.cond (tm 12)
  .skip
  (.exit 0))
 (.seq (.block 1 (.seq (rg [xo 13 (qx 1 (tm 9) (tm 11)), xo 14 (ql (tm 13)), xo 8 (qm (tm 14))])
 (.seq (rg [xo 15 (qm (tm 8)), xo 16 (qm (tm 1)), xo 17 (qm (tm 2)), xo 18 (qc 30 [(tm 15), (tm 16), (tm 17)] [[], [], []]), xo 19 (.i (.not (tm 18)))])
 (.cond (tm 19)
  (.seq (rg [xo 6 (qm (cb false))])
  .ret)
  .skip))))
 (rg [xo 20 (qb .add (tm 11) (ci 1)), xo 11 (qm (tm 20))]))))
def m_spec_l1All : AC :=
 (.seq (rg [xo 6 (qm (cb false))])
 (.seq (.seq (rg [xo 9 (qm (tm 0)), xo 10 (.i (.len (tm 9))), xo 11 (qm (ci 0))])
 (.block 0 (.loop m_spec_l1All_l1)))
 (.seq (rg [xo 6 (qm (cb true))])
 .ret)))
def r_spec_l1All : List Res := [.tmp 6]
theorem c_spec_l1All : compiled Tryd.prog Tryd.f31 = some (m_spec_l1All, r_spec_l1All) := by kernel_rfl
theorem hb_spec_l1All : hasBody Tryd.prog 31 = true := by kernel_rfl
def L_spec_l1All_l1 (a0 : List Int) (a1 : Int) (a2 : Int) (l4_m11 : Nat) : Option (Ctl Nat (Ctl Unit Bool)) :=
 cond (decide (((l4_m11 : Nat) : Int) < ((a0.length : Nat) : Int)))
 (Option.bind (a0[l4_m11]?) fun x10 =>
 Option.bind (L_spec_l1In x10 a1 a2) fun y12 =>
 cond (!y12)
  (some (Ctl.out (Ctl.out false)))
  (og (l4_m11 + 1 < 4611686018427387904) <|
  some (Ctl.next (l4_m11 + 1))))
 (some (Ctl.out (Ctl.next ())))
def L_spec_l1All (a0 : List Int) (a1 : Int) (a2 : Int) : Option Bool :=
 seqC (loopM (fun s_ : Nat => L_spec_l1All_l1 a0 a1 a2 s_) 4611686018427387904 0) fun _ =>
some true
def rv_spec_l1All (r : Bool) : RV := ⟨false, [(false, [.sc (.bool r)])]⟩
theorem ok_spec_l1All {a0 : List Int} {a1 : Int} {a2 : Int} {r : Bool} (h : L_spec_l1All a0 a1 a2 = some r) : CallOK Tryd.prog Tab 31 [(.tree .int a0), (ai a1), (ai a2)] (rv_spec_l1All r) := by
 refine call_of_ (by kernel_rfl) Tryd.func31 c_spec_l1All (n := 21) (by kernel_rfl) (by simp) (tl := [(0, (.tree .int a0)), (1, (ai a1)), (2, (ai a2))]) rfl ?_
 unfold m_spec_l1All
 unfold L_spec_l1All at h
 refine seqR ?_
 refine awp_seqC h (fun (_ : Unit) S_ => S_ = ⟨mkTm [], mkOb (someL []), 2⟩) ?_ ?_
 ·intro v_ h hk2
  refine seqR ?_
  refine awp_block_ ?_
  refine awp_loopL h (fun (l4_m11 : Nat) S_ => S_ = ⟨mkTm [(1, (ai a1)), (2, (ai a2)), (9, (.tree .int a0)), (10, (ai ((a0.length : Nat) : Int))), (11, (ai ((l4_m11 : Nat) : Int)))], mkOb (someL []), 2⟩) ⟨_, (weak_ren []), rfl⟩ ?_
  rintro n_ l4_m11 _ c_ rfl h hn4
  (try dsimp only at h)
  unfold L_spec_l1All_l1 at h
  unfold m_spec_l1All_l1
  refine seqR ?_
  refine awp_seqv_ ?_
  rcases cond_some h with ⟨q7, h⟩ | ⟨q7, h⟩
  ·have q7_ := of_decide_eq_true q7
   refine awp_condT_ q7 ?_
   refine awp_skip_ (tn_ ?_)
   refine ⟨_, Weak.refl _, ?_⟩
   refine awp_seqv_ ?_
   refine awp_block_ ?_
   refine awp_seqv_ ?_
   obtain ⟨x10, e10, h⟩ := ob_some h
   refine awp_region_ 6 ?_
   refine rs0 (.telt .int x10 0) (s_idxT (t := .int) (xs := a0) (k := .i64) (m := ((l4_m11 : Nat) : Int)) (by kernel_rfl) (by kernel_rfl) rfl (nat_nn _) rfl e10) ?_
   refine rsB 2 ?_
   refine rnil (tn_ ?_)
   refine ⟨_, Weak.refl _, ?_⟩
   refine awp_seqv_ ?_
   obtain ⟨y12, h12, h⟩ := ob_some h
   refine awp_region_ 11 ?_
   refine rs0 (ai x10) (by kernel_rfl) ?_
   refine rs0 (ai a1) (by kernel_rfl) ?_
   refine rs0 (ai a2) (by kernel_rfl) ?_
   refine rcall (.bool y12) [] [(ai x10), (ai a1), (ai a2)] _ (caps := []) (args0 := [(ai x10), (ai a1), (ai a2)]) trivial (by kernel_rfl) (ok_spec_l1In h12) hb_spec_l1In ?_
   refine rsB 1 ?_
   refine rnil (tn_ ?_)
   refine ⟨_, Weak.refl _, ?_⟩
   rcases cond_some h with ⟨q13, h⟩ | ⟨q13, h⟩
   ·refine awp_condT_ q13 ?_
    refine seqR ?_
    refine awp_ret_ (br_ (tr_ (tr_ (br_ (tr_ ?_)))))
    obtain rfl := Option.some.inj h
    have h := hn4
    (try dsimp only at h)
    obtain rfl := Option.some.inj h
    have h := hk2
    (try dsimp only at h)
    obtain rfl := Option.some.inj h
    exact ret_ [(.bool false)] (p_one rfl (l_sc (by kernel_rfl)) p_nil)
   refine awp_condF_ q13 ?_
   refine awp_skip_ (bn_ (tn_ ?_))
   refine ⟨_, Weak.refl _, ?_⟩
   obtain ⟨g15, h⟩ := og_some h
   refine awp_region_ 13 ?_
   refine rs0 (ai ((l4_m11 + 1 : Nat) : Int)) (s_add1 (j := l4_m11) (by kernel_rfl) (by kernel_rfl) g15) ?_
   refine rsB 1 ?_
   refine rnil (tn_ ?_)
   obtain rfl := Option.some.inj h
   exact ⟨l4_m11 + 1, _, (weak_ren []), rfl, hn4⟩
  have q7_ := of_decide_eq_false q7
  refine awp_condF_ q7 ?_
  refine awp_exit_ (te_ (te_ (be_ (tn_ ?_))))
  obtain rfl := Option.some.inj h
  have h := hn4
  (try dsimp only at h)
  obtain rfl := Option.some.inj h
  exact ⟨(), _, rfl, (weak_ren []), rfl⟩
 rintro _ _ rfl h
 (try dsimp only at h)
 refine seqR ?_
 refine awp_ret_ ?_
 obtain rfl := Option.some.inj h
 exact ret_ [(.bool true)] (p_one rfl (l_sc (by kernel_rfl)) p_nil)
def m_spec_l1Own : AC :=
 (.seq (rg [xo 2 (qm (.cst .nils))])
 (.seq (rg [xo 3 (.mkS 3 .int []), xo 4 (qm (tm 0)), xo 5 (.append 3 .int 8 (tm 3) (tm 4)), xo 2 (qm (tm 5))])
 .ret))
def r_spec_l1Own : List Res := [.tmp 2]
theorem c_spec_l1Own : compiled Tryd.prog Tryd.f37 = some (m_spec_l1Own, r_spec_l1Own) := by kernel_rfl
theorem hb_spec_l1Own : hasBody Tryd.prog 37 = true := by kernel_rfl
def L_spec_l1Own (a0 : List Int) : Option (List Int) :=
 og (0 + a0.length ≤ 1073741824 ∧ (0 + a0.length) * 8 ≤ 140737488355328) <|
some a0
def rv_spec_l1Own (r : List Int) : RV := ⟨false, [(false, [.new 3 .int r])]⟩
theorem ok_spec_l1Own {a0 : List Int} {r : List Int} (h : L_spec_l1Own a0 = some r) : CallOK Tryd.prog Tab 37 [(.tree .int a0)] (rv_spec_l1Own r) := by
 refine call_of_ (by kernel_rfl) Tryd.func37 c_spec_l1Own (n := 6) (by kernel_rfl) (by simp) (tl := [(0, (.tree .int a0))]) rfl ?_
 unfold m_spec_l1Own
 unfold L_spec_l1Own at h
 refine seqR ?_
 refine awp_seqv_ ?_
 obtain ⟨g3, h⟩ := og_some h
 refine awp_region_ 6 ?_
 refine rs1 (.own (oi 3 2) .int 0 0) (oi 3 2) (.arr 3 .int []) (by kernel_rfl) ?_
 refine rs0 (.tree .int a0) (by kernel_rfl) ?_
 refine rs2 (.own (oi 3 4) .int 0 a0.length) (oi 3 2) (oi 3 4) (.arr 3 .int a0) (s_appO (t := .int) (t' := .int) (xs := []) (ys := a0) (zs := a0) (j := (oi 3 2)) (len := 0) (c := (.tree .int a0)) (by kernel_rfl) (by kernel_rfl) rfl (by kernel_rfl) sr_tree rfl g3) ?_
 refine rsB 1 ?_
 refine rnil (tn_ ?_)
 refine ⟨_, Weak.refl _, ?_⟩
 refine awp_ret_ ?_
 obtain rfl := Option.some.inj h
 exact ret_ [(.own (oi 3 4) .int 0 a0.length)] (p_one rfl (l_own (by kernel_rfl) rfl) p_nil)
def m_spec_fdAdd : AC :=
 (.seq (rg [xo 6 (qm (ci 0))])
 (.seq (rg [xo 7 (qm (tm 1)), xo 8 (qm (tm 2)), xo 9 (qb .add (tm 7) (tm 8)), xo 10 (qm (tm 0)), xo 11 (qb .rem (tm 9) (tm 10)), xo 6 (qm (tm 11))])
 .ret))
def r_spec_fdAdd : List Res := [.tmp 6]
theorem c_spec_fdAdd : compiled Tryd.prog Tryd.f51 = some (m_spec_fdAdd, r_spec_fdAdd) := by kernel_rfl
theorem hb_spec_fdAdd : hasBody Tryd.prog 51 = true := by kernel_rfl
def L_spec_fdAdd (a0 : Int) (a1 : Int) (a2 : Int) : Option Int :=
 og (a0 ≠ 0) <|
some (Int.tmod (IntKind.i64.wrap (a1 + a2)) a0)
def rv_spec_fdAdd (r : Int) : RV := ⟨false, [(false, [.sc (.int .i64 r)])]⟩
theorem ok_spec_fdAdd {a0 : Int} {a1 : Int} {a2 : Int} {r : Int} (h : L_spec_fdAdd a0 a1 a2 = some r) : CallOK Tryd.prog Tab 51 [(ai a0), (ai a1), (ai a2)] (rv_spec_fdAdd r) := by
 refine call_of_ (by kernel_rfl) Tryd.func51 c_spec_fdAdd (n := 12) (by kernel_rfl) (by simp) (tl := [(0, (ai a0)), (1, (ai a1)), (2, (ai a2))]) rfl ?_
 unfold m_spec_fdAdd
 unfold L_spec_fdAdd at h
 refine seqR ?_
 refine awp_seqv_ ?_
 obtain ⟨g3, h⟩ := og_some h
 refine awp_region_ 8 ?_
 refine rs0 (ai a1) (by kernel_rfl) ?_
 refine rs0 (ai a2) (by kernel_rfl) ?_
 refine rs0 (ai (IntKind.i64.wrap (a1 + a2))) (by kernel_rfl) ?_
 refine rs0 (ai a0) (by kernel_rfl) ?_
 refine rs0 (ai (Int.tmod (IntKind.i64.wrap (a1 + a2)) a0)) (s_rem (k := .i64) (a := IntKind.i64.wrap (a1 + a2)) (b := a0) (by kernel_rfl) (by kernel_rfl) g3) ?_
 refine rsB 1 ?_
 refine rnil (tn_ ?_)
 refine ⟨_, Weak.refl _, ?_⟩
 refine awp_ret_ ?_
 obtain rfl := Option.some.inj h
 exact ret_ [(ai (Int.tmod (IntKind.i64.wrap (a1 + a2)) a0))] (p_one rfl (l_sc (by kernel_rfl)) p_nil)
def m_spec_fdMul : AC :=
 (.seq (rg [xo 6 (qm (ci 0))])
 (.seq (rg [xo 7 (qm (tm 1)), xo 8 (qm (tm 2)), xo 9 (qb .mul (tm 7) (tm 8)), xo 10 (qm (tm 0)), xo 11 (qb .rem (tm 9) (tm 10)), xo 6 (qm (tm 11))])
 .ret))
def r_spec_fdMul : List Res := [.tmp 6]
theorem c_spec_fdMul : compiled Tryd.prog Tryd.f52 = some (m_spec_fdMul, r_spec_fdMul) := by kernel_rfl
theorem hb_spec_fdMul : hasBody Tryd.prog 52 = true := by kernel_rfl
def L_spec_fdMul (a0 : Int) (a1 : Int) (a2 : Int) : Option Int :=
 og (a0 ≠ 0) <|
some (Int.tmod (IntKind.i64.wrap (a1 * a2)) a0)
def rv_spec_fdMul (r : Int) : RV := ⟨false, [(false, [.sc (.int .i64 r)])]⟩
theorem ok_spec_fdMul {a0 : Int} {a1 : Int} {a2 : Int} {r : Int} (h : L_spec_fdMul a0 a1 a2 = some r) : CallOK Tryd.prog Tab 52 [(ai a0), (ai a1), (ai a2)] (rv_spec_fdMul r) := by
 refine call_of_ (by kernel_rfl) Tryd.func52 c_spec_fdMul (n := 12) (by kernel_rfl) (by simp) (tl := [(0, (ai a0)), (1, (ai a1)), (2, (ai a2))]) rfl ?_
 unfold m_spec_fdMul
 unfold L_spec_fdMul at h
 refine seqR ?_
 refine awp_seqv_ ?_
 obtain ⟨g3, h⟩ := og_some h
 refine awp_region_ 8 ?_
 refine rs0 (ai a1) (by kernel_rfl) ?_
 refine rs0 (ai a2) (by kernel_rfl) ?_
 refine rs0 (ai (IntKind.i64.wrap (a1 * a2))) (by kernel_rfl) ?_
 refine rs0 (ai a0) (by kernel_rfl) ?_
 refine rs0 (ai (Int.tmod (IntKind.i64.wrap (a1 * a2)) a0)) (s_rem (k := .i64) (a := IntKind.i64.wrap (a1 * a2)) (b := a0) (by kernel_rfl) (by kernel_rfl) g3) ?_
 refine rsB 1 ?_
 refine rnil (tn_ ?_)
 refine ⟨_, Weak.refl _, ?_⟩
 refine awp_ret_ ?_
 obtain rfl := Option.some.inj h
 exact ret_ [(ai (Int.tmod (IntKind.i64.wrap (a1 * a2)) a0))] (p_one rfl (l_sc (by kernel_rfl)) p_nil)
def m_impl_within : AC :=
 (.seq (rg [xo 6 (qm (cb false))])
 (.seq (rg [xo 7 (qm (tm 0)), xo 8 (qm (tm 1)), xo 9 (qb .geq (tm 7) (tm 8)), xo 10 (qm (tm 9)), ⟨(some 11), (some (10, true)), (qm (tm 0))⟩, ⟨(some 12), (some (10, true)), (qm (tm 2))⟩, ⟨(some 13), (some (10, true)), (qb .leq (tm 11) (tm 12))⟩, xo 14 (.i (.pick (tm 10) (tm 13) (cb false))), xo 6 (qm (tm 14))])
 .ret))
def r_impl_within : List Res := [.tmp 6]
theorem c_impl_within : compiled Tryd.prog Tryd.f40 = some (m_impl_within, r_impl_within) := by kernel_rfl
theorem hb_impl_within : hasBody Tryd.prog 40 = true := by kernel_rfl
def L_impl_within (a0 : Int) (a1 : Int) (a2 : Int) : Option Bool :=
 Option.bind (cond (decide (a1 ≤ a0))
  (some (decide (a0 ≤ a2)))
  (some false)) fun l2_m6 =>
some l2_m6
def rv_impl_within (r : Bool) : RV := ⟨false, [(false, [.sc (.bool r)])]⟩
theorem ok_impl_within {a0 : Int} {a1 : Int} {a2 : Int} {r : Bool} (h : L_impl_within a0 a1 a2 = some r) : CallOK Tryd.prog Tab 40 [(ai a0), (ai a1), (ai a2)] (rv_impl_within r) := by
 refine call_of_ (by kernel_rfl) Tryd.func40 c_impl_within (n := 15) (by kernel_rfl) (by simp) (tl := [(0, (ai a0)), (1, (ai a1)), (2, (ai a2))]) rfl ?_
 unfold m_impl_within
 unfold L_impl_within at h
 refine seqR ?_
 refine awp_seqB h (fun (l2_m6 : Bool) S_ => S_ = ⟨mkTm [(6, (.bool l2_m6))], mkOb (someL []), 2⟩) ?_ ?_
 ·intro v_ h
  rcases cond_some h with ⟨q3, h⟩ | ⟨q3, h⟩
  ·have q3_ := of_decide_eq_true q3
   refine awp_region_ 11 ?_
   refine rs0 (ai a0) (by kernel_rfl) ?_
   refine rs0 (ai a1) (by kernel_rfl) ?_
   refine rs0 (.bool (decide (a1 ≤ a0))) (by kernel_rfl) ?_
   refine rs0 (.bool (decide (a1 ≤ a0))) (by kernel_rfl) ?_
   refine rs0 (ai a0) (s_gd (by kernel_rfl) q3 (by kernel_rfl)) ?_
   refine rs0 (ai a2) (s_gd (by kernel_rfl) q3 (by kernel_rfl)) ?_
   refine rs0 (.bool (decide (a0 ≤ a2))) (s_gd (by kernel_rfl) q3 (by kernel_rfl)) ?_
   refine rs0 (.bool (decide (a0 ≤ a2))) (s_pickT (by kernel_rfl) q3) ?_
   refine rsB 1 ?_
   refine rnil (tn_ ?_)
   obtain rfl := Option.some.inj h
   exact ⟨_, (weak_ren []), rfl⟩
  have q3_ := of_decide_eq_false q3
  refine awp_region_ 11 ?_
  refine rs0 (ai a0) (by kernel_rfl) ?_
  refine rs0 (ai a1) (by kernel_rfl) ?_
  refine rs0 (.bool (decide (a1 ≤ a0))) (by kernel_rfl) ?_
  refine rs0 (.bool (decide (a1 ≤ a0))) (by kernel_rfl) ?_
  refine rs0 (.tup []) (s_skip (by kernel_rfl) q3) ?_
  refine rs0 (.tup []) (s_skip (by kernel_rfl) q3) ?_
  refine rs0 (.tup []) (s_skip (by kernel_rfl) q3) ?_
  refine rs0 (.bool false) (s_pickF (by kernel_rfl) q3) ?_
  refine rsB 1 ?_
  refine rnil (tn_ ?_)
  obtain rfl := Option.some.inj h
  exact ⟨_, (weak_ren []), rfl⟩
 rintro l2_m6 _ rfl h
 (try dsimp only at h)
 refine awp_ret_ ?_
 obtain rfl := Option.some.inj h
 exact ret_ [(.bool l2_m6)] (p_one rfl (l_sc (by kernel_rfl)) p_nil)
def m_impl_areBelow_l1 : AC :=
 (.seq (rg [xo 10 (qb .lss (tm 9) (tm 8))])
 (.seq (.cond (tm 10)
  .skip
  (.exit 0))
 (.seq (.block 1 (.seq (rg [xo 11 (qx 1 (tm 7) (tm 9)), xo 12 (ql (tm 11)), xo 6 (qm (tm 12))])
 (.seq (rg [xo 13 (qm (tm 6)), xo 14 (qm (tm 1)), xo 15 (qb .sub (tm 14) (ci 1)), xo 16 (qc 40 [(tm 13), (ci 0), (tm 15)] [[], [], []]), xo 17 (.i (.not (tm 16)))])
 (.cond (tm 17)
  (.seq (rg [xo 4 (qm (cb false))])
  .ret)
  .skip))))
 (rg [xo 18 (qb .add (tm 9) (ci 1)), xo 9 (qm (tm 18))]))))
def m_impl_areBelow : AC :=
 (.seq (rg [xo 4 (qm (cb false))])
 (.seq (.seq (rg [xo 7 (qm (tm 0)), xo 8 (.i (.len (tm 7))), xo 9 (qm (ci 0))])
 (.block 0 (.loop m_impl_areBelow_l1)))
 (.seq (rg [xo 4 (qm (cb true))])
 .ret)))
def r_impl_areBelow : List Res := [.tmp 4]
theorem c_impl_areBelow : compiled Tryd.prog Tryd.f41 = some (m_impl_areBelow, r_impl_areBelow) := by kernel_rfl
theorem hb_impl_areBelow : hasBody Tryd.prog 41 = true := by kernel_rfl
def L_impl_areBelow_l1 (a0 : List Int) (a1 : Int) (l4_m9 : Nat) : Option (Ctl Nat (Ctl Unit Bool)) :=
 cond (decide (((l4_m9 : Nat) : Int) < ((a0.length : Nat) : Int)))
 (Option.bind (a0[l4_m9]?) fun x10 =>
 Option.bind (L_impl_within x10 0 (IntKind.i64.wrap (a1 - 1))) fun y12 =>
 cond (!y12)
  (some (Ctl.out (Ctl.out false)))
  (og (l4_m9 + 1 < 4611686018427387904) <|
  some (Ctl.next (l4_m9 + 1))))
 (some (Ctl.out (Ctl.next ())))
def L_impl_areBelow (a0 : List Int) (a1 : Int) : Option Bool :=
 seqC (loopM (fun s_ : Nat => L_impl_areBelow_l1 a0 a1 s_) 4611686018427387904 0) fun _ =>
some true
def rv_impl_areBelow (r : Bool) : RV := ⟨false, [(false, [.sc (.bool r)])]⟩
theorem ok_impl_areBelow {a0 : List Int} {a1 : Int} {r : Bool} (h : L_impl_areBelow a0 a1 = some r) : CallOK Tryd.prog Tab 41 [(.tree .int a0), (ai a1)] (rv_impl_areBelow r) := by
 refine call_of_ (by kernel_rfl) Tryd.func41 c_impl_areBelow (n := 19) (by kernel_rfl) (by simp) (tl := [(0, (.tree .int a0)), (1, (ai a1))]) rfl ?_
 unfold m_impl_areBelow
 unfold L_impl_areBelow at h
 refine seqR ?_
 refine awp_seqC h (fun (_ : Unit) S_ => S_ = ⟨mkTm [], mkOb (someL []), 2⟩) ?_ ?_
 ·intro v_ h hk2
  refine seqR ?_
  refine awp_block_ ?_
  refine awp_loopL h (fun (l4_m9 : Nat) S_ => S_ = ⟨mkTm [(1, (ai a1)), (7, (.tree .int a0)), (8, (ai ((a0.length : Nat) : Int))), (9, (ai ((l4_m9 : Nat) : Int)))], mkOb (someL []), 2⟩) ⟨_, (weak_ren []), rfl⟩ ?_
  rintro n_ l4_m9 _ c_ rfl h hn4
  (try dsimp only at h)
  unfold L_impl_areBelow_l1 at h
  unfold m_impl_areBelow_l1
  refine seqR ?_
  refine awp_seqv_ ?_
  rcases cond_some h with ⟨q7, h⟩ | ⟨q7, h⟩
  ·have q7_ := of_decide_eq_true q7
   refine awp_condT_ q7 ?_
   refine awp_skip_ (tn_ ?_)
   refine ⟨_, Weak.refl _, ?_⟩
   refine awp_seqv_ ?_
   refine awp_block_ ?_
   refine awp_seqv_ ?_
   obtain ⟨x10, e10, h⟩ := ob_some h
   refine awp_region_ 6 ?_
   refine rs0 (.telt .int x10 0) (s_idxT (t := .int) (xs := a0) (k := .i64) (m := ((l4_m9 : Nat) : Int)) (by kernel_rfl) (by kernel_rfl) rfl (nat_nn _) rfl e10) ?_
   refine rsB 2 ?_
   refine rnil (tn_ ?_)
   refine ⟨_, Weak.refl _, ?_⟩
   refine awp_seqv_ ?_
   obtain ⟨y12, h12, h⟩ := ob_some h
   refine awp_region_ 11 ?_
   refine rs0 (ai x10) (by kernel_rfl) ?_
   refine rs0 (ai a1) (by kernel_rfl) ?_
   refine rs0 (ai (IntKind.i64.wrap (a1 - 1))) (by kernel_rfl) ?_
   refine rcall (.bool y12) [] [(ai x10), (ai 0), (ai (IntKind.i64.wrap (a1 - 1)))] _ (caps := []) (args0 := [(ai x10), (ai 0), (ai (IntKind.i64.wrap (a1 - 1)))]) trivial (by kernel_rfl) (ok_impl_within h12) hb_impl_within ?_
   refine rsB 1 ?_
   refine rnil (tn_ ?_)
   refine ⟨_, Weak.refl _, ?_⟩
   rcases cond_some h with ⟨q13, h⟩ | ⟨q13, h⟩
   ·refine awp_condT_ q13 ?_
    refine seqR ?_
    refine awp_ret_ (br_ (tr_ (tr_ (br_ (tr_ ?_)))))
    obtain rfl := Option.some.inj h
    have h := hn4
    (try dsimp only at h)
    obtain rfl := Option.some.inj h
    have h := hk2
    (try dsimp only at h)
    obtain rfl := Option.some.inj h
    exact ret_ [(.bool false)] (p_one rfl (l_sc (by kernel_rfl)) p_nil)
   refine awp_condF_ q13 ?_
   refine awp_skip_ (bn_ (tn_ ?_))
   refine ⟨_, Weak.refl _, ?_⟩
   obtain ⟨g15, h⟩ := og_some h
   refine awp_region_ 13 ?_
   refine rs0 (ai ((l4_m9 + 1 : Nat) : Int)) (s_add1 (j := l4_m9) (by kernel_rfl) (by kernel_rfl) g15) ?_
   refine rsB 1 ?_
   refine rnil (tn_ ?_)
   obtain rfl := Option.some.inj h
   exact ⟨l4_m9 + 1, _, (weak_ren []), rfl, hn4⟩
  have q7_ := of_decide_eq_false q7
  refine awp_condF_ q7 ?_
  refine awp_exit_ (te_ (te_ (be_ (tn_ ?_))))
  obtain rfl := Option.some.inj h
  have h := hn4
  (try dsimp only at h)
  obtain rfl := Option.some.inj h
  exact ⟨(), _, rfl, (weak_ren []), rfl⟩
 rintro _ _ rfl h
 (try dsimp only at h)
 refine seqR ?_
 refine awp_ret_ ?_
 obtain rfl := Option.some.inj h
 exact ret_ [(.bool true)] (p_one rfl (l_sc (by kernel_rfl)) p_nil)
def m_impl_zeros : AC :=
 (.seq (rg [xo 2 (qm (.cst .nils))])
 (.seq (rg [xo 3 (qm (tm 0)), xo 4 (.make 3 .int 8 (tm 3) (tm 3)), xo 2 (qm (tm 4))])
 .ret))
def r_impl_zeros : List Res := [.tmp 2]
theorem c_impl_zeros : compiled Tryd.prog Tryd.f47 = some (m_impl_zeros, r_impl_zeros) := by kernel_rfl
theorem hb_impl_zeros : hasBody Tryd.prog 47 = true := by kernel_rfl
def L_impl_zeros (a0 : Int) : Option (List Int) :=
 og (0 ≤ a0 ∧ a0 ≤ a0 ∧ a0 ≤ 1073741824 ∧ (8 : Int) * a0 ≤ 140737488355328) <|
some (List.replicate a0.toNat (0 : Int))
def rv_impl_zeros (r : List Int) : RV := ⟨false, [(false, [.new 3 .int r])]⟩
theorem ok_impl_zeros {a0 : Int} {r : List Int} (h : L_impl_zeros a0 = some r) : CallOK Tryd.prog Tab 47 [(ai a0)] (rv_impl_zeros r) := by
 refine call_of_ (by kernel_rfl) Tryd.func47 c_impl_zeros (n := 5) (by kernel_rfl) (by simp) (tl := [(0, (ai a0))]) rfl ?_
 unfold m_impl_zeros
 unfold L_impl_zeros at h
 refine seqR ?_
 refine awp_seqv_ ?_
 obtain ⟨g3, h⟩ := og_some h
 refine awp_region_ 5 ?_
 refine rs0 (ai a0) (by kernel_rfl) ?_
 refine rs1 (.own (oi 4 3) .int 0 a0.toNat) (oi 4 3) (.arr 3 .int (List.replicate a0.toNat (0 : Int))) (s_make (t := .int) (k := .i64) (k' := .i64) (m := a0) (m' := a0) (by kernel_rfl) (by kernel_rfl) g3 rfl) ?_
 refine rsB 1 ?_
 refine rnil (tn_ ?_)
 refine ⟨_, Weak.refl _, ?_⟩
 refine awp_ret_ ?_
 obtain rfl := Option.some.inj h
 exact ret_ [(.own (oi 4 3) .int 0 a0.toNat)] (p_one rfl (l_own (by kernel_rfl) List.length_replicate.symm) p_nil)
def m_impl_mod : AC :=
 (.seq (rg [xo 4 (qm (ci 0))])
 (.seq (rg [xo 5 (qm (tm 1)), xo 6 (qm (tm 0)), xo 7 (qb .rem (tm 5) (tm 6)), xo 1 (qm (tm 7))])
 (.seq (.seq (rg [xo 8 (qm (tm 1)), xo 9 (qb .lss (tm 8) (ci 0))])
 (.cond (tm 9)
  (rg [xo 10 (qm (tm 1)), xo 11 (qm (tm 0)), xo 12 (qb .add (tm 10) (tm 11)), xo 1 (qm (tm 12))])
  .skip))
 (.seq (rg [xo 13 (qm (tm 1)), xo 4 (qm (tm 13))])
 .ret))))
def r_impl_mod : List Res := [.tmp 4]
theorem c_impl_mod : compiled Tryd.prog Tryd.f62 = some (m_impl_mod, r_impl_mod) := by kernel_rfl
theorem hb_impl_mod : hasBody Tryd.prog 62 = true := by kernel_rfl
def L_impl_mod (a0 : Int) (a1 : Int) : Option Int :=
 og (a0 ≠ 0) <|
Option.bind (cond (decide (Int.tmod a1 a0 < 0))
  (some (IntKind.i64.wrap (Int.tmod a1 a0 + a0)))
  (some (Int.tmod a1 a0))) fun l4_m1 =>
some l4_m1
def rv_impl_mod (r : Int) : RV := ⟨false, [(false, [.sc (.int .i64 r)])]⟩
theorem ok_impl_mod {a0 : Int} {a1 : Int} {r : Int} (h : L_impl_mod a0 a1 = some r) : CallOK Tryd.prog Tab 62 [(ai a0), (ai a1)] (rv_impl_mod r) := by
 refine call_of_ (by kernel_rfl) Tryd.func62 c_impl_mod (n := 14) (by kernel_rfl) (by simp) (tl := [(0, (ai a0)), (1, (ai a1))]) rfl ?_
 unfold m_impl_mod
 unfold L_impl_mod at h
 refine seqR ?_
 refine awp_seqv_ ?_
 obtain ⟨g3, h⟩ := og_some h
 refine awp_region_ 6 ?_
 refine rs0 (ai a1) (by kernel_rfl) ?_
 refine rs0 (ai a0) (by kernel_rfl) ?_
 refine rs0 (ai (Int.tmod a1 a0)) (s_rem (k := .i64) (a := a1) (b := a0) (by kernel_rfl) (by kernel_rfl) g3) ?_
 refine rsB 1 ?_
 refine rnil (tn_ ?_)
 refine ⟨_, Weak.refl _, ?_⟩
 refine awp_seqB h (fun (l4_m1 : Int) S_ => S_ = ⟨mkTm [(1, (ai l4_m1))], mkOb (someL []), 2⟩) ?_ ?_
 ·intro v_ h
  refine seqR ?_
  rcases cond_some h with ⟨q6, h⟩ | ⟨q6, h⟩
  ·have q6_ := of_decide_eq_true q6
   refine awp_condT_ q6 ?_
   refine awp_region_ 12 ?_
   refine rsB 4 ?_
   refine rnil (tn_ ?_)
   obtain rfl := Option.some.inj h
   exact ⟨_, (weak_ren []), rfl⟩
  have q6_ := of_decide_eq_false q6
  refine awp_condF_ q6 ?_
  refine awp_skip_ (tn_ ?_)
  obtain rfl := Option.some.inj h
  exact ⟨_, (weak_ren []), rfl⟩
 rintro l4_m1 _ rfl h
 (try dsimp only at h)
 refine seqR ?_
 refine awp_ret_ ?_
 obtain rfl := Option.some.inj h
 exact ret_ [(ai l4_m1)] (p_one rfl (l_sc (by kernel_rfl)) p_nil)
def m_impl_isElement : AC :=
 (.seq (rg [xo 4 (qm (cb false))])
 (.seq (rg [xo 5 (qm (tm 1)), xo 6 (qb .geq (tm 5) (ci 0)), xo 7 (qm (tm 6)), ⟨(some 8), (some (7, true)), (qm (tm 1))⟩, ⟨(some 9), (some (7, true)), (qm (tm 0))⟩, ⟨(some 10), (some (7, true)), (qb .lss (tm 8) (tm 9))⟩, xo 11 (.i (.pick (tm 7) (tm 10) (cb false))), xo 4 (qm (tm 11))])
 .ret))
def r_impl_isElement : List Res := [.tmp 4]
theorem c_impl_isElement : compiled Tryd.prog Tryd.f55 = some (m_impl_isElement, r_impl_isElement) := by kernel_rfl
theorem hb_impl_isElement : hasBody Tryd.prog 55 = true := by kernel_rfl
def L_impl_isElement (a0 : Int) (a1 : Int) : Option Bool :=
 Option.bind (cond (decide (0 ≤ a1))
  (some (decide (a1 < a0)))
  (some false)) fun l2_m4 =>
some l2_m4
def rv_impl_isElement (r : Bool) : RV := ⟨false, [(false, [.sc (.bool r)])]⟩
theorem ok_impl_isElement {a0 : Int} {a1 : Int} {r : Bool} (h : L_impl_isElement a0 a1 = some r) : CallOK Tryd.prog Tab 55 [(ai a0), (ai a1)] (rv_impl_isElement r) := by
 refine call_of_ (by kernel_rfl) Tryd.func55 c_impl_isElement (n := 12) (by kernel_rfl) (by simp) (tl := [(0, (ai a0)), (1, (ai a1))]) rfl ?_
 unfold m_impl_isElement
 unfold L_impl_isElement at h
 refine seqR ?_
 refine awp_seqB h (fun (l2_m4 : Bool) S_ => S_ = ⟨mkTm [(4, (.bool l2_m4))], mkOb (someL []), 2⟩) ?_ ?_
 ·intro v_ h
  rcases cond_some h with ⟨q3, h⟩ | ⟨q3, h⟩
  ·have q3_ := of_decide_eq_true q3
   refine awp_region_ 10 ?_
   refine rs0 (ai a1) (by kernel_rfl) ?_
   refine rs0 (.bool (decide (0 ≤ a1))) (by kernel_rfl) ?_
   refine rs0 (.bool (decide (0 ≤ a1))) (by kernel_rfl) ?_
   refine rs0 (ai a1) (s_gd (by kernel_rfl) q3 (by kernel_rfl)) ?_
   refine rs0 (ai a0) (s_gd (by kernel_rfl) q3 (by kernel_rfl)) ?_
   refine rs0 (.bool (decide (a1 < a0))) (s_gd (by kernel_rfl) q3 (by kernel_rfl)) ?_
   refine rs0 (.bool (decide (a1 < a0))) (s_pickT (by kernel_rfl) q3) ?_
   refine rsB 1 ?_
   refine rnil (tn_ ?_)
   obtain rfl := Option.some.inj h
   exact ⟨_, (weak_ren []), rfl⟩
  have q3_ := of_decide_eq_false q3
  refine awp_region_ 10 ?_
  refine rs0 (ai a1) (by kernel_rfl) ?_
  refine rs0 (.bool (decide (0 ≤ a1))) (by kernel_rfl) ?_
  refine rs0 (.bool (decide (0 ≤ a1))) (by kernel_rfl) ?_
  refine rs0 (.tup []) (s_skip (by kernel_rfl) q3) ?_
  refine rs0 (.tup []) (s_skip (by kernel_rfl) q3) ?_
  refine rs0 (.tup []) (s_skip (by kernel_rfl) q3) ?_
  refine rs0 (.bool false) (s_pickF (by kernel_rfl) q3) ?_
  refine rsB 1 ?_
  refine rnil (tn_ ?_)
  obtain rfl := Option.some.inj h
  exact ⟨_, (weak_ren []), rfl⟩
 rintro l2_m4 _ rfl h
 (try dsimp only at h)
 refine awp_ret_ ?_
 obtain rfl := Option.some.inj h
 exact ret_ [(.bool l2_m4)] (p_one rfl (l_sc (by kernel_rfl)) p_nil)
def m_impl_upTo_l1 : AC :=
 (.seq (rg [xo 10 (qb .lss (tm 9) (tm 8))])
 (.seq (.cond (tm 10)
  .skip
  (.exit 0))
 (.seq (.block 1 (.seq (rg [xo 11 (qm (tm 9)), xo 4 (qm (tm 11))])
 (rg [xo 12 (qm (tm 3)), xo 13 (qm (tm 4)), xo 14 (qm (tm 4)), xo 15 (qx 1 (tm 12) (tm 13)), xn (qs (tm 15) (tm 14))])))
 (rg [xo 16 (qb .add (tm 9) (ci 1)), xo 9 (qm (tm 16))]))))
def m_impl_upTo : AC :=
 (.seq (rg [xo 2 (qm (.cst .nils))])
 (.seq (rg [xo 5 (qm (tm 0)), xo 6 (qc 47 [(tm 5)] [[]]), xo 3 (qm (tm 6))])
 (.seq (.seq (rg [xo 7 (qm (tm 3)), xo 8 (.i (.len (tm 7))), xo 9 (qm (ci 0))])
 (.block 0 (.loop m_impl_upTo_l1)))
 (.seq (rg [xo 17 (qm (tm 3)), xo 2 (qm (tm 17))])
 .ret))))
def r_impl_upTo : List Res := [.tmp 2]
theorem c_impl_upTo : compiled Tryd.prog Tryd.f58 = some (m_impl_upTo, r_impl_upTo) := by kernel_rfl
theorem hb_impl_upTo : hasBody Tryd.prog 58 = true := by kernel_rfl
def L_impl_upTo_l1 (y3 : List Int) (l6_m9 : Nat) (l6_m3 : List Int) : Option (Ctl (Nat × List Int) (List Int)) :=
 cond (decide (((l6_m9 : Nat) : Int) < ((y3.length : Nat) : Int)))
 (Option.bind (l6_m3[l6_m9]?) fun x12 =>
 og (l6_m9 + 1 < 4611686018427387904) <|
 some (Ctl.next (l6_m9 + 1, l6_m3.set l6_m9 ((l6_m9 : Nat) : Int))))
 (some (Ctl.out l6_m3))
def L_impl_upTo (a0 : Int) : Option (List Int) :=
 Option.bind (L_impl_zeros a0) fun y3 =>
Option.bind (loopM (fun s_ : Nat × List Int => L_impl_upTo_l1 y3 s_.1 s_.2) 4611686018427387904 (0, y3)) fun l4_m3 =>
some l4_m3
def rv_impl_upTo (r : List Int) : RV := ⟨false, [(false, [.new 3 .int r])]⟩
theorem ok_impl_upTo {a0 : Int} {r : List Int} (h : L_impl_upTo a0 = some r) : CallOK Tryd.prog Tab 58 [(ai a0)] (rv_impl_upTo r) := by
 refine call_of_ (by kernel_rfl) Tryd.func58 c_impl_upTo (n := 18) (by kernel_rfl) (by simp) (tl := [(0, (ai a0))]) rfl ?_
 unfold m_impl_upTo
 unfold L_impl_upTo at h
 refine seqR ?_
 refine awp_seqv_ ?_
 obtain ⟨y3, h3, h⟩ := ob_some h
 refine awp_region_ 5 ?_
 refine rs0 (ai a0) (by kernel_rfl) ?_
 refine rcall (.own (oi 96 3) .int 0 y3.length) [((oi 96 3), some (.arr 3 .int y3))] [(ai a0)] _ (caps := []) (args0 := [(ai a0)]) trivial (by kernel_rfl) (ok_impl_zeros h3) hb_impl_zeros ?_
 refine rsB 1 ?_
 refine rnil (tn_ ?_)
 refine ⟨_, Weak.refl _, ?_⟩
 refine awp_seqB h (fun (l4_m3 : List Int) S_ => S_ = ⟨mkTm [(3, (.own (oi 0 1) .int 0 l4_m3.length))], mkOb (someL [((oi 0 1), .arr 3 .int l4_m3)]), 2⟩) ?_ ?_
 ·intro v_ h
  refine seqR ?_
  refine awp_block_ ?_
  refine awp_loopL h (fun t_ S_ => ∃ (l6_m9 : Nat), ∃ (l6_m3 : List Int), t_ = (l6_m9, l6_m3) ∧ S_ = ⟨mkTm [(3, (.own (oi 0 1) .int 0 l6_m3.length)), (8, (ai ((y3.length : Nat) : Int))), (9, (ai ((l6_m9 : Nat) : Int)))], mkOb (someL [((oi 0 1), .arr 3 .int l6_m3)]), 2⟩) ⟨_, (weak_ren [((oi 0 1), (oi 96 3))]), ⟨0, y3, rfl, rfl⟩⟩ ?_
  rintro n_ _ _ c_ ⟨l6_m9, l6_m3, rfl, rfl⟩ h hn6
  (try dsimp only at h)
  unfold L_impl_upTo_l1 at h
  unfold m_impl_upTo_l1
  refine seqR ?_
  refine awp_seqv_ ?_
  rcases cond_some h with ⟨q9, h⟩ | ⟨q9, h⟩
  ·have q9_ := of_decide_eq_true q9
   refine awp_condT_ q9 ?_
   refine awp_skip_ (tn_ ?_)
   refine ⟨_, Weak.refl _, ?_⟩
   refine awp_seqv_ ?_
   refine awp_block_ ?_
   refine seqR ?_
   obtain ⟨x12, e12, h⟩ := ob_some h
   refine awp_region_ 10 ?_
   refine rs0 (.own (oi 0 1) .int 0 l6_m3.length) (by kernel_rfl) ?_
   refine rs0 (ai ((l6_m9 : Nat) : Int)) (by kernel_rfl) ?_
   refine rs0 (ai ((l6_m9 : Nat) : Int)) (by kernel_rfl) ?_
   refine rs0 (.elt (oi 0 1) l6_m9 0) (s_idxO (t := .int) (o := (oi 0 1)) (len := l6_m3.length) (k := .i64) (m := ((l6_m9 : Nat) : Int)) (by kernel_rfl) (by kernel_rfl) rfl (nat_nn _) rfl (getN_lt e12)) ?_
   refine rsn2 (oi 0 1) (oi 0 1) (.arr 3 .int (l6_m3.set l6_m9 ((l6_m9 : Nat) : Int))) (s_stE (i := (oi 0 1)) (j := l6_m9) (k := 0) (e := 3) (t := .int) (xs := l6_m3) (cs := [(ai ((l6_m9 : Nat) : Int))]) (x1 := ((l6_m9 : Nat) : Int)) (by kernel_rfl) (by kernel_rfl) e12 (by kernel_rfl) (by kernel_rfl)) ?_
   refine rnil (bn_ (tn_ ?_))
   refine ⟨_, Weak.refl _, ?_⟩
   obtain ⟨g13, h⟩ := og_some h
   refine awp_region_ 12 ?_
   refine rs0 (ai ((l6_m9 + 1 : Nat) : Int)) (s_add1 (j := l6_m9) (by kernel_rfl) (by kernel_rfl) g13) ?_
   refine rsB 1 ?_
   refine rnil (tn_ ?_)
   obtain rfl := Option.some.inj h
   exact ⟨(l6_m9 + 1, l6_m3.set l6_m9 ((l6_m9 : Nat) : Int)), _, ((weak_tm_ 3 (.own (oi 0 1) .int 0 l6_m3.length) (.own (oi 0 1) .int 0 ((l6_m3.set l6_m9 ((l6_m9 : Nat) : Int)).length)) (by kernel_rfl) (congrArg (fun z_ => ((.own (oi 0 1) .int 0 z_) : AV)) (((rfl : l6_m3.length = l6_m3.length).trans List.length_set.symm) : l6_m3.length = (l6_m3.set l6_m9 ((l6_m9 : Nat) : Int)).length))).trans (weak_ren [])), ⟨l6_m9 + 1, l6_m3.set l6_m9 ((l6_m9 : Nat) : Int), rfl, rfl⟩, hn6⟩
  have q9_ := of_decide_eq_false q9
  refine awp_condF_ q9 ?_
  refine awp_exit_ (te_ (te_ (be_ (tn_ ?_))))
  obtain rfl := Option.some.inj h
  have h := hn6
  (try dsimp only at h)
  obtain rfl := Option.some.inj h
  exact ⟨_, (weak_ren []), rfl⟩
 rintro l4_m3 _ rfl h
 (try dsimp only at h)
 refine seqR ?_
 refine awp_ret_ ?_
 obtain rfl := Option.some.inj h
 exact ret_ [(.own (oi 0 1) .int 0 l4_m3.length)] (p_one rfl (l_own (by kernel_rfl) rfl) p_nil)
def m_spec_hgList_l1 : AC :=
 (.seq (rg [xo 11 (qb .lss (tm 10) (tm 9))])
 (.seq (.cond (tm 11)
  .skip
  (.exit 0))
 (.seq (.block 1 (.seq (rg [xo 12 (qx 1 (tm 8) (tm 10)), xo 13 (ql (tm 12)), xo 7 (qm (tm 13))])
 (rg [xo 14 (qm (tm 5)), xo 15 (qm (tm 1)), xo 16 (qm (tm 7)), xo 17 (qx 1 (tm 15) (tm 16)), xo 18 (ql (tm 17)), xo 19 (.mkS 3 .int [(tm 18)]), xo 20 (.append 3 .int 8 (tm 14) (tm 19)), xo 5 (qm (tm 20))])))
 (rg [xo 21 (qb .add (tm 10) (ci 1)), xo 10 (qm (tm 21))]))))
def m_spec_hgList : AC :=
 (.seq (rg [xo 4 (qm (.cst .nils))])
 (.seq (rg [xo 5 (qm (.cst .nils))])
 (.seq (.seq (rg [xo 8 (qm (tm 0)), xo 9 (.i (.len (tm 8))), xo 10 (qm (ci 0))])
 (.block 0 (.loop m_spec_hgList_l1)))
 (.seq (rg [xo 22 (qm (tm 5)), xo 4 (qm (tm 22))])
 .ret))))
def r_spec_hgList : List Res := [.tmp 4]
theorem c_spec_hgList : compiled Tryd.prog Tryd.f53 = some (m_spec_hgList, r_spec_hgList) := by kernel_rfl
theorem hb_spec_hgList : hasBody Tryd.prog 53 = true := by kernel_rfl
def L_spec_hgList_l1 (a0 : List Int) (a1 : List Int) (l5_m10 : Nat) (l5_m5 : List Int) : Option (Ctl (Nat × List Int) (List Int)) :=
 cond (decide (((l5_m10 : Nat) : Int) < ((a0.length : Nat) : Int)))
 (Option.bind (a0[l5_m10]?) fun x11 =>
 Option.bind (getI a1 x11) fun x12 =>
 og (l5_m5.length + 1 ≤ 1073741824 ∧ (l5_m5.length + 1) * 8 ≤ 140737488355328) <|
 og (l5_m10 + 1 < 4611686018427387904) <|
 some (Ctl.next (l5_m10 + 1, l5_m5 ++ ([x12]))))
 (some (Ctl.out l5_m5))
def L_spec_hgList (a0 : List Int) (a1 : List Int) : Option (List Int) :=
 Option.bind (loopM (fun s_ : Nat × List Int => L_spec_hgList_l1 a0 a1 s_.1 s_.2) 4611686018427387904 (0, [])) fun l3_m5 =>
some l3_m5
def rv_spec_hgList (r : List Int) : RV := ⟨false, [(false, [.new 3 .int r])]⟩
theorem ok_spec_hgList {a0 : List Int} {a1 : List Int} {r : List Int} (h : L_spec_hgList a0 a1 = some r) : CallOK Tryd.prog Tab 53 [(.tree .int a0), (.tree .int a1)] (rv_spec_hgList r) := by
 refine call_of_ (by kernel_rfl) Tryd.func53 c_spec_hgList (n := 23) (by kernel_rfl) (by simp) (tl := [(0, (.tree .int a0)), (1, (.tree .int a1))]) rfl ?_
 unfold m_spec_hgList
 unfold L_spec_hgList at h
 refine seqR ?_
 refine seqR ?_
 refine awp_seqB h (fun (l3_m5 : List Int) S_ => S_ = ⟨mkTm [(5, (.own (oi 0 1) .int 0 l3_m5.length))], mkOb (someL [((oi 0 1), .arr 3 .int l3_m5)]), 2⟩) ?_ ?_
 ·intro v_ h
  refine seqR ?_
  refine awp_block_ ?_
  refine awp_loopL h (fun t_ S_ => ∃ (l5_m10 : Nat), ∃ (l5_m5 : List Int), t_ = (l5_m10, l5_m5) ∧ S_ = ⟨mkTm [(1, (.tree .int a1)), (5, (.own (oi 0 1) .int 0 l5_m5.length)), (8, (.tree .int a0)), (9, (ai ((a0.length : Nat) : Int))), (10, (ai ((l5_m10 : Nat) : Int)))], mkOb (someL [((oi 0 1), .arr 3 .int l5_m5)]), 2⟩) ⟨_, ((weak_nil_ 5 3 .int rfl (by kernel_rfl)).trans (weak_ren [((oi 0 1), (oi 5 6))])), ⟨0, [], rfl, rfl⟩⟩ ?_
  rintro n_ _ _ c_ ⟨l5_m10, l5_m5, rfl, rfl⟩ h hn5
  (try dsimp only at h)
  unfold L_spec_hgList_l1 at h
  unfold m_spec_hgList_l1
  refine seqR ?_
  refine awp_seqv_ ?_
  rcases cond_some h with ⟨q8, h⟩ | ⟨q8, h⟩
  ·have q8_ := of_decide_eq_true q8
   refine awp_condT_ q8 ?_
   refine awp_skip_ (tn_ ?_)
   refine ⟨_, Weak.refl _, ?_⟩
   refine awp_seqv_ ?_
   refine awp_block_ ?_
   refine awp_seqv_ ?_
   obtain ⟨x11, e11, h⟩ := ob_some h
   refine awp_region_ 6 ?_
   refine rs0 (.telt .int x11 0) (s_idxT (t := .int) (xs := a0) (k := .i64) (m := ((l5_m10 : Nat) : Int)) (by kernel_rfl) (by kernel_rfl) rfl (nat_nn _) rfl e11) ?_
   refine rsB 2 ?_
   refine rnil (tn_ ?_)
   refine ⟨_, Weak.refl _, ?_⟩
   obtain ⟨x12, f12, h⟩ := ob_some h
   obtain ⟨p12, b12, e12⟩ := getI_some f12
   obtain ⟨g13, h⟩ := og_some h
   refine awp_region_ 14 ?_
   refine rs0 (.own (oi 0 1) .int 0 l5_m5.length) (by kernel_rfl) ?_
   refine rs0 (.tree .int a1) (by kernel_rfl) ?_
   refine rs0 (ai x11) (by kernel_rfl) ?_
   refine rs0 (.telt .int x12 0) (s_idxT (t := .int) (xs := a1) (k := .i64) (m := x11) (by kernel_rfl) (by kernel_rfl) rfl p12 rfl e12) ?_
   refine rs0 (ai x12) (by kernel_rfl) ?_
   refine rs1 (.own (oi 19 11) .int 0 1) (oi 19 11) (.arr 3 .int ([x12])) (by kernel_rfl) ?_
   refine rs2 (.own (oi 0 12) .int 0 ((l5_m5 ++ ([x12])).length)) (oi 0 1) (oi 0 12) (.arr 3 .int (l5_m5 ++ ([x12]))) (s_appO (t := .int) (t' := .int) (xs := l5_m5) (ys := [x12]) (zs := l5_m5 ++ ([x12])) (j := (oi 0 1)) (len := l5_m5.length) (c := (.own (oi 19 11) .int 0 1)) (by kernel_rfl) (by kernel_rfl) rfl (by kernel_rfl) (sr_own (e := 3) (by kernel_rfl) rfl) rfl g13) ?_
   refine rsB 1 ?_
   refine rnil (bn_ (tn_ ?_))
   refine ⟨_, Weak.refl _, ?_⟩
   obtain ⟨g14, h⟩ := og_some h
   refine awp_region_ 16 ?_
   refine rs0 (ai ((l5_m10 + 1 : Nat) : Int)) (s_add1 (j := l5_m10) (by kernel_rfl) (by kernel_rfl) g14) ?_
   refine rsB 1 ?_
   refine rnil (tn_ ?_)
   obtain rfl := Option.some.inj h
   exact ⟨(l5_m10 + 1, l5_m5 ++ ([x12])), _, (weak_ren [((oi 0 1), (oi 0 12))]), ⟨l5_m10 + 1, l5_m5 ++ ([x12]), rfl, rfl⟩, hn5⟩
  have q8_ := of_decide_eq_false q8
  refine awp_condF_ q8 ?_
  refine awp_exit_ (te_ (te_ (be_ (tn_ ?_))))
  obtain rfl := Option.some.inj h
  have h := hn5
  (try dsimp only at h)
  obtain rfl := Option.some.inj h
  exact ⟨_, (weak_ren []), rfl⟩
 rintro l3_m5 _ rfl h
 (try dsimp only at h)
 refine seqR ?_
 refine awp_ret_ ?_
 obtain rfl := Option.some.inj h
 exact ret_ [(.own (oi 0 1) .int 0 l3_m5.length)] (p_one rfl (l_own (by kernel_rfl) rfl) p_nil)
def m_impl_chosen_l1 : AC :=
 (.seq (rg [xo 14 (qb .lss (tm 13) (tm 12))])
 (.seq (.cond (tm 14)
  .skip
  (.exit 0))
 (.seq (.block 1 (.seq (rg [xo 15 (qx 1 (tm 11) (tm 13)), xo 16 (ql (tm 15)), xo 7 (qm (tm 16))])
 (rg [xo 17 (qm (tm 5)), xo 18 (qm (tm 0)), xo 19 (qm (tm 7)), xo 20 (qx 1 (tm 18) (tm 19)), xo 21 (ql (tm 20)), xo 22 (.mkS 3 .int [(tm 21)]), xo 23 (.append 3 .int 8 (tm 17) (tm 22)), xo 5 (qm (tm 23))])))
 (rg [xo 24 (qb .add (tm 13) (ci 1)), xo 13 (qm (tm 24))]))))
def m_impl_chosen : AC :=
 (.seq (rg [xo 4 (qm (.cst .nils))])
 (.seq (rg [xo 8 (qm (tm 1)), xo 9 (.i (.len (tm 8))), xo 10 (.make 3 .int 8 (ci 0) (tm 9)), xo 5 (qm (tm 10))])
 (.seq (.seq (rg [xo 11 (qm (tm 1)), xo 12 (.i (.len (tm 11))), xo 13 (qm (ci 0))])
 (.block 0 (.loop m_impl_chosen_l1)))
 (.seq (rg [xo 25 (qm (tm 5)), xo 4 (qm (tm 25))])
 .ret))))
def r_impl_chosen : List Res := [.tmp 4]
theorem c_impl_chosen : compiled Tryd.prog Tryd.f63 = some (m_impl_chosen, r_impl_chosen) := by kernel_rfl
theorem hb_impl_chosen : hasBody Tryd.prog 63 = true := by kernel_rfl
def L_impl_chosen_l1 (a1 : List Int) (a0 : List Int) (l6_m13 : Nat) (l6_m5 : List Int) : Option (Ctl (Nat × List Int) (List Int)) :=
 cond (decide (((l6_m13 : Nat) : Int) < ((a1.length : Nat) : Int)))
 (Option.bind (a1[l6_m13]?) fun x12 =>
 Option.bind (getI a0 x12) fun x13 =>
 og (l6_m5.length + 1 ≤ 1073741824 ∧ (l6_m5.length + 1) * 8 ≤ 140737488355328) <|
 og (l6_m13 + 1 < 4611686018427387904) <|
 some (Ctl.next (l6_m13 + 1, l6_m5 ++ ([x13]))))
 (some (Ctl.out l6_m5))
def L_impl_chosen (a0 : List Int) (a1 : List Int) : Option (List Int) :=
 og (0 ≤ (0 : Int) ∧ (0 : Int) ≤ ((a1.length : Nat) : Int) ∧ ((a1.length : Nat) : Int) ≤ 1073741824 ∧ (8 : Int) * ((a1.length : Nat) : Int) ≤ 140737488355328) <|
Option.bind (loopM (fun s_ : Nat × List Int => L_impl_chosen_l1 a1 a0 s_.1 s_.2) 4611686018427387904 (0, List.replicate 0 (0 : Int))) fun l4_m5 =>
some l4_m5
def rv_impl_chosen (r : List Int) : RV := ⟨false, [(false, [.new 3 .int r])]⟩
theorem ok_impl_chosen {a0 : List Int} {a1 : List Int} {r : List Int} (h : L_impl_chosen a0 a1 = some r) : CallOK Tryd.prog Tab 63 [(.tree .int a0), (.tree .int a1)] (rv_impl_chosen r) := by
 refine call_of_ (by kernel_rfl) Tryd.func63 c_impl_chosen (n := 26) (by kernel_rfl) (by simp) (tl := [(0, (.tree .int a0)), (1, (.tree .int a1))]) rfl ?_
 unfold m_impl_chosen
 unfold L_impl_chosen at h
 refine seqR ?_
 refine awp_seqv_ ?_
 obtain ⟨g3, h⟩ := og_some h
 refine awp_region_ 6 ?_
 refine rs0 (.tree .int a1) (by kernel_rfl) ?_
 refine rs0 (ai ((a1.length : Nat) : Int)) (by kernel_rfl) ?_
 refine rs1 (.own (oi 10 4) .int 0 0) (oi 10 4) (.arr 3 .int (List.replicate 0 (0 : Int))) (s_make (t := .int) (k := .i64) (k' := .i64) (m := 0) (m' := ((a1.length : Nat) : Int)) (by kernel_rfl) (by kernel_rfl) g3 rfl) ?_
 refine rsB 1 ?_
 refine rnil (tn_ ?_)
 refine ⟨_, Weak.refl _, ?_⟩
 refine awp_seqB h (fun (l4_m5 : List Int) S_ => S_ = ⟨mkTm [(5, (.own (oi 0 1) .int 0 l4_m5.length))], mkOb (someL [((oi 0 1), .arr 3 .int l4_m5)]), 2⟩) ?_ ?_
 ·intro v_ h
  refine seqR ?_
  refine awp_block_ ?_
  refine awp_loopL h (fun t_ S_ => ∃ (l6_m13 : Nat), ∃ (l6_m5 : List Int), t_ = (l6_m13, l6_m5) ∧ S_ = ⟨mkTm [(0, (.tree .int a0)), (5, (.own (oi 0 1) .int 0 l6_m5.length)), (11, (.tree .int a1)), (12, (ai ((a1.length : Nat) : Int))), (13, (ai ((l6_m13 : Nat) : Int)))], mkOb (someL [((oi 0 1), .arr 3 .int l6_m5)]), 2⟩) ⟨_, ((weak_tm_ 5 (.own (oi 10 4) .int 0 0) (.own (oi 10 4) .int 0 ((List.replicate 0 (0 : Int)).length)) (by kernel_rfl) (congrArg (fun z_ => ((.own (oi 10 4) .int 0 z_) : AV)) (List.length_replicate.symm : 0 = (List.replicate 0 (0 : Int)).length))).trans (weak_ren [((oi 0 1), (oi 10 4))])), ⟨0, List.replicate 0 (0 : Int), rfl, rfl⟩⟩ ?_
  rintro n_ _ _ c_ ⟨l6_m13, l6_m5, rfl, rfl⟩ h hn6
  (try dsimp only at h)
  unfold L_impl_chosen_l1 at h
  unfold m_impl_chosen_l1
  refine seqR ?_
  refine awp_seqv_ ?_
  rcases cond_some h with ⟨q9, h⟩ | ⟨q9, h⟩
  ·have q9_ := of_decide_eq_true q9
   refine awp_condT_ q9 ?_
   refine awp_skip_ (tn_ ?_)
   refine ⟨_, Weak.refl _, ?_⟩
   refine awp_seqv_ ?_
   refine awp_block_ ?_
   refine awp_seqv_ ?_
   obtain ⟨x12, e12, h⟩ := ob_some h
   refine awp_region_ 6 ?_
   refine rs0 (.telt .int x12 0) (s_idxT (t := .int) (xs := a1) (k := .i64) (m := ((l6_m13 : Nat) : Int)) (by kernel_rfl) (by kernel_rfl) rfl (nat_nn _) rfl e12) ?_
   refine rsB 2 ?_
   refine rnil (tn_ ?_)
   refine ⟨_, Weak.refl _, ?_⟩
   obtain ⟨x13, f13, h⟩ := ob_some h
   obtain ⟨p13, b13, e13⟩ := getI_some f13
   obtain ⟨g14, h⟩ := og_some h
   refine awp_region_ 14 ?_
   refine rs0 (.own (oi 0 1) .int 0 l6_m5.length) (by kernel_rfl) ?_
   refine rs0 (.tree .int a0) (by kernel_rfl) ?_
   refine rs0 (ai x12) (by kernel_rfl) ?_
   refine rs0 (.telt .int x13 0) (s_idxT (t := .int) (xs := a0) (k := .i64) (m := x12) (by kernel_rfl) (by kernel_rfl) rfl p13 rfl e13) ?_
   refine rs0 (ai x13) (by kernel_rfl) ?_
   refine rs1 (.own (oi 22 11) .int 0 1) (oi 22 11) (.arr 3 .int ([x13])) (by kernel_rfl) ?_
   refine rs2 (.own (oi 0 12) .int 0 ((l6_m5 ++ ([x13])).length)) (oi 0 1) (oi 0 12) (.arr 3 .int (l6_m5 ++ ([x13]))) (s_appO (t := .int) (t' := .int) (xs := l6_m5) (ys := [x13]) (zs := l6_m5 ++ ([x13])) (j := (oi 0 1)) (len := l6_m5.length) (c := (.own (oi 22 11) .int 0 1)) (by kernel_rfl) (by kernel_rfl) rfl (by kernel_rfl) (sr_own (e := 3) (by kernel_rfl) rfl) rfl g14) ?_
   refine rsB 1 ?_
   refine rnil (bn_ (tn_ ?_))
   refine ⟨_, Weak.refl _, ?_⟩
   obtain ⟨g15, h⟩ := og_some h
   refine awp_region_ 16 ?_
   refine rs0 (ai ((l6_m13 + 1 : Nat) : Int)) (s_add1 (j := l6_m13) (by kernel_rfl) (by kernel_rfl) g15) ?_
   refine rsB 1 ?_
   refine rnil (tn_ ?_)
   obtain rfl := Option.some.inj h
   exact ⟨(l6_m13 + 1, l6_m5 ++ ([x13])), _, (weak_ren [((oi 0 1), (oi 0 12))]), ⟨l6_m13 + 1, l6_m5 ++ ([x13]), rfl, rfl⟩, hn6⟩
  have q9_ := of_decide_eq_false q9
  refine awp_condF_ q9 ?_
  refine awp_exit_ (te_ (te_ (be_ (tn_ ?_))))
  obtain rfl := Option.some.inj h
  have h := hn6
  (try dsimp only at h)
  obtain rfl := Option.some.inj h
  exact ⟨_, (weak_ren []), rfl⟩
 rintro l4_m5 _ rfl h
 (try dsimp only at h)
 refine seqR ?_
 refine awp_ret_ ?_
 obtain rfl := Option.some.inj h
 exact ret_ [(.own (oi 0 1) .int 0 l4_m5.length)] (p_one rfl (l_own (by kernel_rfl) rfl) p_nil)
end Go.Proofs.YtbgfolfhknnlgaaDoor
namespace Go.Proofs.YtbgfolfhknnlgaaDoor
open Go.RowKit Go.Deep
set_option maxRecDepth 4000
def m_laws_szGateS : AC :=
 (.seq (rg [xo 4 (qm (ci 0))])
 (.seq (rg [xo 5 (qm (tm 1)), xo 6 (qm (tm 0)), xo 7 (.i (.len (tm 6))), xo 8 (qb .sub (tm 5) (tm 7)), xo 1 (qm (tm 8))])
 (.seq (.seq (rg [xo 9 (qm (tm 1)), xo 10 (qb .lss (tm 9) (ci 0))])
 (.cond (tm 10)
  (.seq (rg [xo 4 (qm (ci (-1)))])
  .ret)
  .skip))
 (.seq (rg [xo 11 (qm (tm 1)), xo 4 (qm (tm 11))])
 .ret))))
def r_laws_szGateS : List Res := [.tmp 4]
theorem c_laws_szGateS : compiled Tryd.prog Tryd.f13 = some (m_laws_szGateS, r_laws_szGateS) := by kernel_rfl
theorem hb_laws_szGateS : hasBody Tryd.prog 13 = true := by kernel_rfl
def L_laws_szGateS (a0 : List (Int × Int × Int × Int)) (a1 : Int) : Option Int :=
 cond (decide (IntKind.i64.wrap (a1 - ((a0.length : Nat) : Int)) < 0))
 (some (-1))
 (some (IntKind.i64.wrap (a1 - ((a0.length : Nat) : Int))))
def rv_laws_szGateS (r : Int) : RV := ⟨false, [(false, [.sc (.int .i64 r)])]⟩
theorem ok_laws_szGateS {a0 : List (Int × Int × Int × Int)} {a1 : Int} {r : Int} (h : L_laws_szGateS a0 a1 = some r) : CallOK Tryd.prog Tab 13 [(.tree (.pair .int (.pair .int (.pair .int .int))) a0), (ai a1)] (rv_laws_szGateS r) := by
 refine call_of_ (by kernel_rfl) Tryd.func13 c_laws_szGateS (n := 12) (by kernel_rfl) (by simp) (tl := [(0, (.tree (.pair .int (.pair .int (.pair .int .int))) a0)), (1, (ai a1))]) rfl ?_
 unfold m_laws_szGateS
 unfold L_laws_szGateS at h
 refine seqR ?_
 refine seqR ?_
 refine awp_seqv_ ?_
 refine seqR ?_
 rcases cond_some h with ⟨q5, h⟩ | ⟨q5, h⟩
 ·have q5_ := of_decide_eq_true q5
  refine awp_condT_ q5 ?_
  refine seqR ?_
  refine awp_ret_ (tr_ ?_)
  obtain rfl := Option.some.inj h
  exact ret_ [(ai (-1))] (p_one rfl (l_sc (by kernel_rfl)) p_nil)
 have q5_ := of_decide_eq_false q5
 refine awp_condF_ q5 ?_
 refine awp_skip_ (tn_ ?_)
 refine ⟨_, Weak.refl _, ?_⟩
 refine seqR ?_
 refine awp_ret_ ?_
 obtain rfl := Option.some.inj h
 exact ret_ [(ai (IntKind.i64.wrap (a1 - ((a0.length : Nat) : Int))))] (p_one rfl (l_sc (by kernel_rfl)) p_nil)
def m_laws_szCircuit : AC :=
 (.seq (rg [xo 2 (.i (.box 25 (tm 0))), xo 4 (qm (ci 0))])
 (.seq (rg [xo 5 (qf 1 (tm 2)), xo 6 (ql (tm 5)), xo 7 (qm (tm 1)), ⟨(some 8), none, (qc 13 [(tm 6), (tm 7)] [[(some (.pair .int (.pair .int (.pair .int .int))))], []])⟩, xo 1 (qm (tm 8))])
 (.seq (.seq (rg [xo 9 (qm (tm 1)), xo 10 (qb .lss (tm 9) (ci 0))])
 (.cond (tm 10)
  (.seq (rg [xo 4 (qm (ci (-1)))])
  .ret)
  .skip))
 (.seq (rg [xo 11 (qf 2 (tm 2)), xo 12 (ql (tm 11)), xo 13 (qm (tm 1)), xo 14 (qc 14 [(tm 12), (tm 13)] [[(some .int)], []]), xo 1 (qm (tm 14))])
 (.seq (.seq (rg [xo 15 (qm (tm 1)), xo 16 (qb .lss (tm 15) (ci 0))])
 (.cond (tm 16)
  (.seq (rg [xo 4 (qm (ci (-1)))])
  .ret)
  .skip))
 (.seq (rg [xo 17 (qm (tm 1)), xo 4 (qm (tm 17))])
 .ret))))))
def r_laws_szCircuit : List Res := [.tmp 4]
theorem c_laws_szCircuit : compiled Tryd.prog Tryd.f4 = some (m_laws_szCircuit, r_laws_szCircuit) := by kernel_rfl
theorem hb_laws_szCircuit : hasBody Tryd.prog 4 = true := by kernel_rfl
def L_laws_szCircuit (a0_0 : Int) (a0_1 : List (Int × Int × Int × Int)) (a0_2 : List Int) (a1 : Int) : Option Int :=
 Option.bind (L_laws_szGateS a0_1 a1) fun y3 =>
cond (decide (y3 < 0))
 (some (-1))
 (Option.bind (L_laws_szIntS a0_2 y3) fun y9 =>
 cond (decide (y9 < 0))
  (some (-1))
  (some y9))
def rv_laws_szCircuit (r : Int) : RV := ⟨false, [(false, [.sc (.int .i64 r)])]⟩
theorem ok_laws_szCircuit {a0_0 : Int} {a0_1 : List (Int × Int × Int × Int)} {a0_2 : List Int} {a1 : Int} {r : Int} (h : L_laws_szCircuit a0_0 a0_1 a0_2 a1 = some r) : CallOK Tryd.prog Tab 4 [(.agg [(ai a0_0), (.tree (.pair .int (.pair .int (.pair .int .int))) a0_1), (.tree .int a0_2)]), (ai a1)] (rv_laws_szCircuit r) := by
 refine call_of_ (by kernel_rfl) Tryd.func4 c_laws_szCircuit (n := 18) (by kernel_rfl) (by simp) (tl := [(0, (.agg [(ai a0_0), (.tree (.pair .int (.pair .int (.pair .int .int))) a0_1), (.tree .int a0_2)])), (1, (ai a1))]) rfl ?_
 unfold m_laws_szCircuit
 unfold L_laws_szCircuit at h
 refine seqR ?_
 refine awp_seqv_ ?_
 obtain ⟨y3, h3, h⟩ := ob_some h
 refine awp_region_ 8 ?_
 refine rs0 (.box (oi 2 1) 1) (by kernel_rfl) ?_
 refine rsl (.tree (.pair .int (.pair .int (.pair .int .int))) a0_1) (by kernel_rfl) ?_
 refine rs0 (ai a1) (by kernel_rfl) ?_
 refine rcall (ai y3) [] [(.tree (.pair .int (.pair .int (.pair .int .int))) a0_1), (ai a1)] _ (caps := []) (args0 := [(.tree (.pair .int (.pair .int (.pair .int .int))) a0_1), (ai a1)]) trivial (by kernel_rfl) (ok_laws_szGateS h3) hb_laws_szGateS ?_
 refine rsB 1 ?_
 refine rnil (tn_ ?_)
 refine ⟨_, Weak.refl _, ?_⟩
 refine awp_seqv_ ?_
 refine seqR ?_
 rcases cond_some h with ⟨q6, h⟩ | ⟨q6, h⟩
 ·have q6_ := of_decide_eq_true q6
  refine awp_condT_ q6 ?_
  refine seqR ?_
  refine awp_ret_ (tr_ ?_)
  obtain rfl := Option.some.inj h
  exact ret_ [(ai (-1))] (p_one rfl (l_sc (by kernel_rfl)) p_nil)
 have q6_ := of_decide_eq_false q6
 refine awp_condF_ q6 ?_
 refine awp_skip_ (tn_ ?_)
 refine ⟨_, Weak.refl _, ?_⟩
 refine awp_seqv_ ?_
 obtain ⟨y9, h9, h⟩ := ob_some h
 refine awp_region_ 15 ?_
 refine rs0 (.box (oi 2 1) 2) (by kernel_rfl) ?_
 refine rsl (.tree .int a0_2) (by kernel_rfl) ?_
 refine rs0 (ai y3) (by kernel_rfl) ?_
 refine rcall (ai y9) [] [(.tree .int a0_2), (ai y3)] _ (caps := []) (args0 := [(.tree .int a0_2), (ai y3)]) trivial (by kernel_rfl) (ok_laws_szIntS h9) hb_laws_szIntS ?_
 refine rsB 1 ?_
 refine rnil (tn_ ?_)
 refine ⟨_, Weak.refl _, ?_⟩
 refine awp_seqv_ ?_
 refine seqR ?_
 rcases cond_some h with ⟨q12, h⟩ | ⟨q12, h⟩
 ·have q12_ := of_decide_eq_true q12
  refine awp_condT_ q12 ?_
  refine seqR ?_
  refine awp_ret_ (tr_ ?_)
  obtain rfl := Option.some.inj h
  exact ret_ [(ai (-1))] (p_one rfl (l_sc (by kernel_rfl)) p_nil)
 have q12_ := of_decide_eq_false q12
 refine awp_condF_ q12 ?_
 refine awp_skip_ (tn_ ?_)
 refine ⟨_, Weak.refl _, ?_⟩
 refine seqR ?_
 refine awp_ret_ ?_
 obtain rfl := Option.some.inj h
 exact ret_ [(ai y9)] (p_one rfl (l_sc (by kernel_rfl)) p_nil)
def m_laws_toGate : AC :=
 (.seq (rg [xo 1 (.i (.box 64 (tm 0))), xo 2 (.i (.alloc 57 [(.int .i64 0), (.int .i64 0), (.int .i64 0), (.int .i64 0)]))])
 (.seq (rg [xo 3 (.i (.alloc 57 [(.int .i64 0), (.int .i64 0), (.int .i64 0), (.int .i64 0)]))])
 (.seq (rg [xo 4 (qf 0 (tm 1)), xo 5 (ql (tm 4)), xo 6 (qf 0 (tm 3)), xn (qs (tm 6) (tm 5))])
 (.seq (rg [xo 7 (qf 1 (tm 1)), xo 8 (ql (tm 7)), xo 9 (qf 1 (tm 3)), xn (qs (tm 9) (tm 8))])
 (.seq (rg [xo 10 (qf 2 (tm 1)), xo 11 (ql (tm 10)), xo 12 (qf 2 (tm 3)), xn (qs (tm 12) (tm 11))])
 (.seq (rg [xo 13 (qf 3 (tm 1)), xo 14 (ql (tm 13)), xo 15 (qf 3 (tm 3)), xn (qs (tm 15) (tm 14))])
 (.seq (rg [xo 16 (.i (.ld false 4 (tm 3))), xn (.st false 4 (tm 2) (tm 16))])
 .ret)))))))
def r_laws_toGate : List Res := [.cell 2 false 4]
theorem c_laws_toGate : compiled Tryd.prog Tryd.f38 = some (m_laws_toGate, r_laws_toGate) := by kernel_rfl
theorem hb_laws_toGate : hasBody Tryd.prog 38 = true := by kernel_rfl
def L_laws_toGate (a0_0 : Int) (a0_1 : Int) (a0_2 : Int) (a0_3 : Int) : Option (Int × Int × Int × Int) :=
 some (a0_0, a0_1, a0_2, a0_3)
def rv_laws_toGate (r : Int × Int × Int × Int) : RV := ⟨false, [(true, [.sc (.int .i64 r.1), .sc (.int .i64 r.2.1), .sc (.int .i64 r.2.2.1), .sc (.int .i64 r.2.2.2)])]⟩
theorem ok_laws_toGate {a0_0 : Int} {a0_1 : Int} {a0_2 : Int} {a0_3 : Int} {r : Int × Int × Int × Int} (h : L_laws_toGate a0_0 a0_1 a0_2 a0_3 = some r) : CallOK Tryd.prog Tab 38 [(.agg [(ai a0_0), (ai a0_1), (ai a0_2), (ai a0_3)])] (rv_laws_toGate r) := by
 refine call_of_ (by kernel_rfl) Tryd.func38 c_laws_toGate (n := 17) (by kernel_rfl) (by simp) (tl := [(0, (.agg [(ai a0_0), (ai a0_1), (ai a0_2), (ai a0_3)]))]) rfl ?_
 unfold m_laws_toGate
 unfold L_laws_toGate at h
 refine seqR ?_
 refine seqR ?_
 refine seqR ?_
 refine seqR ?_
 refine seqR ?_
 refine seqR ?_
 refine seqR ?_
 refine awp_ret_ ?_
 obtain rfl := Option.some.inj h
 exact ret_ [(.agg [(ai a0_0), (ai a0_1), (ai a0_2), (ai a0_3)])] (p_agg (l_cons (l_sc (by kernel_rfl)) (l_cons (l_sc (by kernel_rfl)) (l_cons (l_sc (by kernel_rfl)) (l_cons (l_sc (by kernel_rfl)) l_nil)))) p_nil)
def m_laws_toGateS_l1 : AC :=
 (.seq (.seq (rg [xo 8 (qm (tm 4)), xo 9 (qm (tm 0)), xo 10 (.i (.len (tm 9))), xo 11 (qb .lss (tm 8) (tm 10))])
 (.cond (tm 11)
  .skip
  (.exit 0)))
 (.seq (.block 1 (rg [xo 14 (qm (tm 3)), xo 15 (qm (tm 4)), xo 16 (qm (tm 0)), xo 17 (qm (tm 4)), xo 18 (qx 4 (tm 16) (tm 17)), xo 19 (.i (.ld false 4 (tm 18))), xo 20 (qc 38 [(tm 19)] [[none, none, none, none]]), xo 21 (qx 4 (tm 14) (tm 15)), xn (.st false 4 (tm 21) (tm 20))]))
 (rg [xo 12 (qm (tm 4)), xo 13 (qb .add (tm 12) (ci 1)), xo 4 (qm (tm 13))])))
def m_laws_toGateS : AC :=
 (.seq (rg [xo 2 (qm (.cst .nils))])
 (.seq (rg [xo 5 (qm (tm 0)), xo 6 (.i (.len (tm 5))), ⟨(some 7), none, (.make 57 (.pair .int (.pair .int (.pair .int .int))) 32 (tm 6) (tm 6))⟩, xo 3 (qm (tm 7))])
 (.seq (.seq (rg [xo 4 (qm (ci 0))])
 (.block 0 (.loop m_laws_toGateS_l1)))
 (.seq (rg [xo 22 (qm (tm 3)), xo 2 (qm (tm 22))])
 .ret))))
def r_laws_toGateS : List Res := [.tmp 2]
theorem c_laws_toGateS : compiled Tryd.prog Tryd.f18 = some (m_laws_toGateS, r_laws_toGateS) := by kernel_rfl
theorem hb_laws_toGateS : hasBody Tryd.prog 18 = true := by kernel_rfl
def L_laws_toGateS_l1 (a0 : List (Int × Int × Int × Int)) (l6_m4 : Nat) (l6_m3 : List (Int × Int × Int × Int)) : Option (Ctl (Nat × (List (Int × Int × Int × Int))) (List (Int × Int × Int × Int))) :=
 cond (decide (((l6_m4 : Nat) : Int) < ((a0.length : Nat) : Int)))
 (Option.bind (a0[l6_m4]?) fun x11 =>
 Option.bind (L_laws_toGate x11.1 x11.2.1 x11.2.2.1 x11.2.2.2) fun y12 =>
 Option.bind (l6_m3[l6_m4]?) fun x13 =>
 og (l6_m4 + 1 < 4611686018427387904) <|
 some (Ctl.next (l6_m4 + 1, l6_m3.set l6_m4 y12)))
 (some (Ctl.out l6_m3))
def L_laws_toGateS (a0 : List (Int × Int × Int × Int)) : Option (List (Int × Int × Int × Int)) :=
 og (0 ≤ ((a0.length : Nat) : Int) ∧ ((a0.length : Nat) : Int) ≤ ((a0.length : Nat) : Int) ∧ ((a0.length : Nat) : Int) ≤ 1073741824 ∧ (32 : Int) * ((a0.length : Nat) : Int) ≤ 140737488355328) <|
Option.bind (loopM (fun s_ : Nat × (List (Int × Int × Int × Int)) => L_laws_toGateS_l1 a0 s_.1 s_.2) 4611686018427387904 (0, List.replicate a0.length ((0, 0, 0, 0) : Int × Int × Int × Int))) fun l4_m3 =>
some l4_m3
def rv_laws_toGateS (r : List (Int × Int × Int × Int)) : RV := ⟨false, [(false, [.new 57 (.pair .int (.pair .int (.pair .int .int))) r])]⟩
theorem ok_laws_toGateS {a0 : List (Int × Int × Int × Int)} {r : List (Int × Int × Int × Int)} (h : L_laws_toGateS a0 = some r) : CallOK Tryd.prog Tab 18 [(.tree (.pair .int (.pair .int (.pair .int .int))) a0)] (rv_laws_toGateS r) := by
 refine call_of_ (by kernel_rfl) Tryd.func18 c_laws_toGateS (n := 23) (by kernel_rfl) (by simp) (tl := [(0, (.tree (.pair .int (.pair .int (.pair .int .int))) a0))]) rfl ?_
 unfold m_laws_toGateS
 unfold L_laws_toGateS at h
 refine seqR ?_
 refine awp_seqv_ ?_
 obtain ⟨g3, h⟩ := og_some h
 refine awp_region_ 6 ?_
 refine rs0 (.tree (.pair .int (.pair .int (.pair .int .int))) a0) (by kernel_rfl) ?_
 refine rs0 (ai ((a0.length : Nat) : Int)) (by kernel_rfl) ?_
 refine rs1 (.own (oi 7 4) (.pair .int (.pair .int (.pair .int .int))) 0 a0.length) (oi 7 4) (.arr 57 (.pair .int (.pair .int (.pair .int .int))) (List.replicate a0.length ((0, 0, 0, 0) : Int × Int × Int × Int))) (s_make (t := (.pair .int (.pair .int (.pair .int .int)))) (k := .i64) (k' := .i64) (m := ((a0.length : Nat) : Int)) (m' := ((a0.length : Nat) : Int)) (by kernel_rfl) (by kernel_rfl) g3 rfl) ?_
 refine rsB 1 ?_
 refine rnil (tn_ ?_)
 refine ⟨_, Weak.refl _, ?_⟩
 refine awp_seqB h (fun (l4_m3 : List (Int × Int × Int × Int)) S_ => S_ = ⟨mkTm [(3, (.own (oi 0 1) (.pair .int (.pair .int (.pair .int .int))) 0 l4_m3.length))], mkOb (someL [((oi 0 1), .arr 57 (.pair .int (.pair .int (.pair .int .int))) l4_m3)]), 2⟩) ?_ ?_
 ·intro v_ h
  refine seqR ?_
  refine awp_block_ ?_
  refine awp_loopL h (fun t_ S_ => ∃ (l6_m4 : Nat), ∃ (l6_m3 : List (Int × Int × Int × Int)), t_ = (l6_m4, l6_m3) ∧ S_ = ⟨mkTm [(0, (.tree (.pair .int (.pair .int (.pair .int .int))) a0)), (3, (.own (oi 0 1) (.pair .int (.pair .int (.pair .int .int))) 0 l6_m3.length)), (4, (ai ((l6_m4 : Nat) : Int)))], mkOb (someL [((oi 0 1), .arr 57 (.pair .int (.pair .int (.pair .int .int))) l6_m3)]), 2⟩) ⟨_, ((weak_tm_ 3 (.own (oi 7 4) (.pair .int (.pair .int (.pair .int .int))) 0 a0.length) (.own (oi 7 4) (.pair .int (.pair .int (.pair .int .int))) 0 ((List.replicate a0.length ((0, 0, 0, 0) : Int × Int × Int × Int)).length)) (by kernel_rfl) (congrArg (fun z_ => ((.own (oi 7 4) (.pair .int (.pair .int (.pair .int .int))) 0 z_) : AV)) (List.length_replicate.symm : a0.length = (List.replicate a0.length ((0, 0, 0, 0) : Int × Int × Int × Int)).length))).trans (weak_ren [((oi 0 1), (oi 7 4))])), ⟨0, List.replicate a0.length ((0, 0, 0, 0) : Int × Int × Int × Int), rfl, rfl⟩⟩ ?_
  rintro n_ _ _ c_ ⟨l6_m4, l6_m3, rfl, rfl⟩ h hn6
  (try dsimp only at h)
  unfold L_laws_toGateS_l1 at h
  unfold m_laws_toGateS_l1
  refine awp_seqv_ ?_
  refine seqR ?_
  rcases cond_some h with ⟨q9, h⟩ | ⟨q9, h⟩
  ·have q9_ := of_decide_eq_true q9
   refine awp_condT_ q9 ?_
   refine awp_skip_ (tn_ ?_)
   refine ⟨_, Weak.refl _, ?_⟩
   refine awp_seqv_ ?_
   refine awp_block_ ?_
   obtain ⟨x11, e11, h⟩ := ob_some h
   obtain ⟨y12, h12, h⟩ := ob_some h
   obtain ⟨x13, e13, h⟩ := ob_some h
   refine awp_region_ 15 ?_
   refine rs0 (.own (oi 0 1) (.pair .int (.pair .int (.pair .int .int))) 0 l6_m3.length) (by kernel_rfl) ?_
   refine rs0 (ai ((l6_m4 : Nat) : Int)) (by kernel_rfl) ?_
   refine rs0 (.tree (.pair .int (.pair .int (.pair .int .int))) a0) (by kernel_rfl) ?_
   refine rs0 (ai ((l6_m4 : Nat) : Int)) (by kernel_rfl) ?_
   refine rs0 (.telt (.pair .int (.pair .int (.pair .int .int))) x11 0) (s_idxT (t := (.pair .int (.pair .int (.pair .int .int)))) (xs := a0) (k := .i64) (m := ((l6_m4 : Nat) : Int)) (by kernel_rfl) (by kernel_rfl) rfl (nat_nn _) rfl e11) ?_
   refine rs0 (.agg [(ai x11.1), (ai x11.2.1), (ai x11.2.2.1), (ai x11.2.2.2)]) (by kernel_rfl) ?_
   refine rcall (.agg [(ai y12.1), (ai y12.2.1), (ai y12.2.2.1), (ai y12.2.2.2)]) [] [(.agg [(ai x11.1), (ai x11.2.1), (ai x11.2.2.1), (ai x11.2.2.2)])] _ (caps := []) (args0 := [(.agg [(ai x11.1), (ai x11.2.1), (ai x11.2.2.1), (ai x11.2.2.2)])]) trivial (by kernel_rfl) (ok_laws_toGate h12) hb_laws_toGate ?_
   refine rs0 (.elt (oi 0 1) l6_m4 0) (s_idxO (t := (.pair .int (.pair .int (.pair .int .int)))) (o := (oi 0 1)) (len := l6_m3.length) (k := .i64) (m := ((l6_m4 : Nat) : Int)) (by kernel_rfl) (by kernel_rfl) rfl (nat_nn _) rfl (getN_lt e13)) ?_
   refine rsn2 (oi 0 1) (oi 0 1) (.arr 57 (.pair .int (.pair .int (.pair .int .int))) (l6_m3.set l6_m4 y12)) (s_stE (i := (oi 0 1)) (j := l6_m4) (k := 0) (e := 57) (t := (.pair .int (.pair .int (.pair .int .int)))) (xs := l6_m3) (cs := [(ai y12.1), (ai y12.2.1), (ai y12.2.2.1), (ai y12.2.2.2)]) (x1 := y12) (by kernel_rfl) (by kernel_rfl) e13 (by kernel_rfl) (by kernel_rfl)) ?_
   refine rnil (bn_ (tn_ ?_))
   refine ⟨_, Weak.refl _, ?_⟩
   obtain ⟨g14, h⟩ := og_some h
   refine awp_region_ 18 ?_
   refine rs0 (ai ((l6_m4 : Nat) : Int)) (by kernel_rfl) ?_
   refine rs0 (ai ((l6_m4 + 1 : Nat) : Int)) (s_add1 (j := l6_m4) (by kernel_rfl) (by kernel_rfl) g14) ?_
   refine rsB 1 ?_
   refine rnil (tn_ ?_)
   obtain rfl := Option.some.inj h
   exact ⟨(l6_m4 + 1, l6_m3.set l6_m4 y12), _, ((weak_tm_ 3 (.own (oi 0 1) (.pair .int (.pair .int (.pair .int .int))) 0 l6_m3.length) (.own (oi 0 1) (.pair .int (.pair .int (.pair .int .int))) 0 ((l6_m3.set l6_m4 y12).length)) (by kernel_rfl) (congrArg (fun z_ => ((.own (oi 0 1) (.pair .int (.pair .int (.pair .int .int))) 0 z_) : AV)) (((rfl : l6_m3.length = l6_m3.length).trans List.length_set.symm) : l6_m3.length = (l6_m3.set l6_m4 y12).length))).trans (weak_ren [])), ⟨l6_m4 + 1, l6_m3.set l6_m4 y12, rfl, rfl⟩, hn6⟩
  have q9_ := of_decide_eq_false q9
  refine awp_condF_ q9 ?_
  refine awp_exit_ (te_ (te_ (be_ (tn_ ?_))))
  obtain rfl := Option.some.inj h
  have h := hn6
  (try dsimp only at h)
  obtain rfl := Option.some.inj h
  exact ⟨_, (weak_ren []), rfl⟩
 rintro l4_m3 _ rfl h
 (try dsimp only at h)
 refine seqR ?_
 refine awp_ret_ ?_
 obtain rfl := Option.some.inj h
 exact ret_ [(.own (oi 0 1) (.pair .int (.pair .int (.pair .int .int))) 0 l4_m3.length)] (p_one rfl (l_own (by kernel_rfl) rfl) p_nil)
def m_laws_toCircuit : AC :=
 (.seq (rg [xo 1 (.i (.box 25 (tm 0))), xo 2 (.i (.alloc 34 [(.int .i64 0), .nils, .nils]))])
 (.seq (rg [xo 3 (.i (.alloc 34 [(.int .i64 0), .nils, .nils]))])
 (.seq (rg [xo 4 (qf 0 (tm 1)), xo 5 (ql (tm 4)), xo 6 (qf 0 (tm 3)), xn (qs (tm 6) (tm 5))])
 (.seq (rg [xo 7 (qf 1 (tm 1)), xo 8 (ql (tm 7)), ⟨(some 9), none, (qc 18 [(tm 8)] [[(some (.pair .int (.pair .int (.pair .int .int))))]])⟩, xo 10 (qf 1 (tm 3)), xn (qs (tm 10) (tm 9))])
 (.seq (rg [xo 11 (qf 2 (tm 1)), xo 12 (ql (tm 11)), xo 13 (qc 19 [(tm 12)] [[(some .int)]]), xo 14 (qf 2 (tm 3)), xn (qs (tm 14) (tm 13))])
 (.seq (rg [xo 15 (.i (.ld false 3 (tm 3))), xn (.st false 3 (tm 2) (tm 15))])
 .ret))))))
def r_laws_toCircuit : List Res := [.cell 2 false 3]
theorem c_laws_toCircuit : compiled Tryd.prog Tryd.f6 = some (m_laws_toCircuit, r_laws_toCircuit) := by kernel_rfl
theorem hb_laws_toCircuit : hasBody Tryd.prog 6 = true := by kernel_rfl
def L_laws_toCircuit (a0_0 : Int) (a0_1 : List (Int × Int × Int × Int)) (a0_2 : List Int) : Option (Int × (List (Int × Int × Int × Int)) × List Int) :=
 Option.bind (L_laws_toGateS a0_1) fun y5 =>
Option.bind (L_laws_toIntS a0_2) fun y7 =>
some (a0_0, y5, y7)
def rv_laws_toCircuit (r : Int × (List (Int × Int × Int × Int)) × List Int) : RV := ⟨false, [(true, [.sc (.int .i64 r.1), .new 57 (.pair .int (.pair .int (.pair .int .int))) r.2.1, .new 3 .int r.2.2])]⟩
theorem ok_laws_toCircuit {a0_0 : Int} {a0_1 : List (Int × Int × Int × Int)} {a0_2 : List Int} {r : Int × (List (Int × Int × Int × Int)) × List Int} (h : L_laws_toCircuit a0_0 a0_1 a0_2 = some r) : CallOK Tryd.prog Tab 6 [(.agg [(ai a0_0), (.tree (.pair .int (.pair .int (.pair .int .int))) a0_1), (.tree .int a0_2)])] (rv_laws_toCircuit r) := by
 refine call_of_ (by kernel_rfl) Tryd.func6 c_laws_toCircuit (n := 16) (by kernel_rfl) (by simp) (tl := [(0, (.agg [(ai a0_0), (.tree (.pair .int (.pair .int (.pair .int .int))) a0_1), (.tree .int a0_2)]))]) rfl ?_
 unfold m_laws_toCircuit
 unfold L_laws_toCircuit at h
 refine seqR ?_
 refine seqR ?_
 refine seqR ?_
 refine awp_seqv_ ?_
 obtain ⟨y5, h5, h⟩ := ob_some h
 refine awp_region_ 13 ?_
 refine rs0 (.box (oi 1 1) 1) (by kernel_rfl) ?_
 refine rsl (.tree (.pair .int (.pair .int (.pair .int .int))) a0_1) (by kernel_rfl) ?_
 refine rcall (.own (oi 144 10) (.pair .int (.pair .int (.pair .int .int))) 0 y5.length) [((oi 144 10), some (.arr 57 (.pair .int (.pair .int (.pair .int .int))) y5))] [(.tree (.pair .int (.pair .int (.pair .int .int))) a0_1)] _ (caps := []) (args0 := [(.tree (.pair .int (.pair .int (.pair .int .int))) a0_1)]) trivial (by kernel_rfl) (ok_laws_toGateS h5) hb_laws_toGateS ?_
 refine rsB 2 ?_
 refine rnil (tn_ ?_)
 refine ⟨_, Weak.refl _, ?_⟩
 refine awp_seqv_ ?_
 obtain ⟨y7, h7, h⟩ := ob_some h
 refine awp_region_ 18 ?_
 refine rs0 (.box (oi 1 1) 2) (by kernel_rfl) ?_
 refine rsl (.tree .int a0_2) (by kernel_rfl) ?_
 refine rcall (.own (oi 208 15) .int 0 y7.length) [((oi 208 15), some (.arr 3 .int y7))] [(.tree .int a0_2)] _ (caps := []) (args0 := [(.tree .int a0_2)]) trivial (by kernel_rfl) (ok_laws_toIntS h7) hb_laws_toIntS ?_
 refine rsB 2 ?_
 refine rnil (tn_ ?_)
 refine ⟨_, Weak.refl _, ?_⟩
 refine seqR ?_
 refine awp_ret_ ?_
 obtain rfl := Option.some.inj h
 exact ret_ [(.agg [(ai a0_0), (.own (oi 144 10) (.pair .int (.pair .int (.pair .int .int))) 0 y5.length), (.own (oi 208 15) .int 0 y7.length)])] (p_agg (l_cons (l_sc (by kernel_rfl)) (l_cons (l_own (by kernel_rfl) rfl) (l_cons (l_own (by kernel_rfl) rfl) l_nil))) p_nil)
def m_laws_eqGate : AC :=
 (.seq (rg [xo 2 (.i (.box 57 (tm 0))), xo 3 (.i (.box 57 (tm 1))), xo 4 (qm (cb false))])
 (.seq (.seq (rg [xo 5 (qf 0 (tm 2)), xo 6 (ql (tm 5)), xo 7 (qf 0 (tm 3)), xo 8 (ql (tm 7)), xo 9 (qb .neq (tm 6) (tm 8))])
 (.cond (tm 9)
  (.seq (rg [xo 4 (qm (cb false))])
  .ret)
  .skip))
 (.seq (.seq (rg [xo 10 (qf 1 (tm 2)), xo 11 (ql (tm 10)), xo 12 (qf 1 (tm 3)), xo 13 (ql (tm 12)), xo 14 (qb .neq (tm 11) (tm 13))])
 (.cond (tm 14)
  (.seq (rg [xo 4 (qm (cb false))])
  .ret)
  .skip))
 (.seq (.seq (rg [xo 15 (qf 2 (tm 2)), xo 16 (ql (tm 15)), xo 17 (qf 2 (tm 3)), xo 18 (ql (tm 17)), xo 19 (qb .neq (tm 16) (tm 18))])
 (.cond (tm 19)
  (.seq (rg [xo 4 (qm (cb false))])
  .ret)
  .skip))
 (.seq (.seq (rg [xo 20 (qf 3 (tm 2)), xo 21 (ql (tm 20)), xo 22 (qf 3 (tm 3)), xo 23 (ql (tm 22)), xo 24 (qb .neq (tm 21) (tm 23))])
 (.cond (tm 24)
  (.seq (rg [xo 4 (qm (cb false))])
  .ret)
  .skip))
 (.seq (rg [xo 4 (qm (cb true))])
 .ret))))))
def r_laws_eqGate : List Res := [.tmp 4]
theorem c_laws_eqGate : compiled Tryd.prog Tryd.f48 = some (m_laws_eqGate, r_laws_eqGate) := by kernel_rfl
theorem hb_laws_eqGate : hasBody Tryd.prog 48 = true := by kernel_rfl
def L_laws_eqGate (a0_0 : Int) (a0_1 : Int) (a0_2 : Int) (a0_3 : Int) (a1_0 : Int) (a1_1 : Int) (a1_2 : Int) (a1_3 : Int) : Option Bool :=
 cond (a0_0 != a1_0)
 (some false)
 (cond (a0_1 != a1_1)
  (some false)
  (cond (a0_2 != a1_2)
   (some false)
   (cond (a0_3 != a1_3)
    (some false)
    (some true))))
def rv_laws_eqGate (r : Bool) : RV := ⟨false, [(false, [.sc (.bool r)])]⟩
theorem ok_laws_eqGate {a0_0 : Int} {a0_1 : Int} {a0_2 : Int} {a0_3 : Int} {a1_0 : Int} {a1_1 : Int} {a1_2 : Int} {a1_3 : Int} {r : Bool} (h : L_laws_eqGate a0_0 a0_1 a0_2 a0_3 a1_0 a1_1 a1_2 a1_3 = some r) : CallOK Tryd.prog Tab 48 [(.agg [(ai a0_0), (ai a0_1), (ai a0_2), (ai a0_3)]), (.agg [(ai a1_0), (ai a1_1), (ai a1_2), (ai a1_3)])] (rv_laws_eqGate r) := by
 refine call_of_ (by kernel_rfl) Tryd.func48 c_laws_eqGate (n := 25) (by kernel_rfl) (by simp) (tl := [(0, (.agg [(ai a0_0), (ai a0_1), (ai a0_2), (ai a0_3)])), (1, (.agg [(ai a1_0), (ai a1_1), (ai a1_2), (ai a1_3)]))]) rfl ?_
 unfold m_laws_eqGate
 unfold L_laws_eqGate at h
 refine seqR ?_
 refine awp_seqv_ ?_
 refine seqR ?_
 rcases cond_some h with ⟨q4, h⟩ | ⟨q4, h⟩
 ·refine awp_condT_ q4 ?_
  refine seqR ?_
  refine awp_ret_ (tr_ ?_)
  obtain rfl := Option.some.inj h
  exact ret_ [(.bool false)] (p_one rfl (l_sc (by kernel_rfl)) p_nil)
 refine awp_condF_ q4 ?_
 refine awp_skip_ (tn_ ?_)
 refine ⟨_, Weak.refl _, ?_⟩
 refine awp_seqv_ ?_
 refine seqR ?_
 rcases cond_some h with ⟨q8, h⟩ | ⟨q8, h⟩
 ·refine awp_condT_ q8 ?_
  refine seqR ?_
  refine awp_ret_ (tr_ ?_)
  obtain rfl := Option.some.inj h
  exact ret_ [(.bool false)] (p_one rfl (l_sc (by kernel_rfl)) p_nil)
 refine awp_condF_ q8 ?_
 refine awp_skip_ (tn_ ?_)
 refine ⟨_, Weak.refl _, ?_⟩
 refine awp_seqv_ ?_
 refine seqR ?_
 rcases cond_some h with ⟨q12, h⟩ | ⟨q12, h⟩
 ·refine awp_condT_ q12 ?_
  refine seqR ?_
  refine awp_ret_ (tr_ ?_)
  obtain rfl := Option.some.inj h
  exact ret_ [(.bool false)] (p_one rfl (l_sc (by kernel_rfl)) p_nil)
 refine awp_condF_ q12 ?_
 refine awp_skip_ (tn_ ?_)
 refine ⟨_, Weak.refl _, ?_⟩
 refine awp_seqv_ ?_
 refine seqR ?_
 rcases cond_some h with ⟨q16, h⟩ | ⟨q16, h⟩
 ·refine awp_condT_ q16 ?_
  refine seqR ?_
  refine awp_ret_ (tr_ ?_)
  obtain rfl := Option.some.inj h
  exact ret_ [(.bool false)] (p_one rfl (l_sc (by kernel_rfl)) p_nil)
 refine awp_condF_ q16 ?_
 refine awp_skip_ (tn_ ?_)
 refine ⟨_, Weak.refl _, ?_⟩
 refine seqR ?_
 refine awp_ret_ ?_
 obtain rfl := Option.some.inj h
 exact ret_ [(.bool true)] (p_one rfl (l_sc (by kernel_rfl)) p_nil)
def m_laws_eqGateS_l1 : AC :=
 (.seq (.seq (rg [xo 11 (qm (tm 5)), xo 12 (qm (tm 0)), xo 13 (.i (.len (tm 12))), xo 14 (qb .lss (tm 11) (tm 13))])
 (.cond (tm 14)
  .skip
  (.exit 0)))
 (.seq (.block 1 (.seq (.region [xo 17 (qm (tm 0)), xo 18 (qm (tm 5)), xo 19 (qx 4 (tm 17) (tm 18)), xo 20 (.i (.ld false 4 (tm 19))), xo 21 (qm (tm 1)), xo 22 (qm (tm 5)), xo 23 (qx 4 (tm 21) (tm 22)), xo 24 (.i (.ld false 4 (tm 23))), xo 25 (qc 48 [(tm 20), (tm 24)] [[none, none, none, none], [none, none, none, none]]), xo 26 (.i (.not (tm 25)))] true [])
 (.cond (tm 26)
  (.seq (rg [xo 4 (qm (cb false))])
  .ret)
  .skip)))
 (rg [xo 15 (qm (tm 5)), xo 16 (qb .add (tm 15) (ci 1)), xo 5 (qm (tm 16))])))
def m_laws_eqGateS : AC :=
 (.seq (rg [xo 4 (qm (cb false))])
 (.seq (.seq (rg [xo 6 (qm (tm 0)), xo 7 (.i (.len (tm 6))), xo 8 (qm (tm 1)), xo 9 (.i (.len (tm 8))), xo 10 (qb .neq (tm 7) (tm 9))])
 (.cond (tm 10)
  (.seq (rg [xo 4 (qm (cb false))])
  .ret)
  .skip))
 (.seq (.seq (rg [xo 5 (qm (ci 0))])
 (.block 0 (.loop m_laws_eqGateS_l1)))
 (.seq (rg [xo 4 (qm (cb true))])
 .ret))))
def r_laws_eqGateS : List Res := [.tmp 4]
theorem c_laws_eqGateS : compiled Tryd.prog Tryd.f23 = some (m_laws_eqGateS, r_laws_eqGateS) := by kernel_rfl
theorem hb_laws_eqGateS : hasBody Tryd.prog 23 = true := by kernel_rfl
def L_laws_eqGateS_l1 (a0 : List (Int × Int × Int × Int)) (a1 : List (Int × Int × Int × Int)) (l8_m5 : Nat) : Option (Ctl Nat (Ctl Unit Bool)) :=
 cond (decide (((l8_m5 : Nat) : Int) < ((a0.length : Nat) : Int)))
 (Option.bind (a0[l8_m5]?) fun x14 =>
 Option.bind (a1[l8_m5]?) fun x15 =>
 Option.bind (L_laws_eqGate x14.1 x14.2.1 x14.2.2.1 x14.2.2.2 x15.1 x15.2.1 x15.2.2.1 x15.2.2.2) fun y16 =>
 cond (!y16)
  (some (Ctl.out (Ctl.out false)))
  (og (l8_m5 + 1 < 4611686018427387904) <|
  some (Ctl.next (l8_m5 + 1))))
 (some (Ctl.out (Ctl.next ())))
def L_laws_eqGateS (a0 : List (Int × Int × Int × Int)) (a1 : List (Int × Int × Int × Int)) : Option Bool :=
 cond (((a0.length : Nat) : Int) != ((a1.length : Nat) : Int))
 (some false)
 (seqC (loopM (fun s_ : Nat => L_laws_eqGateS_l1 a0 a1 s_) 4611686018427387904 0) fun _ =>
 some true)
def rv_laws_eqGateS (r : Bool) : RV := ⟨false, [(false, [.sc (.bool r)])]⟩
theorem ok_laws_eqGateS {a0 : List (Int × Int × Int × Int)} {a1 : List (Int × Int × Int × Int)} {r : Bool} (h : L_laws_eqGateS a0 a1 = some r) : CallOK Tryd.prog Tab 23 [(.tree (.pair .int (.pair .int (.pair .int .int))) a0), (.tree (.pair .int (.pair .int (.pair .int .int))) a1)] (rv_laws_eqGateS r) := by
 refine call_of_ (by kernel_rfl) Tryd.func23 c_laws_eqGateS (n := 27) (by kernel_rfl) (by simp) (tl := [(0, (.tree (.pair .int (.pair .int (.pair .int .int))) a0)), (1, (.tree (.pair .int (.pair .int (.pair .int .int))) a1))]) rfl ?_
 unfold m_laws_eqGateS
 unfold L_laws_eqGateS at h
 refine seqR ?_
 refine awp_seqv_ ?_
 refine seqR ?_
 rcases cond_some h with ⟨q4, h⟩ | ⟨q4, h⟩
 ·refine awp_condT_ q4 ?_
  refine seqR ?_
  refine awp_ret_ (tr_ ?_)
  obtain rfl := Option.some.inj h
  exact ret_ [(.bool false)] (p_one rfl (l_sc (by kernel_rfl)) p_nil)
 refine awp_condF_ q4 ?_
 refine awp_skip_ (tn_ ?_)
 refine ⟨_, Weak.refl _, ?_⟩
 refine awp_seqC h (fun (_ : Unit) S_ => S_ = ⟨mkTm [], mkOb (someL []), 2⟩) ?_ ?_
 ·intro v_ h hk6
  refine seqR ?_
  refine awp_block_ ?_
  refine awp_loopL h (fun (l8_m5 : Nat) S_ => S_ = ⟨mkTm [(0, (.tree (.pair .int (.pair .int (.pair .int .int))) a0)), (1, (.tree (.pair .int (.pair .int (.pair .int .int))) a1)), (5, (ai ((l8_m5 : Nat) : Int)))], mkOb (someL []), 2⟩) ⟨_, (weak_ren []), rfl⟩ ?_
  rintro n_ l8_m5 _ c_ rfl h hn8
  (try dsimp only at h)
  unfold L_laws_eqGateS_l1 at h
  unfold m_laws_eqGateS_l1
  refine awp_seqv_ ?_
  refine seqR ?_
  rcases cond_some h with ⟨q11, h⟩ | ⟨q11, h⟩
  ·have q11_ := of_decide_eq_true q11
   refine awp_condT_ q11 ?_
   refine awp_skip_ (tn_ ?_)
   refine ⟨_, Weak.refl _, ?_⟩
   refine awp_seqv_ ?_
   refine awp_block_ ?_
   refine awp_seqv_ ?_
   obtain ⟨x14, e14, h⟩ := ob_some h
   obtain ⟨x15, e15, h⟩ := ob_some h
   obtain ⟨y16, h16, h⟩ := ob_some h
   refine awp_regionD_ 16 ?_
   refine ds0 (.tree (.pair .int (.pair .int (.pair .int .int))) a0) (by kernel_rfl) ?_
   refine ds0 (ai ((l8_m5 : Nat) : Int)) (by kernel_rfl) ?_
   refine ds0 (.telt (.pair .int (.pair .int (.pair .int .int))) x14 0) (s_idxT (t := (.pair .int (.pair .int (.pair .int .int)))) (xs := a0) (k := .i64) (m := ((l8_m5 : Nat) : Int)) (by kernel_rfl) (by kernel_rfl) rfl (nat_nn _) rfl e14) ?_
   refine ds0 (.agg [(ai x14.1), (ai x14.2.1), (ai x14.2.2.1), (ai x14.2.2.2)]) (by kernel_rfl) ?_
   refine ds0 (.tree (.pair .int (.pair .int (.pair .int .int))) a1) (by kernel_rfl) ?_
   refine ds0 (ai ((l8_m5 : Nat) : Int)) (by kernel_rfl) ?_
   refine ds0 (.telt (.pair .int (.pair .int (.pair .int .int))) x15 0) (s_idxT (t := (.pair .int (.pair .int (.pair .int .int)))) (xs := a1) (k := .i64) (m := ((l8_m5 : Nat) : Int)) (by kernel_rfl) (by kernel_rfl) rfl (nat_nn _) rfl e15) ?_
   refine ds0 (.agg [(ai x15.1), (ai x15.2.1), (ai x15.2.2.1), (ai x15.2.2.2)]) (by kernel_rfl) ?_
   refine dcall (.bool y16) [] [(.agg [(ai x14.1), (ai x14.2.1), (ai x14.2.2.1), (ai x14.2.2.2)]), (.agg [(ai x15.1), (ai x15.2.1), (ai x15.2.2.1), (ai x15.2.2.2)])] _ (caps := []) (args0 := [(.agg [(ai x14.1), (ai x14.2.1), (ai x14.2.2.1), (ai x14.2.2.2)]), (.agg [(ai x15.1), (ai x15.2.1), (ai x15.2.2.1), (ai x15.2.2.2)])]) trivial (by kernel_rfl) (ok_laws_eqGate h16) hb_laws_eqGate ?_
   refine ds0 (.bool (!y16)) (by kernel_rfl) ?_
   refine dnil (badB_spec (by kernel_rfl)) (tn_ ?_)
   refine ⟨_, Weak.refl _, ?_⟩
   rcases cond_some h with ⟨q17, h⟩ | ⟨q17, h⟩
   ·refine awp_condT_ q17 ?_
    refine seqR ?_
    refine awp_ret_ (br_ (tr_ (tr_ (br_ (tr_ ?_)))))
    obtain rfl := Option.some.inj h
    have h := hn8
    (try dsimp only at h)
    obtain rfl := Option.some.inj h
    have h := hk6
    (try dsimp only at h)
    obtain rfl := Option.some.inj h
    exact ret_ [(.bool false)] (p_one rfl (l_sc (by kernel_rfl)) p_nil)
   refine awp_condF_ q17 ?_
   refine awp_skip_ (bn_ (tn_ ?_))
   refine ⟨_, Weak.refl _, ?_⟩
   obtain ⟨g19, h⟩ := og_some h
   refine awp_region_ 19 ?_
   refine rs0 (ai ((l8_m5 : Nat) : Int)) (by kernel_rfl) ?_
   refine rs0 (ai ((l8_m5 + 1 : Nat) : Int)) (s_add1 (j := l8_m5) (by kernel_rfl) (by kernel_rfl) g19) ?_
   refine rsB 1 ?_
   refine rnil (tn_ ?_)
   obtain rfl := Option.some.inj h
   exact ⟨l8_m5 + 1, _, (weak_ren []), rfl, hn8⟩
  have q11_ := of_decide_eq_false q11
  refine awp_condF_ q11 ?_
  refine awp_exit_ (te_ (te_ (be_ (tn_ ?_))))
  obtain rfl := Option.some.inj h
  have h := hn8
  (try dsimp only at h)
  obtain rfl := Option.some.inj h
  exact ⟨(), _, rfl, (weak_ren []), rfl⟩
 rintro _ _ rfl h
 (try dsimp only at h)
 refine seqR ?_
 refine awp_ret_ ?_
 obtain rfl := Option.some.inj h
 exact ret_ [(.bool true)] (p_one rfl (l_sc (by kernel_rfl)) p_nil)
def m_laws_eqCircuit : AC :=
 (.seq (rg [xo 2 (.i (.box 34 (tm 0))), xo 3 (.i (.box 34 (tm 1))), xo 4 (qm (cb false))])
 (.seq (.seq (rg [xo 5 (qf 0 (tm 2)), xo 6 (ql (tm 5)), xo 7 (qf 0 (tm 3)), xo 8 (ql (tm 7)), xo 9 (qb .neq (tm 6) (tm 8))])
 (.cond (tm 9)
  (.seq (rg [xo 4 (qm (cb false))])
  .ret)
  .skip))
 (.seq (.seq (rg [xo 10 (qf 1 (tm 2)), xo 11 (ql (tm 10)), xo 12 (qf 1 (tm 3)), xo 13 (ql (tm 12)), ⟨(some 14), none, (qc 23 [(tm 11), (tm 13)] [[(some (.pair .int (.pair .int (.pair .int .int))))], [(some (.pair .int (.pair .int (.pair .int .int))))]])⟩, xo 15 (.i (.not (tm 14)))])
 (.cond (tm 15)
  (.seq (rg [xo 4 (qm (cb false))])
  .ret)
  .skip))
 (.seq (.seq (rg [xo 16 (qf 2 (tm 2)), xo 17 (ql (tm 16)), xo 18 (qf 2 (tm 3)), xo 19 (ql (tm 18)), xo 20 (qc 24 [(tm 17), (tm 19)] [[(some .int)], [(some .int)]]), xo 21 (.i (.not (tm 20)))])
 (.cond (tm 21)
  (.seq (rg [xo 4 (qm (cb false))])
  .ret)
  .skip))
 (.seq (rg [xo 4 (qm (cb true))])
 .ret)))))
def r_laws_eqCircuit : List Res := [.tmp 4]
theorem c_laws_eqCircuit : compiled Tryd.prog Tryd.f9 = some (m_laws_eqCircuit, r_laws_eqCircuit) := by kernel_rfl
theorem hb_laws_eqCircuit : hasBody Tryd.prog 9 = true := by kernel_rfl
def L_laws_eqCircuit (a0_0 : Int) (a0_1 : List (Int × Int × Int × Int)) (a0_2 : List Int) (a1_0 : Int) (a1_1 : List (Int × Int × Int × Int)) (a1_2 : List Int) : Option Bool :=
 cond (a0_0 != a1_0)
 (some false)
 (Option.bind (L_laws_eqGateS a0_1 a1_1) fun y8 =>
 cond (!y8)
  (some false)
  (Option.bind (L_laws_eqIntS a0_2 a1_2) fun y13 =>
  cond (!y13)
   (some false)
   (some true)))
def rv_laws_eqCircuit (r : Bool) : RV := ⟨false, [(false, [.sc (.bool r)])]⟩
theorem ok_laws_eqCircuit {a0_0 : Int} {a0_1 : List (Int × Int × Int × Int)} {a0_2 : List Int} {a1_0 : Int} {a1_1 : List (Int × Int × Int × Int)} {a1_2 : List Int} {r : Bool} (h : L_laws_eqCircuit a0_0 a0_1 a0_2 a1_0 a1_1 a1_2 = some r) : CallOK Tryd.prog Tab 9 [(.agg [(ai a0_0), (.tree (.pair .int (.pair .int (.pair .int .int))) a0_1), (.tree .int a0_2)]), (.agg [(ai a1_0), (.tree (.pair .int (.pair .int (.pair .int .int))) a1_1), (.tree .int a1_2)])] (rv_laws_eqCircuit r) := by
 refine call_of_ (by kernel_rfl) Tryd.func9 c_laws_eqCircuit (n := 22) (by kernel_rfl) (by simp) (tl := [(0, (.agg [(ai a0_0), (.tree (.pair .int (.pair .int (.pair .int .int))) a0_1), (.tree .int a0_2)])), (1, (.agg [(ai a1_0), (.tree (.pair .int (.pair .int (.pair .int .int))) a1_1), (.tree .int a1_2)]))]) rfl ?_
 unfold m_laws_eqCircuit
 unfold L_laws_eqCircuit at h
 refine seqR ?_
 refine awp_seqv_ ?_
 refine seqR ?_
 rcases cond_some h with ⟨q4, h⟩ | ⟨q4, h⟩
 ·refine awp_condT_ q4 ?_
  refine seqR ?_
  refine awp_ret_ (tr_ ?_)
  obtain rfl := Option.some.inj h
  exact ret_ [(.bool false)] (p_one rfl (l_sc (by kernel_rfl)) p_nil)
 refine awp_condF_ q4 ?_
 refine awp_skip_ (tn_ ?_)
 refine ⟨_, Weak.refl _, ?_⟩
 refine awp_seqv_ ?_
 refine awp_seqv_ ?_
 obtain ⟨y8, h8, h⟩ := ob_some h
 refine awp_region_ 15 ?_
 refine rs0 (.box (oi 2 1) 1) (by kernel_rfl) ?_
 refine rsl (.tree (.pair .int (.pair .int (.pair .int .int))) a0_1) (by kernel_rfl) ?_
 refine rs0 (.box (oi 3 2) 1) (by kernel_rfl) ?_
 refine rsl (.tree (.pair .int (.pair .int (.pair .int .int))) a1_1) (by kernel_rfl) ?_
 refine rcall (.bool y8) [] [(.tree (.pair .int (.pair .int (.pair .int .int))) a0_1), (.tree (.pair .int (.pair .int (.pair .int .int))) a1_1)] _ (caps := []) (args0 := [(.tree (.pair .int (.pair .int (.pair .int .int))) a0_1), (.tree (.pair .int (.pair .int (.pair .int .int))) a1_1)]) trivial (by kernel_rfl) (ok_laws_eqGateS h8) hb_laws_eqGateS ?_
 refine rsB 1 ?_
 refine rnil (tn_ ?_)
 refine ⟨_, Weak.refl _, ?_⟩
 rcases cond_some h with ⟨q9, h⟩ | ⟨q9, h⟩
 ·refine awp_condT_ q9 ?_
  refine seqR ?_
  refine awp_ret_ (tr_ ?_)
  obtain rfl := Option.some.inj h
  exact ret_ [(.bool false)] (p_one rfl (l_sc (by kernel_rfl)) p_nil)
 refine awp_condF_ q9 ?_
 refine awp_skip_ (tn_ ?_)
 refine ⟨_, Weak.refl _, ?_⟩
 refine awp_seqv_ ?_
 refine awp_seqv_ ?_
 obtain ⟨y13, h13, h⟩ := ob_some h
 refine awp_region_ 21 ?_
 refine rs0 (.box (oi 2 1) 2) (by kernel_rfl) ?_
 refine rsl (.tree .int a0_2) (by kernel_rfl) ?_
 refine rs0 (.box (oi 3 2) 2) (by kernel_rfl) ?_
 refine rsl (.tree .int a1_2) (by kernel_rfl) ?_
 refine rcall (.bool y13) [] [(.tree .int a0_2), (.tree .int a1_2)] _ (caps := []) (args0 := [(.tree .int a0_2), (.tree .int a1_2)]) trivial (by kernel_rfl) (ok_laws_eqIntS h13) hb_laws_eqIntS ?_
 refine rsB 1 ?_
 refine rnil (tn_ ?_)
 refine ⟨_, Weak.refl _, ?_⟩
 rcases cond_some h with ⟨q14, h⟩ | ⟨q14, h⟩
 ·refine awp_condT_ q14 ?_
  refine seqR ?_
  refine awp_ret_ (tr_ ?_)
  obtain rfl := Option.some.inj h
  exact ret_ [(.bool false)] (p_one rfl (l_sc (by kernel_rfl)) p_nil)
 refine awp_condF_ q14 ?_
 refine awp_skip_ (tn_ ?_)
 refine ⟨_, Weak.refl _, ?_⟩
 refine seqR ?_
 refine awp_ret_ ?_
 obtain rfl := Option.some.inj h
 exact ret_ [(.bool true)] (p_one rfl (l_sc (by kernel_rfl)) p_nil)
def m_laws_markGateS_l1 : AC :=
 (.seq (.seq (rg [xo 6 (qm (tm 5)), xo 7 (qm (tm 0)), xo 8 (.i (.len (tm 7))), xo 9 (qb .lss (tm 6) (tm 8))])
 (.cond (tm 9)
  .skip
  (.exit 0)))
 (.seq (.block 1 (.seq (rg [xo 12 (qm (tm 0)), xo 13 (qm (tm 5)), xo 14 (qm (tm 1)), xo 15 (qx 4 (tm 12) (tm 13)), xo 16 (qf 0 (tm 15)), xn (qs (tm 16) (tm 14))])
 (.seq (rg [xo 17 (qm (tm 1)), xo 18 (qb .add (tm 17) (ci 1)), xo 1 (qm (tm 18))])
 (.seq (rg [xo 19 (qm (tm 0)), xo 20 (qm (tm 5)), xo 21 (qm (tm 1)), xo 22 (qx 4 (tm 19) (tm 20)), xo 23 (qf 1 (tm 22)), xn (qs (tm 23) (tm 21))])
 (.seq (rg [xo 24 (qm (tm 1)), xo 25 (qb .add (tm 24) (ci 1)), xo 1 (qm (tm 25))])
 (.seq (rg [xo 26 (qm (tm 0)), xo 27 (qm (tm 5)), xo 28 (qm (tm 1)), xo 29 (qx 4 (tm 26) (tm 27)), xo 30 (qf 2 (tm 29)), xn (qs (tm 30) (tm 28))])
 (.seq (rg [xo 31 (qm (tm 1)), xo 32 (qb .add (tm 31) (ci 1)), xo 1 (qm (tm 32))])
 (.seq (rg [xo 33 (qm (tm 0)), xo 34 (qm (tm 5)), xo 35 (qm (tm 1)), xo 36 (qx 4 (tm 33) (tm 34)), xo 37 (qf 3 (tm 36)), xn (qs (tm 37) (tm 35))])
 (rg [xo 38 (qm (tm 1)), xo 39 (qb .add (tm 38) (ci 1)), xo 1 (qm (tm 39))])))))))))
 (rg [xo 10 (qm (tm 5)), xo 11 (qb .add (tm 10) (ci 1)), xo 5 (qm (tm 11))])))
def m_laws_markGateS : AC :=
 (.seq (rg [xo 4 (qm (ci 0))])
 (.seq (.seq (rg [xo 5 (qm (ci 0))])
 (.block 0 (.loop m_laws_markGateS_l1)))
 (.seq (rg [xo 40 (qm (tm 1)), xo 4 (qm (tm 40))])
 .ret)))
def r_laws_markGateS : List Res := [.tmp 4]
theorem c_laws_markGateS : compiled Tryd.prog Tryd.f25 = some (m_laws_markGateS, r_laws_markGateS) := by kernel_rfl
theorem hb_laws_markGateS : hasBody Tryd.prog 25 = true := by kernel_rfl
def L_laws_markGateS_l1  (l5_m1 : Int) (l5_m5 : Nat) (l5_m0 : List (Int × Int × Int × Int)) : Option (Ctl (Int × Nat × (List (Int × Int × Int × Int))) (Int × (List (Int × Int × Int × Int)))) :=
 cond (decide (((l5_m5 : Nat) : Int) < ((l5_m0.length : Nat) : Int)))
 (Option.bind (l5_m0[l5_m5]?) fun x11 =>
 Option.bind ((l5_m0.set l5_m5 (l5_m1, x11.2))[l5_m5]?) fun x14 =>
 Option.bind (((l5_m0.set l5_m5 (l5_m1, x11.2)).set l5_m5 (x14.1, IntKind.i64.wrap (l5_m1 + 1), x14.2.2))[l5_m5]?) fun x17 =>
 Option.bind ((((l5_m0.set l5_m5 (l5_m1, x11.2)).set l5_m5 (x14.1, IntKind.i64.wrap (l5_m1 + 1), x14.2.2)).set l5_m5 (x17.1, x17.2.1, IntKind.i64.wrap (IntKind.i64.wrap (l5_m1 + 1) + 1), x17.2.2.2))[l5_m5]?) fun x20 =>
 og (l5_m5 + 1 < 4611686018427387904) <|
 some (Ctl.next (IntKind.i64.wrap (IntKind.i64.wrap (IntKind.i64.wrap (IntKind.i64.wrap (l5_m1 + 1) + 1) + 1) + 1), l5_m5 + 1, (((l5_m0.set l5_m5 (l5_m1, x11.2)).set l5_m5 (x14.1, IntKind.i64.wrap (l5_m1 + 1), x14.2.2)).set l5_m5 (x17.1, x17.2.1, IntKind.i64.wrap (IntKind.i64.wrap (l5_m1 + 1) + 1), x17.2.2.2)).set l5_m5 (x20.1, x20.2.1, x20.2.2.1, IntKind.i64.wrap (IntKind.i64.wrap (IntKind.i64.wrap (l5_m1 + 1) + 1) + 1)))))
 (some (Ctl.out (l5_m1, l5_m0)))
def L_laws_markGateS (a0 : List (Int × Int × Int × Int)) (a1 : Int) : Option ((List (Int × Int × Int × Int)) × Int) :=
 Option.bind (loopM (fun s_ : Int × Nat × (List (Int × Int × Int × Int)) => L_laws_markGateS_l1 s_.1 s_.2.1 s_.2.2) 4611686018427387904 (a1, 0, a0)) fun (l3_m1, l3_p0) =>
some (l3_p0, l3_m1)
theorem ok_laws_markGateS {a0 : List (Int × Int × Int × Int)} {a1 : Int} {r : (List (Int × Int × Int × Int)) × Int} (h : L_laws_markGateS a0 a1 = some r) {n_a0 : Nat} (hn_a0 : n_a0 = a0.length) : CallM Tryd.prog Tab 25 [(.own (oi 0 0) (.pair .int (.pair .int (.pair .int .int))) 0 n_a0), (ai a1)] [((oi 0 0), .arr 57 (.pair .int (.pair .int (.pair .int .int))) a0)] (ai r.2) [((oi 0 0), .arr 57 (.pair .int (.pair .int (.pair .int .int))) r.1)] := by
 refine callM_of_ (by kernel_rfl) Tryd.func25 c_laws_markGateS (n := 41) (by kernel_rfl) (by simp) (tl := [(0, (.own (oi 0 0) (.pair .int (.pair .int (.pair .int .int))) 0 n_a0)), (1, (ai a1))]) rfl (by kernel_rfl) ⟨trivial, trivial⟩ ⟨trivial, trivial⟩ ?_
 unfold m_laws_markGateS
 unfold L_laws_markGateS at h
 refine seqR ?_
 refine awp_seqB h (fun t_ S_ => ∃ (l3_m1 : Int), ∃ (l3_p0 : List (Int × Int × Int × Int)), t_ = (l3_m1, l3_p0) ∧ S_ = ⟨mkTm [(1, (ai l3_m1))], mkOb (someL [((oi 0 0), .arr 57 (.pair .int (.pair .int (.pair .int .int))) l3_p0)]), 2⟩) ?_ ?_
 ·intro v_ h
  refine seqR ?_
  refine awp_block_ ?_
  refine awp_loopL h (fun t_ S_ => ∃ (l5_m1 : Int), ∃ (l5_m5 : Nat), ∃ (l5_m0 : List (Int × Int × Int × Int)), t_ = (l5_m1, l5_m5, l5_m0) ∧ S_ = ⟨mkTm [(0, (.own (oi 0 0) (.pair .int (.pair .int (.pair .int .int))) 0 l5_m0.length)), (1, (ai l5_m1)), (5, (ai ((l5_m5 : Nat) : Int)))], mkOb (someL [((oi 0 0), .arr 57 (.pair .int (.pair .int (.pair .int .int))) l5_m0)]), 2⟩) ⟨_, ((weak_tm_ 0 (.own (oi 0 0) (.pair .int (.pair .int (.pair .int .int))) 0 n_a0) (.own (oi 0 0) (.pair .int (.pair .int (.pair .int .int))) 0 a0.length) (by kernel_rfl) (congrArg (fun z_ => ((.own (oi 0 0) (.pair .int (.pair .int (.pair .int .int))) 0 z_) : AV)) (hn_a0 : n_a0 = a0.length))).trans (weak_ren [])), ⟨a1, 0, a0, rfl, rfl⟩⟩ ?_
  rintro n_ _ _ c_ ⟨l5_m1, l5_m5, l5_m0, rfl, rfl⟩ h hn5
  (try dsimp only at h)
  unfold L_laws_markGateS_l1 at h
  unfold m_laws_markGateS_l1
  refine awp_seqv_ ?_
  refine seqR ?_
  rcases cond_some h with ⟨q8, h⟩ | ⟨q8, h⟩
  ·have q8_ := of_decide_eq_true q8
   refine awp_condT_ q8 ?_
   refine awp_skip_ (tn_ ?_)
   refine ⟨_, Weak.refl _, ?_⟩
   refine awp_seqv_ ?_
   refine awp_block_ ?_
   refine awp_seqv_ ?_
   obtain ⟨x11, e11, h⟩ := ob_some h
   refine awp_region_ 12 ?_
   refine rs0 (.own (oi 0 0) (.pair .int (.pair .int (.pair .int .int))) 0 l5_m0.length) (by kernel_rfl) ?_
   refine rs0 (ai ((l5_m5 : Nat) : Int)) (by kernel_rfl) ?_
   refine rs0 (ai l5_m1) (by kernel_rfl) ?_
   refine rs0 (.elt (oi 0 0) l5_m5 0) (s_idxO (t := (.pair .int (.pair .int (.pair .int .int)))) (o := (oi 0 0)) (len := l5_m0.length) (k := .i64) (m := ((l5_m5 : Nat) : Int)) (by kernel_rfl) (by kernel_rfl) rfl (nat_nn _) rfl (getN_lt e11)) ?_
   refine rs0 (.elt (oi 0 0) l5_m5 0) (by kernel_rfl) ?_
   refine rsn2 (oi 0 0) (oi 0 0) (.arr 57 (.pair .int (.pair .int (.pair .int .int))) (l5_m0.set l5_m5 (l5_m1, x11.2))) (s_stE (i := (oi 0 0)) (j := l5_m5) (k := 0) (e := 57) (t := (.pair .int (.pair .int (.pair .int .int)))) (xs := l5_m0) (cs := [(ai l5_m1), (ai x11.2.1), (ai x11.2.2.1), (ai x11.2.2.2)]) (x1 := (l5_m1, x11.2)) (by kernel_rfl) (by kernel_rfl) e11 (by kernel_rfl) (by kernel_rfl)) ?_
   refine rnil (tn_ ?_)
   refine ⟨_, Weak.refl _, ?_⟩
   refine seqR ?_
   refine awp_seqv_ ?_
   obtain ⟨x14, e14, h⟩ := ob_some h
   refine awp_region_ 21 ?_
   refine rs0 (.own (oi 0 0) (.pair .int (.pair .int (.pair .int .int))) 0 l5_m0.length) (by kernel_rfl) ?_
   refine rs0 (ai ((l5_m5 : Nat) : Int)) (by kernel_rfl) ?_
   refine rs0 (ai (IntKind.i64.wrap (l5_m1 + 1))) (by kernel_rfl) ?_
   refine rs0 (.elt (oi 0 0) l5_m5 0) (s_idxO (t := (.pair .int (.pair .int (.pair .int .int)))) (o := (oi 0 0)) (len := l5_m0.length) (k := .i64) (m := ((l5_m5 : Nat) : Int)) (by kernel_rfl) (by kernel_rfl) rfl (nat_nn _) rfl (Nat.lt_of_lt_of_le (getN_lt e14) (Nat.le_of_eq (Eq.symm ((rfl : l5_m0.length = l5_m0.length).trans List.length_set.symm))))) ?_
   refine rs0 (.elt (oi 0 0) l5_m5 1) (by kernel_rfl) ?_
   refine rsn2 (oi 0 0) (oi 0 0) (.arr 57 (.pair .int (.pair .int (.pair .int .int))) ((l5_m0.set l5_m5 (l5_m1, x11.2)).set l5_m5 (x14.1, IntKind.i64.wrap (l5_m1 + 1), x14.2.2))) (s_stE (i := (oi 0 0)) (j := l5_m5) (k := 1) (e := 57) (t := (.pair .int (.pair .int (.pair .int .int)))) (xs := l5_m0.set l5_m5 (l5_m1, x11.2)) (cs := [(ai x14.1), (ai (IntKind.i64.wrap (l5_m1 + 1))), (ai x14.2.2.1), (ai x14.2.2.2)]) (x1 := (x14.1, IntKind.i64.wrap (l5_m1 + 1), x14.2.2)) (by kernel_rfl) (by kernel_rfl) e14 (by kernel_rfl) (by kernel_rfl)) ?_
   refine rnil (tn_ ?_)
   refine ⟨_, Weak.refl _, ?_⟩
   refine seqR ?_
   refine awp_seqv_ ?_
   obtain ⟨x17, e17, h⟩ := ob_some h
   refine awp_region_ 30 ?_
   refine rs0 (.own (oi 0 0) (.pair .int (.pair .int (.pair .int .int))) 0 l5_m0.length) (by kernel_rfl) ?_
   refine rs0 (ai ((l5_m5 : Nat) : Int)) (by kernel_rfl) ?_
   refine rs0 (ai (IntKind.i64.wrap (IntKind.i64.wrap (l5_m1 + 1) + 1))) (by kernel_rfl) ?_
   refine rs0 (.elt (oi 0 0) l5_m5 0) (s_idxO (t := (.pair .int (.pair .int (.pair .int .int)))) (o := (oi 0 0)) (len := l5_m0.length) (k := .i64) (m := ((l5_m5 : Nat) : Int)) (by kernel_rfl) (by kernel_rfl) rfl (nat_nn _) rfl (Nat.lt_of_lt_of_le (getN_lt e17) (Nat.le_of_eq (Eq.symm (((rfl : l5_m0.length = l5_m0.length).trans List.length_set.symm).trans List.length_set.symm))))) ?_
   refine rs0 (.elt (oi 0 0) l5_m5 2) (by kernel_rfl) ?_
   refine rsn2 (oi 0 0) (oi 0 0) (.arr 57 (.pair .int (.pair .int (.pair .int .int))) (((l5_m0.set l5_m5 (l5_m1, x11.2)).set l5_m5 (x14.1, IntKind.i64.wrap (l5_m1 + 1), x14.2.2)).set l5_m5 (x17.1, x17.2.1, IntKind.i64.wrap (IntKind.i64.wrap (l5_m1 + 1) + 1), x17.2.2.2))) (s_stE (i := (oi 0 0)) (j := l5_m5) (k := 2) (e := 57) (t := (.pair .int (.pair .int (.pair .int .int)))) (xs := (l5_m0.set l5_m5 (l5_m1, x11.2)).set l5_m5 (x14.1, IntKind.i64.wrap (l5_m1 + 1), x14.2.2)) (cs := [(ai x17.1), (ai x17.2.1), (ai (IntKind.i64.wrap (IntKind.i64.wrap (l5_m1 + 1) + 1))), (ai x17.2.2.2)]) (x1 := (x17.1, x17.2.1, IntKind.i64.wrap (IntKind.i64.wrap (l5_m1 + 1) + 1), x17.2.2.2)) (by kernel_rfl) (by kernel_rfl) e17 (by kernel_rfl) (by kernel_rfl)) ?_
   refine rnil (tn_ ?_)
   refine ⟨_, Weak.refl _, ?_⟩
   refine seqR ?_
   refine awp_seqv_ ?_
   obtain ⟨x20, e20, h⟩ := ob_some h
   refine awp_region_ 39 ?_
   refine rs0 (.own (oi 0 0) (.pair .int (.pair .int (.pair .int .int))) 0 l5_m0.length) (by kernel_rfl) ?_
   refine rs0 (ai ((l5_m5 : Nat) : Int)) (by kernel_rfl) ?_
   refine rs0 (ai (IntKind.i64.wrap (IntKind.i64.wrap (IntKind.i64.wrap (l5_m1 + 1) + 1) + 1))) (by kernel_rfl) ?_
   refine rs0 (.elt (oi 0 0) l5_m5 0) (s_idxO (t := (.pair .int (.pair .int (.pair .int .int)))) (o := (oi 0 0)) (len := l5_m0.length) (k := .i64) (m := ((l5_m5 : Nat) : Int)) (by kernel_rfl) (by kernel_rfl) rfl (nat_nn _) rfl (Nat.lt_of_lt_of_le (getN_lt e20) (Nat.le_of_eq (Eq.symm ((((rfl : l5_m0.length = l5_m0.length).trans List.length_set.symm).trans List.length_set.symm).trans List.length_set.symm))))) ?_
   refine rs0 (.elt (oi 0 0) l5_m5 3) (by kernel_rfl) ?_
   refine rsn2 (oi 0 0) (oi 0 0) (.arr 57 (.pair .int (.pair .int (.pair .int .int))) ((((l5_m0.set l5_m5 (l5_m1, x11.2)).set l5_m5 (x14.1, IntKind.i64.wrap (l5_m1 + 1), x14.2.2)).set l5_m5 (x17.1, x17.2.1, IntKind.i64.wrap (IntKind.i64.wrap (l5_m1 + 1) + 1), x17.2.2.2)).set l5_m5 (x20.1, x20.2.1, x20.2.2.1, IntKind.i64.wrap (IntKind.i64.wrap (IntKind.i64.wrap (l5_m1 + 1) + 1) + 1)))) (s_stE (i := (oi 0 0)) (j := l5_m5) (k := 3) (e := 57) (t := (.pair .int (.pair .int (.pair .int .int)))) (xs := ((l5_m0.set l5_m5 (l5_m1, x11.2)).set l5_m5 (x14.1, IntKind.i64.wrap (l5_m1 + 1), x14.2.2)).set l5_m5 (x17.1, x17.2.1, IntKind.i64.wrap (IntKind.i64.wrap (l5_m1 + 1) + 1), x17.2.2.2)) (cs := [(ai x20.1), (ai x20.2.1), (ai x20.2.2.1), (ai (IntKind.i64.wrap (IntKind.i64.wrap (IntKind.i64.wrap (l5_m1 + 1) + 1) + 1)))]) (x1 := (x20.1, x20.2.1, x20.2.2.1, IntKind.i64.wrap (IntKind.i64.wrap (IntKind.i64.wrap (l5_m1 + 1) + 1) + 1))) (by kernel_rfl) (by kernel_rfl) e20 (by kernel_rfl) (by kernel_rfl)) ?_
   refine rnil (tn_ ?_)
   refine ⟨_, Weak.refl _, ?_⟩
   refine awp_region_ 42 ?_
   refine rsB 3 ?_
   refine rnil (bn_ (tn_ ?_))
   refine ⟨_, Weak.refl _, ?_⟩
   obtain ⟨g21, h⟩ := og_some h
   refine awp_region_ 45 ?_
   refine rs0 (ai ((l5_m5 : Nat) : Int)) (by kernel_rfl) ?_
   refine rs0 (ai ((l5_m5 + 1 : Nat) : Int)) (s_add1 (j := l5_m5) (by kernel_rfl) (by kernel_rfl) g21) ?_
   refine rsB 1 ?_
   refine rnil (tn_ ?_)
   obtain rfl := Option.some.inj h
   exact ⟨(IntKind.i64.wrap (IntKind.i64.wrap (IntKind.i64.wrap (IntKind.i64.wrap (l5_m1 + 1) + 1) + 1) + 1), l5_m5 + 1, (((l5_m0.set l5_m5 (l5_m1, x11.2)).set l5_m5 (x14.1, IntKind.i64.wrap (l5_m1 + 1), x14.2.2)).set l5_m5 (x17.1, x17.2.1, IntKind.i64.wrap (IntKind.i64.wrap (l5_m1 + 1) + 1), x17.2.2.2)).set l5_m5 (x20.1, x20.2.1, x20.2.2.1, IntKind.i64.wrap (IntKind.i64.wrap (IntKind.i64.wrap (l5_m1 + 1) + 1) + 1))), _, ((weak_tm_ 0 (.own (oi 0 0) (.pair .int (.pair .int (.pair .int .int))) 0 l5_m0.length) (.own (oi 0 0) (.pair .int (.pair .int (.pair .int .int))) 0 (((((l5_m0.set l5_m5 (l5_m1, x11.2)).set l5_m5 (x14.1, IntKind.i64.wrap (l5_m1 + 1), x14.2.2)).set l5_m5 (x17.1, x17.2.1, IntKind.i64.wrap (IntKind.i64.wrap (l5_m1 + 1) + 1), x17.2.2.2)).set l5_m5 (x20.1, x20.2.1, x20.2.2.1, IntKind.i64.wrap (IntKind.i64.wrap (IntKind.i64.wrap (l5_m1 + 1) + 1) + 1))).length)) (by kernel_rfl) (congrArg (fun z_ => ((.own (oi 0 0) (.pair .int (.pair .int (.pair .int .int))) 0 z_) : AV)) ((((((rfl : l5_m0.length = l5_m0.length).trans List.length_set.symm).trans List.length_set.symm).trans List.length_set.symm).trans List.length_set.symm) : l5_m0.length = ((((l5_m0.set l5_m5 (l5_m1, x11.2)).set l5_m5 (x14.1, IntKind.i64.wrap (l5_m1 + 1), x14.2.2)).set l5_m5 (x17.1, x17.2.1, IntKind.i64.wrap (IntKind.i64.wrap (l5_m1 + 1) + 1), x17.2.2.2)).set l5_m5 (x20.1, x20.2.1, x20.2.2.1, IntKind.i64.wrap (IntKind.i64.wrap (IntKind.i64.wrap (l5_m1 + 1) + 1) + 1))).length))).trans (weak_ren [])), ⟨IntKind.i64.wrap (IntKind.i64.wrap (IntKind.i64.wrap (IntKind.i64.wrap (l5_m1 + 1) + 1) + 1) + 1), l5_m5 + 1, (((l5_m0.set l5_m5 (l5_m1, x11.2)).set l5_m5 (x14.1, IntKind.i64.wrap (l5_m1 + 1), x14.2.2)).set l5_m5 (x17.1, x17.2.1, IntKind.i64.wrap (IntKind.i64.wrap (l5_m1 + 1) + 1), x17.2.2.2)).set l5_m5 (x20.1, x20.2.1, x20.2.2.1, IntKind.i64.wrap (IntKind.i64.wrap (IntKind.i64.wrap (l5_m1 + 1) + 1) + 1)), rfl, rfl⟩, hn5⟩
  have q8_ := of_decide_eq_false q8
  refine awp_condF_ q8 ?_
  refine awp_exit_ (te_ (te_ (be_ (tn_ ?_))))
  obtain rfl := Option.some.inj h
  have h := hn5
  (try dsimp only at h)
  obtain rfl := Option.some.inj h
  exact ⟨_, (weak_ren []), ⟨l5_m1, l5_m0, rfl, rfl⟩⟩
 rintro _ _ ⟨l3_m1, l3_p0, rfl, rfl⟩ h
 (try dsimp only at h)
 refine seqR ?_
 refine awp_ret_ ?_
 obtain rfl := Option.some.inj h
 exact retM_ [(ai l3_m1)] (weak_ren (tl := [(4, (ai l3_m1))]) (g := 2) [])
def m_laws_markCircuit : AC :=
 (.seq (rg [xo 2 (.i (.box 34 (tm 0))), xo 4 (qm (ci 0))])
 (.seq (rg [xo 5 (qf 1 (tm 2)), xo 6 (ql (tm 5)), xo 7 (qm (tm 1)), ⟨(some 8), none, (qc 25 [(tm 6), (tm 7)] [[(some (.pair .int (.pair .int (.pair .int .int))))], []])⟩, xo 1 (qm (tm 8))])
 (.seq (rg [xo 9 (qf 2 (tm 2)), xo 10 (ql (tm 9)), xo 11 (qm (tm 1)), xo 12 (qc 26 [(tm 10), (tm 11)] [[(some .int)], []]), xo 1 (qm (tm 12))])
 (.seq (rg [xo 13 (qm (tm 1)), xo 4 (qm (tm 13))])
 .ret))))
def r_laws_markCircuit : List Res := [.tmp 4]
theorem c_laws_markCircuit : compiled Tryd.prog Tryd.f10 = some (m_laws_markCircuit, r_laws_markCircuit) := by kernel_rfl
theorem hb_laws_markCircuit : hasBody Tryd.prog 10 = true := by kernel_rfl
def L_laws_markCircuit (a0_0 : Int) (a0_1 : List (Int × Int × Int × Int)) (a0_2 : List Int) (a1 : Int) : Option ((List (Int × Int × Int × Int)) × List Int × Int) :=
 Option.bind (L_laws_markGateS a0_1 a1) fun y4 =>
og (y4.1.length = (a0_1.length)) <|
Option.bind (L_laws_markIntS a0_2 y4.2) fun y7 =>
og (y7.1.length = (a0_2.length)) <|
some (y4.1, y7.1, y7.2)
theorem ok_laws_markCircuit {a0_0 : Int} {a0_1 : List (Int × Int × Int × Int)} {a0_2 : List Int} {a1 : Int} {r : (List (Int × Int × Int × Int)) × List Int × Int} (h : L_laws_markCircuit a0_0 a0_1 a0_2 a1 = some r) {n_a0_1 : Nat} (hn_a0_1 : n_a0_1 = a0_1.length) {n_a0_2 : Nat} (hn_a0_2 : n_a0_2 = a0_2.length) : CallM Tryd.prog Tab 10 [(.agg [(ai a0_0), (.own (oi 0 0) (.pair .int (.pair .int (.pair .int .int))) 0 n_a0_1), (.own (oi 1 0) .int 0 n_a0_2)]), (ai a1)] [((oi 0 0), .arr 57 (.pair .int (.pair .int (.pair .int .int))) a0_1), ((oi 1 0), .arr 3 .int a0_2)] (ai r.2.2) [((oi 0 0), .arr 57 (.pair .int (.pair .int (.pair .int .int))) r.1), ((oi 1 0), .arr 3 .int r.2.1)] := by
 refine callM_of_ (by kernel_rfl) Tryd.func10 c_laws_markCircuit (n := 14) (by kernel_rfl) (by simp) (tl := [(0, (.agg [(ai a0_0), (.own (oi 0 0) (.pair .int (.pair .int (.pair .int .int))) 0 n_a0_1), (.own (oi 1 0) .int 0 n_a0_2)])), (1, (ai a1))]) rfl (by kernel_rfl) ⟨trivial, ⟨trivial, trivial⟩⟩ ⟨trivial, ⟨trivial, trivial⟩⟩ ?_
 unfold m_laws_markCircuit
 unfold L_laws_markCircuit at h
 (try rw [← hn_a0_1] at h)
 (try rw [← hn_a0_2] at h)
 refine seqR ?_
 refine awp_seqv_ ?_
 obtain ⟨y4, h4, h⟩ := ob_some h
 obtain ⟨g5, h⟩ := og_some h
 refine awp_region_ 8 ?_
 refine rs0 (.box (oi 2 1) 1) (by kernel_rfl) ?_
 refine rsl (.own (oi 0 0) (.pair .int (.pair .int (.pair .int .int))) 0 n_a0_1) (by kernel_rfl) ?_
 refine rs0 (ai a1) (by kernel_rfl) ?_
 refine rcallM (ai y4.2) [((oi 0 0), some (.arr 57 (.pair .int (.pair .int (.pair .int .int))) y4.1)), ((oi 0 0), none)] [] [(.own (oi 0 0) (.pair .int (.pair .int (.pair .int .int))) 0 n_a0_1), (ai a1)] (caps := []) trivial (ok_laws_markGateS h4 hn_a0_1) hb_laws_markGateS ⟨(by kernel_rfl), trivial⟩ (.cons (.ren (by kernel_rfl)) (.cons (.ren (by kernel_rfl)) .nil)) (reachL_mem (by kernel_rfl) (by kernel_rfl) ⟨(re_arg (by kernel_rfl)), trivial⟩) ?_
 refine rsB 1 ?_
 refine rnil (tn_ ?_)
 refine ⟨_, Weak.refl _, ?_⟩
 refine awp_seqv_ ?_
 obtain ⟨y7, h7, h⟩ := ob_some h
 obtain ⟨g8, h⟩ := og_some h
 refine awp_region_ 13 ?_
 refine rs0 (.box (oi 2 1) 2) (by kernel_rfl) ?_
 refine rsl (.own (oi 1 0) .int 0 n_a0_2) (by kernel_rfl) ?_
 refine rs0 (ai y4.2) (by kernel_rfl) ?_
 refine rcallM (ai y7.2) [((oi 1 0), some (.arr 3 .int y7.1)), ((oi 1 0), none)] [((oi 0 0), (oi 1 0))] [(.own (oi 1 0) .int 0 n_a0_2), (ai y4.2)] (caps := []) trivial (ok_laws_markIntS h7 hn_a0_2) hb_laws_markIntS ⟨(by kernel_rfl), trivial⟩ (.cons (.ren (by kernel_rfl)) (.cons (.ren (by kernel_rfl)) .nil)) (reachL_mem (by kernel_rfl) (by kernel_rfl) ⟨(re_arg (by kernel_rfl)), trivial⟩) ?_
 refine rsB 1 ?_
 refine rnil (tn_ ?_)
 refine ⟨_, Weak.refl _, ?_⟩
 refine seqR ?_
 refine awp_ret_ ?_
 obtain rfl := Option.some.inj h
 exact retM_ [(ai y7.2)] (weak_ren (tl := [(4, (ai y7.2))]) (g := 2) [])
end Go.Proofs.YtbgfolfhknnlgaaDoor
