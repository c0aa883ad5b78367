/- Lemmas on the program and on partial functions that stand in place of its code (part 5); no condition beyond those that each one states. -/
import Derived.Test.YtedphkkbjpcjeaaDoorZ4
namespace Go.Proofs.YtedphkkbjpcjeaaDoor
open Go.RowKit Go.Deep
set_option maxRecDepth 4000
def m_laws_szIntS : AC :=
 (.seq (rg [xo 4 (qm (ci 0))])
 (.seq (rg [xo 5 (qm (tm 1)), xo 6 (qm (tm 0)), xo 7 (.i (.len (tm 6))), xo 8 (qb .sub (tm 5) (tm 7)), xo 1 (qm (tm 8))])
 (.seq (.seq (rg [xo 9 (qm (tm 1)), xo 10 (qb .lss (tm 9) (ci 0))])
 (.cond (tm 10)
  (.seq (rg [xo 4 (qm (ci (-1)))])
  .ret)
  .skip))
 (.seq (rg [xo 11 (qm (tm 1)), xo 4 (qm (tm 11))])
 .ret))))
def r_laws_szIntS : List Res := [.tmp 4]
theorem c_laws_szIntS : compiled Tryd.prog Tryd.f60 = some (m_laws_szIntS, r_laws_szIntS) := by kernel_rfl
def L_laws_szIntS (a0 : List Int) (a1 : Int) : Option Int :=
 cond (decide (IntKind.i64.wrap (a1 - ((a0.length : Nat) : Int)) < 0))
 (some (-1))
 (some (IntKind.i64.wrap (a1 - ((a0.length : Nat) : Int))))
def rv_laws_szIntS (r : Int) : RV := ⟨false, [(false, [.sc (.int .i64 r)])]⟩
theorem ok_laws_szIntS {a0 : List Int} {a1 : Int} {r : Int} (h : L_laws_szIntS a0 a1 = some r) : CallOK Tryd.prog Tab 60 [(.tree .int a0), (ai a1)] (rv_laws_szIntS r) := by
 refine call_of_ (by kernel_rfl) Tryd.func60 c_laws_szIntS (n := 12) (by kernel_rfl) (by simp) (tl := [(0, (.tree .int a0)), (1, (ai a1))]) rfl ?_
 unfold m_laws_szIntS
 unfold L_laws_szIntS at h
 refine seqR ?_
 refine seqR ?_
 refine awp_seqv_ ?_
 refine seqR ?_
 rcases cond_some h with ⟨q5, h⟩ | ⟨q5, h⟩
 ·have q5_ := of_decide_eq_true q5
  refine awp_condT_ q5 ?_
  refine seqR ?_
  refine awp_ret_ (tr_ ?_)
  obtain rfl := zj h
  exact ret_ [(ai (-1))] (p_one rfl zl p_nil)
 have q5_ := of_decide_eq_false q5
 refine awp_condF_ q5 ?_
 refine awp_skip_ (tn_ ?_)
 refine wr_ ?_
 refine seqR ?_
 refine awp_ret_ ?_
 obtain rfl := zj h
 exact ret_ [(ai (IntKind.i64.wrap (a1 - ((a0.length : Nat) : Int))))] (p_one rfl zl p_nil)
def m_laws_toIntS_l1 : AC :=
 (.seq (.seq (rg [xo 8 (qm (tm 4)), xo 9 (qm (tm 0)), xo 10 (.i (.len (tm 9))), xo 11 (qb .lss (tm 8) (tm 10))])
 (.cond (tm 11)
  .skip
  (.exit 0)))
 (.seq (.block 1 (rg [xo 14 (qm (tm 3)), xo 15 (qm (tm 4)), xo 16 (qm (tm 0)), xo 17 (qm (tm 4)), xo 18 (qx 1 (tm 16) (tm 17)), xo 19 (ql (tm 18)), xo 20 (qx 1 (tm 14) (tm 15)), xn (qs (tm 20) (tm 19))]))
 (rg [xo 12 (qm (tm 4)), xo 13 (qb .add (tm 12) (ci 1)), xo 4 (qm (tm 13))])))
def m_laws_toIntS : AC :=
 (.seq (rg [xo 2 (qm (.cst .nils))])
 (.seq (rg [xo 5 (qm (tm 0)), xo 6 (.i (.len (tm 5))), xo 7 (.make 3 .int 8 (tm 6) (tm 6)), xo 3 (qm (tm 7))])
 (.seq (.seq (rg [xo 4 (qm (ci 0))])
 (.block 0 (.loop m_laws_toIntS_l1)))
 (.seq (rg [xo 21 (qm (tm 3)), xo 2 (qm (tm 21))])
 .ret))))
def r_laws_toIntS : List Res := [.tmp 2]
theorem c_laws_toIntS : compiled Tryd.prog Tryd.f22 = some (m_laws_toIntS, r_laws_toIntS) := by kernel_rfl
def L_laws_toIntS_l1 (a0 : List Int) (l6_m4 : Nat) (l6_m3 : List Int) : Option (Ctl (Nat × List Int) (List Int)) :=
 cond (decide (((l6_m4 : Nat) : Int) < ((a0.length : Nat) : Int)))
 (Option.bind (a0[l6_m4]?) fun x11 =>
 Option.bind (l6_m3[l6_m4]?) fun x12 =>
 og (l6_m4 + 1 < 4611686018427387904) <|
 some (Ctl.next (l6_m4 + 1, l6_m3.set l6_m4 x11)))
 (some (Ctl.out l6_m3))
def L_laws_toIntS (a0 : List Int) : Option (List Int) :=
 og (0 <= ((a0.length : Nat) : Int) ∧ ((a0.length : Nat) : Int) <= ((a0.length : Nat) : Int) ∧ ((a0.length : Nat) : Int) <= 1073741824 ∧ (8 : Int) * ((a0.length : Nat) : Int) <= 140737488355328) <|
Option.bind (loopM (fun s_ : Nat × List Int => L_laws_toIntS_l1 a0 s_.1 s_.2) 4611686018427387904 (0, List.replicate a0.length (0 : Int))) fun l4_m3 =>
some l4_m3
def rv_laws_toIntS (r : List Int) : RV := ⟨false, [(false, [.new 3 .int r])]⟩
theorem ok_laws_toIntS {a0 : List Int} {r : List Int} (h : L_laws_toIntS a0 = some r) : CallOK Tryd.prog Tab 22 [(.tree .int a0)] (rv_laws_toIntS r) := by
 refine call_of_ (by kernel_rfl) Tryd.func22 c_laws_toIntS (n := 22) (by kernel_rfl) (by simp) (tl := [(0, (.tree .int a0))]) rfl ?_
 unfold m_laws_toIntS
 unfold L_laws_toIntS at h
 refine seqR ?_
 refine awp_seqv_ ?_
 obtain ⟨g3, h⟩ := og_some h
 refine awp_region_ 6 ?_
 refine rz0 (.tree .int a0) ?_
 refine rz0 (ai ((a0.length : Nat) : Int)) ?_
 refine rs1 (.own (oi 7 4) .int 0 a0.length) (oi 7 4) (.arr 3 .int (List.replicate a0.length (0 : Int))) (s_make (t := .int) (k := .i64) (k' := .i64) (m := ((a0.length : Nat) : Int)) (m' := ((a0.length : Nat) : Int)) (by kernel_rfl) (by kernel_rfl) g3 rfl) ?_
 refine rsB 1 ?_
 refine rnil (tn_ ?_)
 refine wr_ ?_
 refine awp_seqB h (fun (l4_m3 : List Int) S_ => S_ = ⟨mkTm [(3, (.own (oi 0 1) .int 0 l4_m3.length))], mkOb (someL [((oi 0 1), .arr 3 .int l4_m3)]), 2⟩) ?_ ?_
 ·intro v_ h
  refine seqR ?_
  refine awp_block_ ?_
  refine awp_loopL h (fun t_ S_ => ∃ (l6_m4 : Nat), ∃ (l6_m3 : List Int), t_ = (l6_m4, l6_m3) ∧ S_ = ⟨mkTm [(0, (.tree .int a0)), (3, (.own (oi 0 1) .int 0 l6_m3.length)), (4, (ai ((l6_m4 : Nat) : Int)))], mkOb (someL [((oi 0 1), .arr 3 .int l6_m3)]), 2⟩) ⟨_, ((weak_tm_ 3 (.own (oi 7 4) .int 0 a0.length) (.own (oi 7 4) .int 0 ((List.replicate a0.length (0 : Int)).length)) (by kernel_rfl) (congrArg (fun z_ => ((.own (oi 7 4) .int 0 z_) : AV)) (List.length_replicate.symm : a0.length = (List.replicate a0.length (0 : Int)).length))).trans (weak_ren [((oi 0 1), (oi 7 4))])), ⟨0, List.replicate a0.length (0 : Int), rfl, rfl⟩⟩ ?_
  rintro n_ _ _ c_ ⟨l6_m4, l6_m3, rfl, rfl⟩ h hn6
  (try dsimp only at h)
  unfold L_laws_toIntS_l1 at h
  unfold m_laws_toIntS_l1
  refine awp_seqv_ ?_
  refine seqR ?_
  rcases cond_some h with ⟨q9, h⟩ | ⟨q9, h⟩
  ·have q9_ := of_decide_eq_true q9
   refine awp_condT_ q9 ?_
   refine awp_skip_ (tn_ ?_)
   refine wr_ ?_
   refine awp_seqv_ ?_
   refine awp_block_ ?_
   obtain ⟨x11, e11, h⟩ := ob_some h
   obtain ⟨x12, e12, h⟩ := ob_some h
   refine awp_region_ 14 ?_
   refine rz0 (.own (oi 0 1) .int 0 l6_m3.length) ?_
   refine rz0 (ai ((l6_m4 : Nat) : Int)) ?_
   refine rz0 (.tree .int a0) ?_
   refine rz0 (ai ((l6_m4 : Nat) : Int)) ?_
   refine rs0 (.telt .int x11 0) (zi (t := .int) (xs := a0) (k := .i64) (m := ((l6_m4 : Nat) : Int)) (nat_nn _) e11) ?_
   refine rz0 (ai x11) ?_
   refine rs0 (.elt (oi 0 1) l6_m4 0) (zo (t := .int) (o := (oi 0 1)) (len := l6_m3.length) (k := .i64) (m := ((l6_m4 : Nat) : Int)) (nat_nn _) (getN_lt e12)) ?_
   refine rsn2 (oi 0 1) (oi 0 1) (.arr 3 .int (l6_m3.set l6_m4 x11)) (s_stE (i := (oi 0 1)) (j := l6_m4) (k := 0) (e := 3) (t := .int) (xs := l6_m3) (cs := [(ai x11)]) (x1 := x11) (by kernel_rfl) (by kernel_rfl) e12 (by kernel_rfl) (by kernel_rfl)) ?_
   refine rnil (bn_ (tn_ ?_))
   refine wr_ ?_
   obtain ⟨g13, h⟩ := og_some h
   refine awp_region_ 17 ?_
   refine rz0 (ai ((l6_m4 : Nat) : Int)) ?_
   refine rs0 (ai ((l6_m4 + 1 : Nat) : Int)) (za g13) ?_
   refine rsB 1 ?_
   refine rnil (tn_ ?_)
   obtain rfl := zj h
   exact ⟨(l6_m4 + 1, l6_m3.set l6_m4 x11), _, ((weak_tm_ 3 (.own (oi 0 1) .int 0 l6_m3.length) (.own (oi 0 1) .int 0 ((l6_m3.set l6_m4 x11).length)) (by kernel_rfl) (congrArg (fun z_ => ((.own (oi 0 1) .int 0 z_) : AV)) (((rfl : l6_m3.length = l6_m3.length).trans List.length_set.symm) : l6_m3.length = (l6_m3.set l6_m4 x11).length))).trans (weak_ren [])), ⟨l6_m4 + 1, l6_m3.set l6_m4 x11, rfl, rfl⟩, hn6⟩
  have q9_ := of_decide_eq_false q9
  refine awp_condF_ q9 ?_
  refine awp_exit_ (te_ (te_ (be_ (tn_ ?_))))
  obtain rfl := zj h
  have h := hn6
  (try dsimp only at h)
  obtain rfl := zj h
  exact ⟨_, (weak_ren []), rfl⟩
 rintro l4_m3 _ rfl h
 (try dsimp only at h)
 refine seqR ?_
 refine awp_ret_ ?_
 obtain rfl := zj h
 exact ret_ [(.own (oi 0 1) .int 0 l4_m3.length)] (p_one rfl (l_own (by kernel_rfl) rfl) p_nil)
def m_laws_eqIntS_l1 : AC :=
 (.seq (.seq (rg [xo 11 (qm (tm 5)), xo 12 (qm (tm 0)), xo 13 (.i (.len (tm 12))), xo 14 (qb .lss (tm 11) (tm 13))])
 (.cond (tm 14)
  .skip
  (.exit 0)))
 (.seq (.block 1 (.seq (.region [xo 17 (qm (tm 0)), xo 18 (qm (tm 5)), xo 19 (qx 1 (tm 17) (tm 18)), xo 20 (ql (tm 19)), xo 21 (qm (tm 1)), xo 22 (qm (tm 5)), xo 23 (qx 1 (tm 21) (tm 22)), xo 24 (ql (tm 23)), xo 25 (qb .neq (tm 20) (tm 24))] true [])
 (.cond (tm 25)
  (.seq (rg [xo 4 (qm (cb false))])
  .ret)
  .skip)))
 (rg [xo 15 (qm (tm 5)), xo 16 (qb .add (tm 15) (ci 1)), xo 5 (qm (tm 16))])))
def m_laws_eqIntS : AC :=
 (.seq (rg [xo 4 (qm (cb false))])
 (.seq (.seq (rg [xo 6 (qm (tm 0)), xo 7 (.i (.len (tm 6))), xo 8 (qm (tm 1)), xo 9 (.i (.len (tm 8))), xo 10 (qb .neq (tm 7) (tm 9))])
 (.cond (tm 10)
  (.seq (rg [xo 4 (qm (cb false))])
  .ret)
  .skip))
 (.seq (.seq (rg [xo 5 (qm (ci 0))])
 (.block 0 (.loop m_laws_eqIntS_l1)))
 (.seq (rg [xo 4 (qm (cb true))])
 .ret))))
def r_laws_eqIntS : List Res := [.tmp 4]
theorem c_laws_eqIntS : compiled Tryd.prog Tryd.f25 = some (m_laws_eqIntS, r_laws_eqIntS) := by kernel_rfl
theorem hb_laws_eqIntS : hasBody Tryd.prog 25 = true := by kernel_rfl
def L_laws_eqIntS_l1 (a0 : List Int) (a1 : List Int) (l8_m5 : Nat) : Option (Ctl Nat (Ctl Unit Bool)) :=
 cond (decide (((l8_m5 : Nat) : Int) < ((a0.length : Nat) : Int)))
 (Option.bind (a0[l8_m5]?) fun x14 =>
 Option.bind (a1[l8_m5]?) fun x15 =>
 cond (x14 != x15)
  (some (Ctl.out (Ctl.out false)))
  (og (l8_m5 + 1 < 4611686018427387904) <|
  some (Ctl.next (l8_m5 + 1))))
 (some (Ctl.out (Ctl.next ())))
def L_laws_eqIntS (a0 : List Int) (a1 : List Int) : Option Bool :=
 cond (((a0.length : Nat) : Int) != ((a1.length : Nat) : Int))
 (some false)
 (seqC (loopM (fun s_ : Nat => L_laws_eqIntS_l1 a0 a1 s_) 4611686018427387904 0) fun _ =>
 some true)
def rv_laws_eqIntS (r : Bool) : RV := ⟨false, [(false, [.sc (.bool r)])]⟩
theorem ok_laws_eqIntS {a0 : List Int} {a1 : List Int} {r : Bool} (h : L_laws_eqIntS a0 a1 = some r) : CallOK Tryd.prog Tab 25 [(.tree .int a0), (.tree .int a1)] (rv_laws_eqIntS r) := by
 refine call_of_ (by kernel_rfl) Tryd.func25 c_laws_eqIntS (n := 26) (by kernel_rfl) (by simp) (tl := [(0, (.tree .int a0)), (1, (.tree .int a1))]) rfl ?_
 unfold m_laws_eqIntS
 unfold L_laws_eqIntS at h
 refine seqR ?_
 refine awp_seqv_ ?_
 refine seqR ?_
 rcases cond_some h with ⟨q4, h⟩ | ⟨q4, h⟩
 ·refine awp_condT_ q4 ?_
  refine seqR ?_
  refine awp_ret_ (tr_ ?_)
  obtain rfl := zj h
  exact ret_ [(.bool false)] (p_one rfl zl p_nil)
 refine awp_condF_ q4 ?_
 refine awp_skip_ (tn_ ?_)
 refine wr_ ?_
 refine awp_seqC h (fun (_ : Unit) S_ => S_ = ⟨mkTm [], mkOb (someL []), 2⟩) ?_ ?_
 ·intro v_ h hk6
  refine seqR ?_
  refine awp_block_ ?_
  refine awp_loopL h (fun (l8_m5 : Nat) S_ => S_ = ⟨mkTm [(0, (.tree .int a0)), (1, (.tree .int a1)), (5, (ai ((l8_m5 : Nat) : Int)))], mkOb (someL []), 2⟩) ⟨_, (weak_ren []), rfl⟩ ?_
  rintro n_ l8_m5 _ c_ rfl h hn8
  (try dsimp only at h)
  unfold L_laws_eqIntS_l1 at h
  unfold m_laws_eqIntS_l1
  refine awp_seqv_ ?_
  refine seqR ?_
  rcases cond_some h with ⟨q11, h⟩ | ⟨q11, h⟩
  ·have q11_ := of_decide_eq_true q11
   refine awp_condT_ q11 ?_
   refine awp_skip_ (tn_ ?_)
   refine wr_ ?_
   refine awp_seqv_ ?_
   refine awp_block_ ?_
   refine awp_seqv_ ?_
   obtain ⟨x14, e14, h⟩ := ob_some h
   obtain ⟨x15, e15, h⟩ := ob_some h
   refine awp_regionD_ 15 ?_
   refine dz0 (.tree .int a0) ?_
   refine dz0 (ai ((l8_m5 : Nat) : Int)) ?_
   refine ds0 (.telt .int x14 0) (zi (t := .int) (xs := a0) (k := .i64) (m := ((l8_m5 : Nat) : Int)) (nat_nn _) e14) ?_
   refine dz0 (ai x14) ?_
   refine dz0 (.tree .int a1) ?_
   refine dz0 (ai ((l8_m5 : Nat) : Int)) ?_
   refine ds0 (.telt .int x15 0) (zi (t := .int) (xs := a1) (k := .i64) (m := ((l8_m5 : Nat) : Int)) (nat_nn _) e15) ?_
   refine dz0 (ai x15) ?_
   refine dz0 (.bool (x14 != x15)) ?_
   refine dnil (badB_spec (by kernel_rfl)) (tn_ ?_)
   refine wr_ ?_
   rcases cond_some h with ⟨q16, h⟩ | ⟨q16, h⟩
   ·refine awp_condT_ q16 ?_
    refine seqR ?_
    refine awp_ret_ (br_ (tr_ (tr_ (br_ (tr_ ?_)))))
    obtain rfl := zj h
    have h := hn8
    (try dsimp only at h)
    obtain rfl := zj h
    have h := hk6
    (try dsimp only at h)
    obtain rfl := zj h
    exact ret_ [(.bool false)] (p_one rfl zl p_nil)
   refine awp_condF_ q16 ?_
   refine awp_skip_ (bn_ (tn_ ?_))
   refine wr_ ?_
   obtain ⟨g18, h⟩ := og_some h
   refine awp_region_ 18 ?_
   refine rz0 (ai ((l8_m5 : Nat) : Int)) ?_
   refine rs0 (ai ((l8_m5 + 1 : Nat) : Int)) (za g18) ?_
   refine rsB 1 ?_
   refine rnil (tn_ ?_)
   obtain rfl := zj h
   exact ⟨l8_m5 + 1, _, (weak_ren []), rfl, hn8⟩
  have q11_ := of_decide_eq_false q11
  refine awp_condF_ q11 ?_
  refine awp_exit_ (te_ (te_ (be_ (tn_ ?_))))
  obtain rfl := zj h
  have h := hn8
  (try dsimp only at h)
  obtain rfl := zj h
  exact ⟨(), _, rfl, (weak_ren []), rfl⟩
 rintro _ _ rfl h
 (try dsimp only at h)
 refine seqR ?_
 refine awp_ret_ ?_
 obtain rfl := zj h
 exact ret_ [(.bool true)] (p_one rfl zl p_nil)
def m_laws_markIntS_l1 : AC :=
 (.seq (.seq (rg [xo 6 (qm (tm 5)), xo 7 (qm (tm 0)), xo 8 (.i (.len (tm 7))), xo 9 (qb .lss (tm 6) (tm 8))])
 (.cond (tm 9)
  .skip
  (.exit 0)))
 (.seq (.block 1 (.seq (rg [xo 12 (qm (tm 0)), xo 13 (qm (tm 5)), xo 14 (qm (tm 1)), xo 15 (qx 1 (tm 12) (tm 13)), xn (qs (tm 15) (tm 14))])
 (rg [xo 16 (qm (tm 1)), xo 17 (qb .add (tm 16) (ci 1)), xo 1 (qm (tm 17))])))
 (rg [xo 10 (qm (tm 5)), xo 11 (qb .add (tm 10) (ci 1)), xo 5 (qm (tm 11))])))
def m_laws_markIntS : AC :=
 (.seq (rg [xo 4 (qm (ci 0))])
 (.seq (.seq (rg [xo 5 (qm (ci 0))])
 (.block 0 (.loop m_laws_markIntS_l1)))
 (.seq (rg [xo 18 (qm (tm 1)), xo 4 (qm (tm 18))])
 .ret)))
def r_laws_markIntS : List Res := [.tmp 4]
theorem c_laws_markIntS : compiled Tryd.prog Tryd.f27 = some (m_laws_markIntS, r_laws_markIntS) := by kernel_rfl
theorem hb_laws_markIntS : hasBody Tryd.prog 27 = true := by kernel_rfl
def L_laws_markIntS_l1  (l5_m1 : Int) (l5_m5 : Nat) (l5_m0 : List Int) : Option (Ctl (Int × Nat × List Int) (Int × List Int)) :=
 cond (decide (((l5_m5 : Nat) : Int) < ((l5_m0.length : Nat) : Int)))
 (Option.bind (l5_m0[l5_m5]?) fun x11 =>
 og (l5_m5 + 1 < 4611686018427387904) <|
 some (Ctl.next (IntKind.i64.wrap (l5_m1 + 1), l5_m5 + 1, l5_m0.set l5_m5 l5_m1)))
 (some (Ctl.out (l5_m1, l5_m0)))
def L_laws_markIntS (a0 : List Int) (a1 : Int) : Option (List Int × Int) :=
 Option.bind (loopM (fun s_ : Int × Nat × List Int => L_laws_markIntS_l1 s_.1 s_.2.1 s_.2.2) 4611686018427387904 (a1, 0, a0)) fun (l3_m1, l3_p0) =>
some (l3_p0, l3_m1)
theorem ok_laws_markIntS {a0 : List Int} {a1 : Int} {r : List Int × Int} (h : L_laws_markIntS a0 a1 = some r) {n_a0 : Nat} (hn_a0 : n_a0 = a0.length) : CallM Tryd.prog Tab 27 [(.own (oi 0 0) .int 0 n_a0), (ai a1)] [((oi 0 0), .arr 3 .int a0)] (ai r.2) [((oi 0 0), .arr 3 .int r.1)] := by
 refine callM_of_ (by kernel_rfl) Tryd.func27 c_laws_markIntS (n := 19) (by kernel_rfl) (by simp) (tl := [(0, (.own (oi 0 0) .int 0 n_a0)), (1, (ai a1))]) rfl (by kernel_rfl) ⟨trivial, trivial⟩ ⟨trivial, trivial⟩ ?_
 unfold m_laws_markIntS
 unfold L_laws_markIntS at h
 refine seqR ?_
 refine awp_seqB h (fun t_ S_ => ∃ (l3_m1 : Int), ∃ (l3_p0 : List Int), t_ = (l3_m1, l3_p0) ∧ S_ = ⟨mkTm [(1, (ai l3_m1))], mkOb (someL [((oi 0 0), .arr 3 .int l3_p0)]), 2⟩) ?_ ?_
 ·intro v_ h
  refine seqR ?_
  refine awp_block_ ?_
  refine awp_loopL h (fun t_ S_ => ∃ (l5_m1 : Int), ∃ (l5_m5 : Nat), ∃ (l5_m0 : List Int), t_ = (l5_m1, l5_m5, l5_m0) ∧ S_ = ⟨mkTm [(0, (.own (oi 0 0) .int 0 l5_m0.length)), (1, (ai l5_m1)), (5, (ai ((l5_m5 : Nat) : Int)))], mkOb (someL [((oi 0 0), .arr 3 .int l5_m0)]), 2⟩) ⟨_, ((weak_tm_ 0 (.own (oi 0 0) .int 0 n_a0) (.own (oi 0 0) .int 0 a0.length) (by kernel_rfl) (congrArg (fun z_ => ((.own (oi 0 0) .int 0 z_) : AV)) (hn_a0 : n_a0 = a0.length))).trans (weak_ren [])), ⟨a1, 0, a0, rfl, rfl⟩⟩ ?_
  rintro n_ _ _ c_ ⟨l5_m1, l5_m5, l5_m0, rfl, rfl⟩ h hn5
  (try dsimp only at h)
  unfold L_laws_markIntS_l1 at h
  unfold m_laws_markIntS_l1
  refine awp_seqv_ ?_
  refine seqR ?_
  rcases cond_some h with ⟨q8, h⟩ | ⟨q8, h⟩
  ·have q8_ := of_decide_eq_true q8
   refine awp_condT_ q8 ?_
   refine awp_skip_ (tn_ ?_)
   refine wr_ ?_
   refine awp_seqv_ ?_
   refine awp_block_ ?_
   refine awp_seqv_ ?_
   obtain ⟨x11, e11, h⟩ := ob_some h
   refine awp_region_ 11 ?_
   refine rz0 (.own (oi 0 0) .int 0 l5_m0.length) ?_
   refine rz0 (ai ((l5_m5 : Nat) : Int)) ?_
   refine rz0 (ai l5_m1) ?_
   refine rs0 (.elt (oi 0 0) l5_m5 0) (zo (t := .int) (o := (oi 0 0)) (len := l5_m0.length) (k := .i64) (m := ((l5_m5 : Nat) : Int)) (nat_nn _) (getN_lt e11)) ?_
   refine rsn2 (oi 0 0) (oi 0 0) (.arr 3 .int (l5_m0.set l5_m5 l5_m1)) (s_stE (i := (oi 0 0)) (j := l5_m5) (k := 0) (e := 3) (t := .int) (xs := l5_m0) (cs := [(ai l5_m1)]) (x1 := l5_m1) (by kernel_rfl) (by kernel_rfl) e11 (by kernel_rfl) (by kernel_rfl)) ?_
   refine rnil (tn_ ?_)
   refine wr_ ?_
   refine awp_region_ 14 ?_
   refine rsB 3 ?_
   refine rnil (bn_ (tn_ ?_))
   refine wr_ ?_
   obtain ⟨g12, h⟩ := og_some h
   refine awp_region_ 17 ?_
   refine rz0 (ai ((l5_m5 : Nat) : Int)) ?_
   refine rs0 (ai ((l5_m5 + 1 : Nat) : Int)) (za g12) ?_
   refine rsB 1 ?_
   refine rnil (tn_ ?_)
   obtain rfl := zj h
   exact ⟨(IntKind.i64.wrap (l5_m1 + 1), l5_m5 + 1, l5_m0.set l5_m5 l5_m1), _, ((weak_tm_ 0 (.own (oi 0 0) .int 0 l5_m0.length) (.own (oi 0 0) .int 0 ((l5_m0.set l5_m5 l5_m1).length)) (by kernel_rfl) (congrArg (fun z_ => ((.own (oi 0 0) .int 0 z_) : AV)) (((rfl : l5_m0.length = l5_m0.length).trans List.length_set.symm) : l5_m0.length = (l5_m0.set l5_m5 l5_m1).length))).trans (weak_ren [])), ⟨IntKind.i64.wrap (l5_m1 + 1), l5_m5 + 1, l5_m0.set l5_m5 l5_m1, rfl, rfl⟩, hn5⟩
  have q8_ := of_decide_eq_false q8
  refine awp_condF_ q8 ?_
  refine awp_exit_ (te_ (te_ (be_ (tn_ ?_))))
  obtain rfl := zj h
  have h := hn5
  (try dsimp only at h)
  obtain rfl := zj h
  exact ⟨_, (weak_ren []), ⟨l5_m1, l5_m0, rfl, rfl⟩⟩
 rintro _ _ ⟨l3_m1, l3_p0, rfl, rfl⟩ h
 (try dsimp only at h)
 refine seqR ?_
 refine awp_ret_ ?_
 obtain rfl := zj h
 exact retM_ [(ai l3_m1)] (weak_ren (tl := [(4, (ai l3_m1))]) (g := 2) [])
def m_laws_heldIntS_l1 : AC :=
 (.seq (.seq (rg [xo 6 (qm (tm 5)), xo 7 (qm (tm 0)), xo 8 (.i (.len (tm 7))), xo 9 (qb .lss (tm 6) (tm 8))])
 (.cond (tm 9)
  .skip
  (.exit 0)))
 (.seq (.block 1 (.seq (.seq (rg [xo 12 (qm (tm 0)), xo 13 (qm (tm 5)), xo 14 (qx 1 (tm 12) (tm 13)), xo 15 (ql (tm 14)), xo 16 (qm (tm 1)), xo 17 (qb .neq (tm 15) (tm 16))])
 (.cond (tm 17)
  (.seq (rg [xo 4 (qm (ci (-1)))])
  .ret)
  .skip))
 (rg [xo 18 (qm (tm 1)), xo 19 (qb .add (tm 18) (ci 1)), xo 1 (qm (tm 19))])))
 (rg [xo 10 (qm (tm 5)), xo 11 (qb .add (tm 10) (ci 1)), xo 5 (qm (tm 11))])))
def m_laws_heldIntS : AC :=
 (.seq (rg [xo 4 (qm (ci 0))])
 (.seq (.seq (rg [xo 5 (qm (ci 0))])
 (.block 0 (.loop m_laws_heldIntS_l1)))
 (.seq (rg [xo 20 (qm (tm 1)), xo 4 (qm (tm 20))])
 .ret)))
def r_laws_heldIntS : List Res := [.tmp 4]
theorem c_laws_heldIntS : compiled Tryd.prog Tryd.f72 = some (m_laws_heldIntS, r_laws_heldIntS) := by kernel_rfl
def L_laws_heldIntS_l1 (a0 : List Int) (l4_m1 : Int) (l4_m5 : Nat) : Option (Ctl (Int × Nat) (Ctl Int Int)) :=
 cond (decide (((l4_m5 : Nat) : Int) < ((a0.length : Nat) : Int)))
 (Option.bind (a0[l4_m5]?) fun x11 =>
 cond (x11 != l4_m1)
  (some (Ctl.out (Ctl.out (-1))))
  (og (l4_m5 + 1 < 4611686018427387904) <|
  some (Ctl.next (IntKind.i64.wrap (l4_m1 + 1), l4_m5 + 1))))
 (some (Ctl.out (Ctl.next l4_m1)))
def L_laws_heldIntS (a0 : List Int) (a1 : Int) : Option Int :=
 seqC (loopM (fun s_ : Int × Nat => L_laws_heldIntS_l1 a0 s_.1 s_.2) 4611686018427387904 (a1, 0)) fun l2_m1 =>
some l2_m1
def rv_laws_heldIntS (r : Int) : RV := ⟨false, [(false, [.sc (.int .i64 r)])]⟩
theorem ok_laws_heldIntS {a0 : List Int} {a1 : Int} {r : Int} (h : L_laws_heldIntS a0 a1 = some r) : CallOK Tryd.prog Tab 72 [(.tree .int a0), (ai a1)] (rv_laws_heldIntS r) := by
 refine call_of_ (by kernel_rfl) Tryd.func72 c_laws_heldIntS (n := 21) (by kernel_rfl) (by simp) (tl := [(0, (.tree .int a0)), (1, (ai a1))]) rfl ?_
 unfold m_laws_heldIntS
 unfold L_laws_heldIntS at h
 refine seqR ?_
 refine awp_seqC h (fun (l2_m1 : Int) S_ => S_ = ⟨mkTm [(1, (ai l2_m1))], mkOb (someL []), 2⟩) ?_ ?_
 ·intro v_ h hk2
  refine seqR ?_
  refine awp_block_ ?_
  refine awp_loopL h (fun t_ S_ => ∃ (l4_m1 : Int), ∃ (l4_m5 : Nat), t_ = (l4_m1, l4_m5) ∧ S_ = ⟨mkTm [(0, (.tree .int a0)), (1, (ai l4_m1)), (5, (ai ((l4_m5 : Nat) : Int)))], mkOb (someL []), 2⟩) ⟨_, (weak_ren []), ⟨a1, 0, rfl, rfl⟩⟩ ?_
  rintro n_ _ _ c_ ⟨l4_m1, l4_m5, rfl, rfl⟩ h hn4
  (try dsimp only at h)
  unfold L_laws_heldIntS_l1 at h
  unfold m_laws_heldIntS_l1
  refine awp_seqv_ ?_
  refine seqR ?_
  rcases cond_some h with ⟨q7, h⟩ | ⟨q7, h⟩
  ·have q7_ := of_decide_eq_true q7
   refine awp_condT_ q7 ?_
   refine awp_skip_ (tn_ ?_)
   refine wr_ ?_
   refine awp_seqv_ ?_
   refine awp_block_ ?_
   refine awp_seqv_ ?_
   refine awp_seqv_ ?_
   obtain ⟨x11, e11, h⟩ := ob_some h
   refine awp_region_ 12 ?_
   refine rz0 (.tree .int a0) ?_
   refine rz0 (ai ((l4_m5 : Nat) : Int)) ?_
   refine rs0 (.telt .int x11 0) (zi (t := .int) (xs := a0) (k := .i64) (m := ((l4_m5 : Nat) : Int)) (nat_nn _) e11) ?_
   refine rsB 3 ?_
   refine rnil (tn_ ?_)
   refine wr_ ?_
   rcases cond_some h with ⟨q12, h⟩ | ⟨q12, h⟩
   ·refine awp_condT_ q12 ?_
    refine seqR ?_
    refine awp_ret_ (tr_ (br_ (tr_ (tr_ (br_ (tr_ ?_))))))
    obtain rfl := zj h
    have h := hn4
    (try dsimp only at h)
    obtain rfl := zj h
    have h := hk2
    (try dsimp only at h)
    obtain rfl := zj h
    exact ret_ [(ai (-1))] (p_one rfl zl p_nil)
   refine awp_condF_ q12 ?_
   refine awp_skip_ (tn_ ?_)
   refine wr_ ?_
   refine awp_region_ 15 ?_
   refine rsB 3 ?_
   refine rnil (bn_ (tn_ ?_))
   refine wr_ ?_
   obtain ⟨g14, h⟩ := og_some h
   refine awp_region_ 18 ?_
   refine rz0 (ai ((l4_m5 : Nat) : Int)) ?_
   refine rs0 (ai ((l4_m5 + 1 : Nat) : Int)) (za g14) ?_
   refine rsB 1 ?_
   refine rnil (tn_ ?_)
   obtain rfl := zj h
   exact ⟨(IntKind.i64.wrap (l4_m1 + 1), l4_m5 + 1), _, (weak_ren []), ⟨IntKind.i64.wrap (l4_m1 + 1), l4_m5 + 1, rfl, rfl⟩, hn4⟩
  have q7_ := of_decide_eq_false q7
  refine awp_condF_ q7 ?_
  refine awp_exit_ (te_ (te_ (be_ (tn_ ?_))))
  obtain rfl := zj h
  have h := hn4
  (try dsimp only at h)
  obtain rfl := zj h
  exact ⟨l4_m1, _, rfl, (weak_ren []), rfl⟩
 rintro l2_m1 _ rfl h
 (try dsimp only at h)
 refine seqR ?_
 refine awp_ret_ ?_
 obtain rfl := zj h
 exact ret_ [(ai l2_m1)] (p_one rfl zl p_nil)
def m_spec_l1In : AC :=
 (.seq (rg [xo 6 (qm (cb false))])
 (.seq (rg [xo 7 (qm (tm 0)), xo 8 (qm (tm 1)), xo 9 (qb .geq (tm 7) (tm 8)), xo 10 (qm (tm 9)), ⟨(some 11), (some (10, true)), (qm (tm 0))⟩, ⟨(some 12), (some (10, true)), (qm (tm 2))⟩, ⟨(some 13), (some (10, true)), (qb .leq (tm 11) (tm 12))⟩, xo 14 (.i (.pick (tm 10) (tm 13) (cb false))), xo 6 (qm (tm 14))])
 .ret))
def r_spec_l1In : List Res := [.tmp 6]
theorem c_spec_l1In : compiled Tryd.prog Tryd.f62 = some (m_spec_l1In, r_spec_l1In) := by kernel_rfl
theorem hb_spec_l1In : hasBody Tryd.prog 62 = true := by kernel_rfl
def L_spec_l1In (a0 : Int) (a1 : Int) (a2 : Int) : Option Bool :=
 Option.bind (cond (decide (a1 <= a0))
  (some (decide (a0 <= a2)))
  (some false)) fun l2_m6 =>
some l2_m6
def rv_spec_l1In (r : Bool) : RV := ⟨false, [(false, [.sc (.bool r)])]⟩
theorem ok_spec_l1In {a0 : Int} {a1 : Int} {a2 : Int} {r : Bool} (h : L_spec_l1In a0 a1 a2 = some r) : CallOK Tryd.prog Tab 62 [(ai a0), (ai a1), (ai a2)] (rv_spec_l1In r) := by
 refine call_of_ (by kernel_rfl) Tryd.func62 c_spec_l1In (n := 15) (by kernel_rfl) (by simp) (tl := [(0, (ai a0)), (1, (ai a1)), (2, (ai a2))]) rfl ?_
 unfold m_spec_l1In
 unfold L_spec_l1In at h
 refine seqR ?_
 refine awp_seqB h (fun (l2_m6 : Bool) S_ => S_ = ⟨mkTm [(6, (.bool l2_m6))], mkOb (someL []), 2⟩) ?_ ?_
 ·intro v_ h
  rcases cond_some h with ⟨q3, h⟩ | ⟨q3, h⟩
  ·have q3_ := of_decide_eq_true q3
   refine awp_region_ 11 ?_
   refine rz0 (ai a0) ?_
   refine rz0 (ai a1) ?_
   refine rz0 (.bool (decide (a1 <= a0))) ?_
   refine rz0 (.bool (decide (a1 <= a0))) ?_
   refine rs0 (ai a0) (zg q3) ?_
   refine rs0 (ai a2) (zg q3) ?_
   refine rs0 (.bool (decide (a0 <= a2))) (zg q3) ?_
   refine rs0 (.bool (decide (a0 <= a2))) (zT q3) ?_
   refine rsB 1 ?_
   refine rnil (tn_ ?_)
   obtain rfl := zj h
   exact ⟨_, (weak_ren []), rfl⟩
  have q3_ := of_decide_eq_false q3
  refine awp_region_ 11 ?_
  refine rz0 (ai a0) ?_
  refine rz0 (ai a1) ?_
  refine rz0 (.bool (decide (a1 <= a0))) ?_
  refine rz0 (.bool (decide (a1 <= a0))) ?_
  refine zs q3 ?_
  refine zs q3 ?_
  refine zs q3 ?_
  refine rs0 (.bool false) (zF q3) ?_
  refine rsB 1 ?_
  refine rnil (tn_ ?_)
  obtain rfl := zj h
  exact ⟨_, (weak_ren []), rfl⟩
 rintro l2_m6 _ rfl h
 (try dsimp only at h)
 refine awp_ret_ ?_
 obtain rfl := zj h
 exact ret_ [(.bool l2_m6)] (p_one rfl zl p_nil)
def m_spec_fdGood_l1 : AC :=
 (.seq (.seq (rg [xo 7 (qm (tm 3)), xo 8 (qm (tm 3)), xo 9 (qb .mul (tm 7) (tm 8)), xo 10 (qm (tm 0)), xo 11 (qb .leq (tm 9) (tm 10))])
 (.cond (tm 11)
  .skip
  (.exit 0)))
 (.seq (.block 1 (.seq (rg [xo 14 (qm (tm 0)), xo 15 (qm (tm 3)), xo 16 (qb .rem (tm 14) (tm 15)), xo 17 (qb .eql (tm 16) (ci 0))])
 (.cond (tm 17)
  (.seq (rg [xo 2 (qm (cb false))])
  .ret)
  .skip)))
 (rg [xo 12 (qm (tm 3)), xo 13 (qb .add (tm 12) (ci 1)), xo 3 (qm (tm 13))])))
def m_spec_fdGood : AC :=
 (.seq (rg [xo 2 (qm (cb false))])
 (.seq (.seq (rg [xo 4 (qm (tm 0)), xo 5 (qc 62 [(tm 4), (ci 2), (ci 97)] [[], [], []]), xo 6 (.i (.not (tm 5)))])
 (.cond (tm 6)
  (.seq (rg [xo 2 (qm (cb false))])
  .ret)
  .skip))
 (.seq (.seq (rg [xo 3 (qm (ci 2))])
 (.block 0 (.loop m_spec_fdGood_l1)))
 (.seq (rg [xo 2 (qm (cb true))])
 .ret))))
def r_spec_fdGood : List Res := [.tmp 2]
theorem c_spec_fdGood : compiled Tryd.prog Tryd.f61 = some (m_spec_fdGood, r_spec_fdGood) := by kernel_rfl
theorem hb_spec_fdGood : hasBody Tryd.prog 61 = true := by kernel_rfl
def L_spec_fdGood_l1 (a0 : Int) (l9_m3 : Nat) : Option (Ctl Nat (Ctl Unit Bool)) :=
 cond (decide (IntKind.i64.wrap (((l9_m3 : Nat) : Int) * ((l9_m3 : Nat) : Int)) <= a0))
 (og (((l9_m3 : Nat) : Int) ≠ 0) <|
 cond ((Int.tmod a0 ((l9_m3 : Nat) : Int)) == 0)
  (some (Ctl.out (Ctl.out false)))
  (og (l9_m3 + 1 < 4611686018427387904) <|
  some (Ctl.next (l9_m3 + 1))))
 (some (Ctl.out (Ctl.next ())))
def L_spec_fdGood (a0 : Int) : Option Bool :=
 Option.bind (L_spec_l1In a0 2 97) fun y4 =>
cond (!y4)
 (some false)
 (seqC (loopM (fun s_ : Nat => L_spec_fdGood_l1 a0 s_) 4611686018427387904 2) fun _ =>
 some true)
def rv_spec_fdGood (r : Bool) : RV := ⟨false, [(false, [.sc (.bool r)])]⟩
theorem ok_spec_fdGood {a0 : Int} {r : Bool} (h : L_spec_fdGood a0 = some r) : CallOK Tryd.prog Tab 61 [(ai a0)] (rv_spec_fdGood r) := by
 refine call_of_ (by kernel_rfl) Tryd.func61 c_spec_fdGood (n := 18) (by kernel_rfl) (by simp) (tl := [(0, (ai a0))]) rfl ?_
 unfold m_spec_fdGood
 unfold L_spec_fdGood at h
 refine seqR ?_
 refine awp_seqv_ ?_
 refine awp_seqv_ ?_
 obtain ⟨y4, h4, h⟩ := ob_some h
 refine awp_region_ 5 ?_
 refine rz0 (ai a0) ?_
 refine zc (.bool y4) [] [(ai a0), (ai 2), (ai 97)] (ok_spec_l1In h4) ?_
 refine rsB 1 ?_
 refine rnil (tn_ ?_)
 refine wr_ ?_
 rcases cond_some h with ⟨q5, h⟩ | ⟨q5, h⟩
 ·refine awp_condT_ q5 ?_
  refine seqR ?_
  refine awp_ret_ (tr_ ?_)
  obtain rfl := zj h
  exact ret_ [(.bool false)] (p_one rfl zl p_nil)
 refine awp_condF_ q5 ?_
 refine awp_skip_ (tn_ ?_)
 refine wr_ ?_
 refine awp_seqC h (fun (_ : Unit) S_ => S_ = ⟨mkTm [], mkOb (someL []), 2⟩) ?_ ?_
 ·intro v_ h hk7
  refine seqR ?_
  refine awp_block_ ?_
  refine awp_loopL h (fun (l9_m3 : Nat) S_ => S_ = ⟨mkTm [(0, (ai a0)), (3, (ai ((l9_m3 : Nat) : Int)))], mkOb (someL []), 2⟩) ⟨_, (weak_ren []), rfl⟩ ?_
  rintro n_ l9_m3 _ c_ rfl h hn9
  (try dsimp only at h)
  unfold L_spec_fdGood_l1 at h
  unfold m_spec_fdGood_l1
  refine awp_seqv_ ?_
  refine seqR ?_
  rcases cond_some h with ⟨q12, h⟩ | ⟨q12, h⟩
  ·have q12_ := of_decide_eq_true q12
   refine awp_condT_ q12 ?_
   refine awp_skip_ (tn_ ?_)
   refine wr_ ?_
   refine awp_seqv_ ?_
   refine awp_block_ ?_
   refine awp_seqv_ ?_
   obtain ⟨g15, h⟩ := og_some h
   refine awp_region_ 11 ?_
   refine rz0 (ai a0) ?_
   refine rz0 (ai ((l9_m3 : Nat) : Int)) ?_
   refine rs0 (ai (Int.tmod a0 ((l9_m3 : Nat) : Int))) (s_rem (k := .i64) (a := a0) (b := ((l9_m3 : Nat) : Int)) (by kernel_rfl) (by kernel_rfl) g15) ?_
   refine rsB 1 ?_
   refine rnil (tn_ ?_)
   refine wr_ ?_
   rcases cond_some h with ⟨q16, h⟩ | ⟨q16, h⟩
   ·refine awp_condT_ q16 ?_
    refine seqR ?_
    refine awp_ret_ (br_ (tr_ (tr_ (br_ (tr_ ?_)))))
    obtain rfl := zj h
    have h := hn9
    (try dsimp only at h)
    obtain rfl := zj h
    have h := hk7
    (try dsimp only at h)
    obtain rfl := zj h
    exact ret_ [(.bool false)] (p_one rfl zl p_nil)
   refine awp_condF_ q16 ?_
   refine awp_skip_ (bn_ (tn_ ?_))
   refine wr_ ?_
   obtain ⟨g18, h⟩ := og_some h
   refine awp_region_ 14 ?_
   refine rz0 (ai ((l9_m3 : Nat) : Int)) ?_
   refine rs0 (ai ((l9_m3 + 1 : Nat) : Int)) (za g18) ?_
   refine rsB 1 ?_
   refine rnil (tn_ ?_)
   obtain rfl := zj h
   exact ⟨l9_m3 + 1, _, (weak_ren []), rfl, hn9⟩
  have q12_ := of_decide_eq_false q12
  refine awp_condF_ q12 ?_
  refine awp_exit_ (te_ (te_ (be_ (tn_ ?_))))
  obtain rfl := zj h
  have h := hn9
  (try dsimp only at h)
  obtain rfl := zj h
  exact ⟨(), _, rfl, (weak_ren []), rfl⟩
 rintro _ _ rfl h
 (try dsimp only at h)
 refine seqR ?_
 refine awp_ret_ ?_
 obtain rfl := zj h
 exact ret_ [(.bool true)] (p_one rfl zl p_nil)
def m_spec_l1All_l1 : AC :=
 (.seq (rg [xo 12 (qb .lss (tm 11) (tm 10))])
 (.seq (.cond (tm 12)
  .skip
  (.exit 0))
 (.seq (.block 1 (.seq (rg [xo 13 (qx 1 (tm 9) (tm 11)), xo 14 (ql (tm 13)), xo 8 (qm (tm 14))])
 (.seq (rg [xo 15 (qm (tm 8)), xo 16 (qm (tm 1)), xo 17 (qm (tm 2)), xo 18 (qc 62 [(tm 15), (tm 16), (tm 17)] [[], [], []]), xo 19 (.i (.not (tm 18)))])
 (.cond (tm 19)
  (.seq (rg [xo 6 (qm (cb false))])
  .ret)
  .skip))))
 (rg [xo 20 (qb .add (tm 11) (ci 1)), xo 11 (qm (tm 20))]))))
def m_spec_l1All : AC :=
 (.seq (rg [xo 6 (qm (cb false))])
 (.seq (.seq (rg [xo 9 (qm (tm 0)), xo 10 (.i (.len (tm 9))), xo 11 (qm (ci 0))])
 (.block 0 (.loop m_spec_l1All_l1)))
 (.seq (rg [xo 6 (qm (cb true))])
 .ret)))
def r_spec_l1All : List Res := [.tmp 6]
theorem c_spec_l1All : compiled Tryd.prog Tryd.f110 = some (m_spec_l1All, r_spec_l1All) := by kernel_rfl
def L_spec_l1All_l1 (a0 : List Int) (a1 : Int) (a2 : Int) (l4_m11 : Nat) : Option (Ctl Nat (Ctl Unit Bool)) :=
 cond (decide (((l4_m11 : Nat) : Int) < ((a0.length : Nat) : Int)))
 (Option.bind (a0[l4_m11]?) fun x10 =>
 Option.bind (L_spec_l1In x10 a1 a2) fun y12 =>
 cond (!y12)
  (some (Ctl.out (Ctl.out false)))
  (og (l4_m11 + 1 < 4611686018427387904) <|
  some (Ctl.next (l4_m11 + 1))))
 (some (Ctl.out (Ctl.next ())))
def L_spec_l1All (a0 : List Int) (a1 : Int) (a2 : Int) : Option Bool :=
 seqC (loopM (fun s_ : Nat => L_spec_l1All_l1 a0 a1 a2 s_) 4611686018427387904 0) fun _ =>
some true
def rv_spec_l1All (r : Bool) : RV := ⟨false, [(false, [.sc (.bool r)])]⟩
theorem ok_spec_l1All {a0 : List Int} {a1 : Int} {a2 : Int} {r : Bool} (h : L_spec_l1All a0 a1 a2 = some r) : CallOK Tryd.prog Tab 110 [(.tree .int a0), (ai a1), (ai a2)] (rv_spec_l1All r) := by
 refine call_of_ (by kernel_rfl) Tryd.func110 c_spec_l1All (n := 21) (by kernel_rfl) (by simp) (tl := [(0, (.tree .int a0)), (1, (ai a1)), (2, (ai a2))]) rfl ?_
 unfold m_spec_l1All
 unfold L_spec_l1All at h
 refine seqR ?_
 refine awp_seqC h (fun (_ : Unit) S_ => S_ = ⟨mkTm [], mkOb (someL []), 2⟩) ?_ ?_
 ·intro v_ h hk2
  refine seqR ?_
  refine awp_block_ ?_
  refine awp_loopL h (fun (l4_m11 : Nat) S_ => S_ = ⟨mkTm [(1, (ai a1)), (2, (ai a2)), (9, (.tree .int a0)), (10, (ai ((a0.length : Nat) : Int))), (11, (ai ((l4_m11 : Nat) : Int)))], mkOb (someL []), 2⟩) ⟨_, (weak_ren []), rfl⟩ ?_
  rintro n_ l4_m11 _ c_ rfl h hn4
  (try dsimp only at h)
  unfold L_spec_l1All_l1 at h
  unfold m_spec_l1All_l1
  refine seqR ?_
  refine awp_seqv_ ?_
  rcases cond_some h with ⟨q7, h⟩ | ⟨q7, h⟩
  ·have q7_ := of_decide_eq_true q7
   refine awp_condT_ q7 ?_
   refine awp_skip_ (tn_ ?_)
   refine wr_ ?_
   refine awp_seqv_ ?_
   refine awp_block_ ?_
   refine awp_seqv_ ?_
   obtain ⟨x10, e10, h⟩ := ob_some h
   refine awp_region_ 6 ?_
   refine rs0 (.telt .int x10 0) (zi (t := .int) (xs := a0) (k := .i64) (m := ((l4_m11 : Nat) : Int)) (nat_nn _) e10) ?_
   refine rsB 2 ?_
   refine rnil (tn_ ?_)
   refine wr_ ?_
   refine awp_seqv_ ?_
   obtain ⟨y12, h12, h⟩ := ob_some h
   refine awp_region_ 11 ?_
   refine rz0 (ai x10) ?_
   refine rz0 (ai a1) ?_
   refine rz0 (ai a2) ?_
   refine zc (.bool y12) [] [(ai x10), (ai a1), (ai a2)] (ok_spec_l1In h12) ?_
   refine rsB 1 ?_
   refine rnil (tn_ ?_)
   refine wr_ ?_
   rcases cond_some h with ⟨q13, h⟩ | ⟨q13, h⟩
   ·refine awp_condT_ q13 ?_
    refine seqR ?_
    refine awp_ret_ (br_ (tr_ (tr_ (br_ (tr_ ?_)))))
    obtain rfl := zj h
    have h := hn4
    (try dsimp only at h)
    obtain rfl := zj h
    have h := hk2
    (try dsimp only at h)
    obtain rfl := zj h
    exact ret_ [(.bool false)] (p_one rfl zl p_nil)
   refine awp_condF_ q13 ?_
   refine awp_skip_ (bn_ (tn_ ?_))
   refine wr_ ?_
   obtain ⟨g15, h⟩ := og_some h
   refine awp_region_ 13 ?_
   refine rs0 (ai ((l4_m11 + 1 : Nat) : Int)) (za g15) ?_
   refine rsB 1 ?_
   refine rnil (tn_ ?_)
   obtain rfl := zj h
   exact ⟨l4_m11 + 1, _, (weak_ren []), rfl, hn4⟩
  have q7_ := of_decide_eq_false q7
  refine awp_condF_ q7 ?_
  refine awp_exit_ (te_ (te_ (be_ (tn_ ?_))))
  obtain rfl := zj h
  have h := hn4
  (try dsimp only at h)
  obtain rfl := zj h
  exact ⟨(), _, rfl, (weak_ren []), rfl⟩
 rintro _ _ rfl h
 (try dsimp only at h)
 refine seqR ?_
 refine awp_ret_ ?_
 obtain rfl := zj h
 exact ret_ [(.bool true)] (p_one rfl zl p_nil)
def m_spec_l1Has_l1 : AC :=
 (.seq (rg [xo 10 (qb .lss (tm 9) (tm 8))])
 (.seq (.cond (tm 10)
  .skip
  (.exit 0))
 (.seq (.block 1 (.seq (rg [xo 11 (qx 1 (tm 7) (tm 9)), xo 12 (ql (tm 11)), xo 6 (qm (tm 12))])
 (.seq (rg [xo 13 (qm (tm 6)), xo 14 (qm (tm 1)), xo 15 (qb .eql (tm 13) (tm 14))])
 (.cond (tm 15)
  (.seq (rg [xo 4 (qm (cb true))])
  .ret)
  .skip))))
 (rg [xo 16 (qb .add (tm 9) (ci 1)), xo 9 (qm (tm 16))]))))
def m_spec_l1Has : AC :=
 (.seq (rg [xo 4 (qm (cb false))])
 (.seq (.seq (rg [xo 7 (qm (tm 0)), xo 8 (.i (.len (tm 7))), xo 9 (qm (ci 0))])
 (.block 0 (.loop m_spec_l1Has_l1)))
 (.seq (rg [xo 4 (qm (cb false))])
 .ret)))
def r_spec_l1Has : List Res := [.tmp 4]
theorem c_spec_l1Has : compiled Tryd.prog Tryd.f106 = some (m_spec_l1Has, r_spec_l1Has) := by kernel_rfl
def L_spec_l1Has_l1 (a0 : List Int) (a1 : Int) (l4_m9 : Nat) : Option (Ctl Nat (Ctl Unit Bool)) :=
 cond (decide (((l4_m9 : Nat) : Int) < ((a0.length : Nat) : Int)))
 (Option.bind (a0[l4_m9]?) fun x10 =>
 cond (x10 == a1)
  (some (Ctl.out (Ctl.out true)))
  (og (l4_m9 + 1 < 4611686018427387904) <|
  some (Ctl.next (l4_m9 + 1))))
 (some (Ctl.out (Ctl.next ())))
def L_spec_l1Has (a0 : List Int) (a1 : Int) : Option Bool :=
 seqC (loopM (fun s_ : Nat => L_spec_l1Has_l1 a0 a1 s_) 4611686018427387904 0) fun _ =>
some false
def rv_spec_l1Has (r : Bool) : RV := ⟨false, [(false, [.sc (.bool r)])]⟩
theorem ok_spec_l1Has {a0 : List Int} {a1 : Int} {r : Bool} (h : L_spec_l1Has a0 a1 = some r) : CallOK Tryd.prog Tab 106 [(.tree .int a0), (ai a1)] (rv_spec_l1Has r) := by
 refine call_of_ (by kernel_rfl) Tryd.func106 c_spec_l1Has (n := 17) (by kernel_rfl) (by simp) (tl := [(0, (.tree .int a0)), (1, (ai a1))]) rfl ?_
 unfold m_spec_l1Has
 unfold L_spec_l1Has at h
 refine seqR ?_
 refine awp_seqC h (fun (_ : Unit) S_ => S_ = ⟨mkTm [], mkOb (someL []), 2⟩) ?_ ?_
 ·intro v_ h hk2
  refine seqR ?_
  refine awp_block_ ?_
  refine awp_loopL h (fun (l4_m9 : Nat) S_ => S_ = ⟨mkTm [(1, (ai a1)), (7, (.tree .int a0)), (8, (ai ((a0.length : Nat) : Int))), (9, (ai ((l4_m9 : Nat) : Int)))], mkOb (someL []), 2⟩) ⟨_, (weak_ren []), rfl⟩ ?_
  rintro n_ l4_m9 _ c_ rfl h hn4
  (try dsimp only at h)
  unfold L_spec_l1Has_l1 at h
  unfold m_spec_l1Has_l1
  refine seqR ?_
  refine awp_seqv_ ?_
  rcases cond_some h with ⟨q7, h⟩ | ⟨q7, h⟩
  ·have q7_ := of_decide_eq_true q7
   refine awp_condT_ q7 ?_
   refine awp_skip_ (tn_ ?_)
   refine wr_ ?_
   refine awp_seqv_ ?_
   refine awp_block_ ?_
   refine awp_seqv_ ?_
   obtain ⟨x10, e10, h⟩ := ob_some h
   refine awp_region_ 6 ?_
   refine rs0 (.telt .int x10 0) (zi (t := .int) (xs := a0) (k := .i64) (m := ((l4_m9 : Nat) : Int)) (nat_nn _) e10) ?_
   refine rsB 2 ?_
   refine rnil (tn_ ?_)
   refine wr_ ?_
   refine seqR ?_
   rcases cond_some h with ⟨q12, h⟩ | ⟨q12, h⟩
   ·refine awp_condT_ q12 ?_
    refine seqR ?_
    refine awp_ret_ (br_ (tr_ (tr_ (br_ (tr_ ?_)))))
    obtain rfl := zj h
    have h := hn4
    (try dsimp only at h)
    obtain rfl := zj h
    have h := hk2
    (try dsimp only at h)
    obtain rfl := zj h
    exact ret_ [(.bool true)] (p_one rfl zl p_nil)
   refine awp_condF_ q12 ?_
   refine awp_skip_ (bn_ (tn_ ?_))
   refine wr_ ?_
   obtain ⟨g14, h⟩ := og_some h
   refine awp_region_ 11 ?_
   refine rs0 (ai ((l4_m9 + 1 : Nat) : Int)) (za g14) ?_
   refine rsB 1 ?_
   refine rnil (tn_ ?_)
   obtain rfl := zj h
   exact ⟨l4_m9 + 1, _, (weak_ren []), rfl, hn4⟩
  have q7_ := of_decide_eq_false q7
  refine awp_condF_ q7 ?_
  refine awp_exit_ (te_ (te_ (be_ (tn_ ?_))))
  obtain rfl := zj h
  have h := hn4
  (try dsimp only at h)
  obtain rfl := zj h
  exact ⟨(), _, rfl, (weak_ren []), rfl⟩
 rintro _ _ rfl h
 (try dsimp only at h)
 refine seqR ?_
 refine awp_ret_ ?_
 obtain rfl := zj h
 exact ret_ [(.bool false)] (p_one rfl zl p_nil)
def m_spec_l1Own : AC :=
 (.seq (rg [xo 2 (qm (.cst .nils))])
 (.seq (rg [xo 3 (.mkS 3 .int []), xo 4 (qm (tm 0)), xo 5 (.append 3 .int 8 (tm 3) (tm 4)), xo 2 (qm (tm 5))])
 .ret))
def r_spec_l1Own : List Res := [.tmp 2]
theorem c_spec_l1Own : compiled Tryd.prog Tryd.f47 = some (m_spec_l1Own, r_spec_l1Own) := by kernel_rfl
theorem hb_spec_l1Own : hasBody Tryd.prog 47 = true := by kernel_rfl
def L_spec_l1Own (a0 : List Int) : Option (List Int) :=
 og (0 + a0.length <= 1073741824 ∧ (0 + a0.length) * 8 <= 140737488355328) <|
some a0
def rv_spec_l1Own (r : List Int) : RV := ⟨false, [(false, [.new 3 .int r])]⟩
theorem ok_spec_l1Own {a0 : List Int} {r : List Int} (h : L_spec_l1Own a0 = some r) : CallOK Tryd.prog Tab 47 [(.tree .int a0)] (rv_spec_l1Own r) := by
 refine call_of_ (by kernel_rfl) Tryd.func47 c_spec_l1Own (n := 6) (by kernel_rfl) (by simp) (tl := [(0, (.tree .int a0))]) rfl ?_
 unfold m_spec_l1Own
 unfold L_spec_l1Own at h
 refine seqR ?_
 refine awp_seqv_ ?_
 obtain ⟨g3, h⟩ := og_some h
 refine awp_region_ 6 ?_
 refine rs1 (.own (oi 3 2) .int 0 0) (oi 3 2) (.arr 3 .int []) (by kernel_rfl) ?_
 refine rz0 (.tree .int a0) ?_
 refine rs2 (.own (oi 3 4) .int 0 a0.length) (oi 3 2) (oi 3 4) (.arr 3 .int a0) (s_appO (t := .int) (t' := .int) (xs := []) (ys := a0) (zs := a0) (j := (oi 3 2)) (len := 0) (c := (.tree .int a0)) (by kernel_rfl) (by kernel_rfl) rfl (by kernel_rfl) sr_tree rfl g3) ?_
 refine rsB 1 ?_
 refine rnil (tn_ ?_)
 refine wr_ ?_
 refine awp_ret_ ?_
 obtain rfl := zj h
 exact ret_ [(.own (oi 3 4) .int 0 a0.length)] (p_one rfl (l_own (by kernel_rfl) rfl) p_nil)
def m_spec_fdIn : AC :=
 (.seq (rg [xo 4 (qm (cb false))])
 (.seq (rg [xo 5 (qm (tm 1)), xo 6 (qm (tm 0)), xo 7 (qb .sub (tm 6) (ci 1)), xo 8 (qc 110 [(tm 5), (ci 0), (tm 7)] [[(some .int)], [], []]), xo 4 (qm (tm 8))])
 .ret))
def r_spec_fdIn : List Res := [.tmp 4]
theorem c_spec_fdIn : compiled Tryd.prog Tryd.f96 = some (m_spec_fdIn, r_spec_fdIn) := by kernel_rfl
theorem hb_spec_fdIn : hasBody Tryd.prog 96 = true := by kernel_rfl
def L_spec_fdIn (a0 : Int) (a1 : List Int) : Option Bool :=
 Option.bind (L_spec_l1All a1 0 (IntKind.i64.wrap (a0 - 1))) fun y3 =>
some y3
def rv_spec_fdIn (r : Bool) : RV := ⟨false, [(false, [.sc (.bool r)])]⟩
theorem ok_spec_fdIn {a0 : Int} {a1 : List Int} {r : Bool} (h : L_spec_fdIn a0 a1 = some r) : CallOK Tryd.prog Tab 96 [(ai a0), (.tree .int a1)] (rv_spec_fdIn r) := by
 refine call_of_ (by kernel_rfl) Tryd.func96 c_spec_fdIn (n := 9) (by kernel_rfl) (by simp) (tl := [(0, (ai a0)), (1, (.tree .int a1))]) rfl ?_
 unfold m_spec_fdIn
 unfold L_spec_fdIn at h
 refine seqR ?_
 refine awp_seqv_ ?_
 obtain ⟨y3, h3, h⟩ := ob_some h
 refine awp_region_ 7 ?_
 refine rz0 (.tree .int a1) ?_
 refine rz0 (ai a0) ?_
 refine rz0 (ai (IntKind.i64.wrap (a0 - 1))) ?_
 refine zc (.bool y3) [] [(.tree .int a1), (ai 0), (ai (IntKind.i64.wrap (a0 - 1)))] (ok_spec_l1All h3) ?_
 refine rsB 1 ?_
 refine rnil (tn_ ?_)
 refine wr_ ?_
 refine awp_ret_ ?_
 obtain rfl := zj h
 exact ret_ [(.bool y3)] (p_one rfl zl p_nil)
def m_spec_fdMul : AC :=
 (.seq (rg [xo 6 (qm (ci 0))])
 (.seq (rg [xo 7 (qm (tm 1)), xo 8 (qm (tm 2)), xo 9 (qb .mul (tm 7) (tm 8)), xo 10 (qm (tm 0)), xo 11 (qb .rem (tm 9) (tm 10)), xo 6 (qm (tm 11))])
 .ret))
def r_spec_fdMul : List Res := [.tmp 6]
theorem c_spec_fdMul : compiled Tryd.prog Tryd.f84 = some (m_spec_fdMul, r_spec_fdMul) := by kernel_rfl
theorem hb_spec_fdMul : hasBody Tryd.prog 84 = true := by kernel_rfl
def L_spec_fdMul (a0 : Int) (a1 : Int) (a2 : Int) : Option Int :=
 og (a0 ≠ 0) <|
some (Int.tmod (IntKind.i64.wrap (a1 * a2)) a0)
def rv_spec_fdMul (r : Int) : RV := ⟨false, [(false, [.sc (.int .i64 r)])]⟩
theorem ok_spec_fdMul {a0 : Int} {a1 : Int} {a2 : Int} {r : Int} (h : L_spec_fdMul a0 a1 a2 = some r) : CallOK Tryd.prog Tab 84 [(ai a0), (ai a1), (ai a2)] (rv_spec_fdMul r) := by
 refine call_of_ (by kernel_rfl) Tryd.func84 c_spec_fdMul (n := 12) (by kernel_rfl) (by simp) (tl := [(0, (ai a0)), (1, (ai a1)), (2, (ai a2))]) rfl ?_
 unfold m_spec_fdMul
 unfold L_spec_fdMul at h
 refine seqR ?_
 refine awp_seqv_ ?_
 obtain ⟨g3, h⟩ := og_some h
 refine awp_region_ 8 ?_
 refine rz0 (ai a1) ?_
 refine rz0 (ai a2) ?_
 refine rz0 (ai (IntKind.i64.wrap (a1 * a2))) ?_
 refine rz0 (ai a0) ?_
 refine rs0 (ai (Int.tmod (IntKind.i64.wrap (a1 * a2)) a0)) (s_rem (k := .i64) (a := IntKind.i64.wrap (a1 * a2)) (b := a0) (by kernel_rfl) (by kernel_rfl) g3) ?_
 refine rsB 1 ?_
 refine rnil (tn_ ?_)
 refine wr_ ?_
 refine awp_ret_ ?_
 obtain rfl := zj h
 exact ret_ [(ai (Int.tmod (IntKind.i64.wrap (a1 * a2)) a0))] (p_one rfl zl p_nil)
def m_impl_within : AC :=
 (.seq (rg [xo 6 (qm (cb false))])
 (.seq (rg [xo 7 (qm (tm 0)), xo 8 (qm (tm 1)), xo 9 (qb .geq (tm 7) (tm 8)), xo 10 (qm (tm 9)), ⟨(some 11), (some (10, true)), (qm (tm 0))⟩, ⟨(some 12), (some (10, true)), (qm (tm 2))⟩, ⟨(some 13), (some (10, true)), (qb .leq (tm 11) (tm 12))⟩, xo 14 (.i (.pick (tm 10) (tm 13) (cb false))), xo 6 (qm (tm 14))])
 .ret))
def r_impl_within : List Res := [.tmp 6]
theorem c_impl_within : compiled Tryd.prog Tryd.f66 = some (m_impl_within, r_impl_within) := by kernel_rfl
theorem hb_impl_within : hasBody Tryd.prog 66 = true := by kernel_rfl
def L_impl_within (a0 : Int) (a1 : Int) (a2 : Int) : Option Bool :=
 Option.bind (cond (decide (a1 <= a0))
  (some (decide (a0 <= a2)))
  (some false)) fun l2_m6 =>
some l2_m6
def rv_impl_within (r : Bool) : RV := ⟨false, [(false, [.sc (.bool r)])]⟩
theorem ok_impl_within {a0 : Int} {a1 : Int} {a2 : Int} {r : Bool} (h : L_impl_within a0 a1 a2 = some r) : CallOK Tryd.prog Tab 66 [(ai a0), (ai a1), (ai a2)] (rv_impl_within r) := by
 refine call_of_ (by kernel_rfl) Tryd.func66 c_impl_within (n := 15) (by kernel_rfl) (by simp) (tl := [(0, (ai a0)), (1, (ai a1)), (2, (ai a2))]) rfl ?_
 unfold m_impl_within
 unfold L_impl_within at h
 refine seqR ?_
 refine awp_seqB h (fun (l2_m6 : Bool) S_ => S_ = ⟨mkTm [(6, (.bool l2_m6))], mkOb (someL []), 2⟩) ?_ ?_
 ·intro v_ h
  rcases cond_some h with ⟨q3, h⟩ | ⟨q3, h⟩
  ·have q3_ := of_decide_eq_true q3
   refine awp_region_ 11 ?_
   refine rz0 (ai a0) ?_
   refine rz0 (ai a1) ?_
   refine rz0 (.bool (decide (a1 <= a0))) ?_
   refine rz0 (.bool (decide (a1 <= a0))) ?_
   refine rs0 (ai a0) (zg q3) ?_
   refine rs0 (ai a2) (zg q3) ?_
   refine rs0 (.bool (decide (a0 <= a2))) (zg q3) ?_
   refine rs0 (.bool (decide (a0 <= a2))) (zT q3) ?_
   refine rsB 1 ?_
   refine rnil (tn_ ?_)
   obtain rfl := zj h
   exact ⟨_, (weak_ren []), rfl⟩
  have q3_ := of_decide_eq_false q3
  refine awp_region_ 11 ?_
  refine rz0 (ai a0) ?_
  refine rz0 (ai a1) ?_
  refine rz0 (.bool (decide (a1 <= a0))) ?_
  refine rz0 (.bool (decide (a1 <= a0))) ?_
  refine zs q3 ?_
  refine zs q3 ?_
  refine zs q3 ?_
  refine rs0 (.bool false) (zF q3) ?_
  refine rsB 1 ?_
  refine rnil (tn_ ?_)
  obtain rfl := zj h
  exact ⟨_, (weak_ren []), rfl⟩
 rintro l2_m6 _ rfl h
 (try dsimp only at h)
 refine awp_ret_ ?_
 obtain rfl := zj h
 exact ret_ [(.bool l2_m6)] (p_one rfl zl p_nil)
def m_impl_isElement : AC :=
 (.seq (rg [xo 4 (qm (cb false))])
 (.seq (rg [xo 5 (qm (tm 1)), xo 6 (qb .geq (tm 5) (ci 0)), xo 7 (qm (tm 6)), ⟨(some 8), (some (7, true)), (qm (tm 1))⟩, ⟨(some 9), (some (7, true)), (qm (tm 0))⟩, ⟨(some 10), (some (7, true)), (qb .lss (tm 8) (tm 9))⟩, xo 11 (.i (.pick (tm 7) (tm 10) (cb false))), xo 4 (qm (tm 11))])
 .ret))
def r_impl_isElement : List Res := [.tmp 4]
theorem c_impl_isElement : compiled Tryd.prog Tryd.f111 = some (m_impl_isElement, r_impl_isElement) := by kernel_rfl
def L_impl_isElement (a0 : Int) (a1 : Int) : Option Bool :=
 Option.bind (cond (decide (0 <= a1))
  (some (decide (a1 < a0)))
  (some false)) fun l2_m4 =>
some l2_m4
def rv_impl_isElement (r : Bool) : RV := ⟨false, [(false, [.sc (.bool r)])]⟩
theorem ok_impl_isElement {a0 : Int} {a1 : Int} {r : Bool} (h : L_impl_isElement a0 a1 = some r) : CallOK Tryd.prog Tab 111 [(ai a0), (ai a1)] (rv_impl_isElement r) := by
 refine call_of_ (by kernel_rfl) Tryd.func111 c_impl_isElement (n := 12) (by kernel_rfl) (by simp) (tl := [(0, (ai a0)), (1, (ai a1))]) rfl ?_
 unfold m_impl_isElement
 unfold L_impl_isElement at h
 refine seqR ?_
 refine awp_seqB h (fun (l2_m4 : Bool) S_ => S_ = ⟨mkTm [(4, (.bool l2_m4))], mkOb (someL []), 2⟩) ?_ ?_
 ·intro v_ h
  rcases cond_some h with ⟨q3, h⟩ | ⟨q3, h⟩
  ·have q3_ := of_decide_eq_true q3
   refine awp_region_ 10 ?_
   refine rz0 (ai a1) ?_
   refine rz0 (.bool (decide (0 <= a1))) ?_
   refine rz0 (.bool (decide (0 <= a1))) ?_
   refine rs0 (ai a1) (zg q3) ?_
   refine rs0 (ai a0) (zg q3) ?_
   refine rs0 (.bool (decide (a1 < a0))) (zg q3) ?_
   refine rs0 (.bool (decide (a1 < a0))) (zT q3) ?_
   refine rsB 1 ?_
   refine rnil (tn_ ?_)
   obtain rfl := zj h
   exact ⟨_, (weak_ren []), rfl⟩
  have q3_ := of_decide_eq_false q3
  refine awp_region_ 10 ?_
  refine rz0 (ai a1) ?_
  refine rz0 (.bool (decide (0 <= a1))) ?_
  refine rz0 (.bool (decide (0 <= a1))) ?_
  refine zs q3 ?_
  refine zs q3 ?_
  refine zs q3 ?_
  refine rs0 (.bool false) (zF q3) ?_
  refine rsB 1 ?_
  refine rnil (tn_ ?_)
  obtain rfl := zj h
  exact ⟨_, (weak_ren []), rfl⟩
 rintro l2_m4 _ rfl h
 (try dsimp only at h)
 refine awp_ret_ ?_
 obtain rfl := zj h
 exact ret_ [(.bool l2_m4)] (p_one rfl zl p_nil)
def m_impl_isVector_l1 : AC :=
 (.seq (rg [xo 16 (qb .lss (tm 15) (tm 14))])
 (.seq (.cond (tm 16)
  .skip
  (.exit 0))
 (.seq (.block 1 (.seq (rg [xo 17 (qx 1 (tm 13) (tm 15)), xo 18 (ql (tm 17)), xo 8 (qm (tm 18))])
 (.seq (rg [xo 19 (qm (tm 0)), xo 20 (qm (tm 8)), xo 21 (qc 111 [(tm 19), (tm 20)] [[], []]), xo 22 (.i (.not (tm 21)))])
 (.cond (tm 22)
  (.seq (rg [xo 6 (qm (cb false))])
  .ret)
  .skip))))
 (rg [xo 23 (qb .add (tm 15) (ci 1)), xo 15 (qm (tm 23))]))))
def m_impl_isVector : AC :=
 (.seq (rg [xo 6 (qm (cb false))])
 (.seq (.seq (rg [xo 9 (qm (tm 1)), xo 10 (.i (.len (tm 9))), xo 11 (qm (tm 2)), xo 12 (qb .neq (tm 10) (tm 11))])
 (.cond (tm 12)
  (.seq (rg [xo 6 (qm (cb false))])
  .ret)
  .skip))
 (.seq (.seq (rg [xo 13 (qm (tm 1)), xo 14 (.i (.len (tm 13))), xo 15 (qm (ci 0))])
 (.block 0 (.loop m_impl_isVector_l1)))
 (.seq (rg [xo 6 (qm (cb true))])
 .ret))))
def r_impl_isVector : List Res := [.tmp 6]
theorem c_impl_isVector : compiled Tryd.prog Tryd.f98 = some (m_impl_isVector, r_impl_isVector) := by kernel_rfl
def L_impl_isVector_l1 (a1 : List Int) (a0 : Int) (l8_m15 : Nat) : Option (Ctl Nat (Ctl Unit Bool)) :=
 cond (decide (((l8_m15 : Nat) : Int) < ((a1.length : Nat) : Int)))
 (Option.bind (a1[l8_m15]?) fun x14 =>
 Option.bind (L_impl_isElement a0 x14) fun y16 =>
 cond (!y16)
  (some (Ctl.out (Ctl.out false)))
  (og (l8_m15 + 1 < 4611686018427387904) <|
  some (Ctl.next (l8_m15 + 1))))
 (some (Ctl.out (Ctl.next ())))
def L_impl_isVector (a0 : Int) (a1 : List Int) (a2 : Int) : Option Bool :=
 cond (((a1.length : Nat) : Int) != a2)
 (some false)
 (seqC (loopM (fun s_ : Nat => L_impl_isVector_l1 a1 a0 s_) 4611686018427387904 0) fun _ =>
 some true)
def rv_impl_isVector (r : Bool) : RV := ⟨false, [(false, [.sc (.bool r)])]⟩
theorem ok_impl_isVector {a0 : Int} {a1 : List Int} {a2 : Int} {r : Bool} (h : L_impl_isVector a0 a1 a2 = some r) : CallOK Tryd.prog Tab 98 [(ai a0), (.tree .int a1), (ai a2)] (rv_impl_isVector r) := by
 refine call_of_ (by kernel_rfl) Tryd.func98 c_impl_isVector (n := 24) (by kernel_rfl) (by simp) (tl := [(0, (ai a0)), (1, (.tree .int a1)), (2, (ai a2))]) rfl ?_
 unfold m_impl_isVector
 unfold L_impl_isVector at h
 refine seqR ?_
 refine awp_seqv_ ?_
 refine seqR ?_
 rcases cond_some h with ⟨q4, h⟩ | ⟨q4, h⟩
 ·refine awp_condT_ q4 ?_
  refine seqR ?_
  refine awp_ret_ (tr_ ?_)
  obtain rfl := zj h
  exact ret_ [(.bool false)] (p_one rfl zl p_nil)
 refine awp_condF_ q4 ?_
 refine awp_skip_ (tn_ ?_)
 refine wr_ ?_
 refine awp_seqC h (fun (_ : Unit) S_ => S_ = ⟨mkTm [], mkOb (someL []), 2⟩) ?_ ?_
 ·intro v_ h hk6
  refine seqR ?_
  refine awp_block_ ?_
  refine awp_loopL h (fun (l8_m15 : Nat) S_ => S_ = ⟨mkTm [(0, (ai a0)), (13, (.tree .int a1)), (14, (ai ((a1.length : Nat) : Int))), (15, (ai ((l8_m15 : Nat) : Int)))], mkOb (someL []), 2⟩) ⟨_, (weak_ren []), rfl⟩ ?_
  rintro n_ l8_m15 _ c_ rfl h hn8
  (try dsimp only at h)
  unfold L_impl_isVector_l1 at h
  unfold m_impl_isVector_l1
  refine seqR ?_
  refine awp_seqv_ ?_
  rcases cond_some h with ⟨q11, h⟩ | ⟨q11, h⟩
  ·have q11_ := of_decide_eq_true q11
   refine awp_condT_ q11 ?_
   refine awp_skip_ (tn_ ?_)
   refine wr_ ?_
   refine awp_seqv_ ?_
   refine awp_block_ ?_
   refine awp_seqv_ ?_
   obtain ⟨x14, e14, h⟩ := ob_some h
   refine awp_region_ 6 ?_
   refine rs0 (.telt .int x14 0) (zi (t := .int) (xs := a1) (k := .i64) (m := ((l8_m15 : Nat) : Int)) (nat_nn _) e14) ?_
   refine rsB 2 ?_
   refine rnil (tn_ ?_)
   refine wr_ ?_
   refine awp_seqv_ ?_
   obtain ⟨y16, h16, h⟩ := ob_some h
   refine awp_region_ 10 ?_
   refine rz0 (ai a0) ?_
   refine rz0 (ai x14) ?_
   refine zc (.bool y16) [] [(ai a0), (ai x14)] (ok_impl_isElement h16) ?_
   refine rsB 1 ?_
   refine rnil (tn_ ?_)
   refine wr_ ?_
   rcases cond_some h with ⟨q17, h⟩ | ⟨q17, h⟩
   ·refine awp_condT_ q17 ?_
    refine seqR ?_
    refine awp_ret_ (br_ (tr_ (tr_ (br_ (tr_ ?_)))))
    obtain rfl := zj h
    have h := hn8
    (try dsimp only at h)
    obtain rfl := zj h
    have h := hk6
    (try dsimp only at h)
    obtain rfl := zj h
    exact ret_ [(.bool false)] (p_one rfl zl p_nil)
   refine awp_condF_ q17 ?_
   refine awp_skip_ (bn_ (tn_ ?_))
   refine wr_ ?_
   obtain ⟨g19, h⟩ := og_some h
   refine awp_region_ 12 ?_
   refine rs0 (ai ((l8_m15 + 1 : Nat) : Int)) (za g19) ?_
   refine rsB 1 ?_
   refine rnil (tn_ ?_)
   obtain rfl := zj h
   exact ⟨l8_m15 + 1, _, (weak_ren []), rfl, hn8⟩
  have q11_ := of_decide_eq_false q11
  refine awp_condF_ q11 ?_
  refine awp_exit_ (te_ (te_ (be_ (tn_ ?_))))
  obtain rfl := zj h
  have h := hn8
  (try dsimp only at h)
  obtain rfl := zj h
  exact ⟨(), _, rfl, (weak_ren []), rfl⟩
 rintro _ _ rfl h
 (try dsimp only at h)
 refine seqR ?_
 refine awp_ret_ ?_
 obtain rfl := zj h
 exact ret_ [(.bool true)] (p_one rfl zl p_nil)
def m_impl_zeros : AC :=
 (.seq (rg [xo 2 (qm (.cst .nils))])
 (.seq (rg [xo 3 (qm (tm 0)), xo 4 (.make 3 .int 8 (tm 3) (tm 3)), xo 2 (qm (tm 4))])
 .ret))
def r_impl_zeros : List Res := [.tmp 2]
theorem c_impl_zeros : compiled Tryd.prog Tryd.f109 = some (m_impl_zeros, r_impl_zeros) := by kernel_rfl
def L_impl_zeros (a0 : Int) : Option (List Int) :=
 og (0 <= a0 ∧ a0 <= a0 ∧ a0 <= 1073741824 ∧ (8 : Int) * a0 <= 140737488355328) <|
some (List.replicate a0.toNat (0 : Int))
def rv_impl_zeros (r : List Int) : RV := ⟨false, [(false, [.new 3 .int r])]⟩
theorem ok_impl_zeros {a0 : Int} {r : List Int} (h : L_impl_zeros a0 = some r) : CallOK Tryd.prog Tab 109 [(ai a0)] (rv_impl_zeros r) := by
 refine call_of_ (by kernel_rfl) Tryd.func109 c_impl_zeros (n := 5) (by kernel_rfl) (by simp) (tl := [(0, (ai a0))]) rfl ?_
 unfold m_impl_zeros
 unfold L_impl_zeros at h
 refine seqR ?_
 refine awp_seqv_ ?_
 obtain ⟨g3, h⟩ := og_some h
 refine awp_region_ 5 ?_
 refine rz0 (ai a0) ?_
 refine rs1 (.own (oi 4 3) .int 0 a0.toNat) (oi 4 3) (.arr 3 .int (List.replicate a0.toNat (0 : Int))) (s_make (t := .int) (k := .i64) (k' := .i64) (m := a0) (m' := a0) (by kernel_rfl) (by kernel_rfl) g3 rfl) ?_
 refine rsB 1 ?_
 refine rnil (tn_ ?_)
 refine wr_ ?_
 refine awp_ret_ ?_
 obtain rfl := zj h
 exact ret_ [(.own (oi 4 3) .int 0 a0.toNat)] (p_one rfl (l_own (by kernel_rfl) List.length_replicate.symm) p_nil)
def m_impl_mod : AC :=
 (.seq (rg [xo 4 (qm (ci 0))])
 (.seq (rg [xo 5 (qm (tm 1)), xo 6 (qm (tm 0)), xo 7 (qb .rem (tm 5) (tm 6)), xo 1 (qm (tm 7))])
 (.seq (.seq (rg [xo 8 (qm (tm 1)), xo 9 (qb .lss (tm 8) (ci 0))])
 (.cond (tm 9)
  (rg [xo 10 (qm (tm 1)), xo 11 (qm (tm 0)), xo 12 (qb .add (tm 10) (tm 11)), xo 1 (qm (tm 12))])
  .skip))
 (.seq (rg [xo 13 (qm (tm 1)), xo 4 (qm (tm 13))])
 .ret))))
def r_impl_mod : List Res := [.tmp 4]
theorem c_impl_mod : compiled Tryd.prog Tryd.f78 = some (m_impl_mod, r_impl_mod) := by kernel_rfl
def L_impl_mod (a0 : Int) (a1 : Int) : Option Int :=
 og (a0 ≠ 0) <|
Option.bind (cond (decide (Int.tmod a1 a0 < 0))
  (some (IntKind.i64.wrap (Int.tmod a1 a0 + a0)))
  (some (Int.tmod a1 a0))) fun l4_m1 =>
some l4_m1
def rv_impl_mod (r : Int) : RV := ⟨false, [(false, [.sc (.int .i64 r)])]⟩
theorem ok_impl_mod {a0 : Int} {a1 : Int} {r : Int} (h : L_impl_mod a0 a1 = some r) : CallOK Tryd.prog Tab 78 [(ai a0), (ai a1)] (rv_impl_mod r) := by
 refine call_of_ (by kernel_rfl) Tryd.func78 c_impl_mod (n := 14) (by kernel_rfl) (by simp) (tl := [(0, (ai a0)), (1, (ai a1))]) rfl ?_
 unfold m_impl_mod
 unfold L_impl_mod at h
 refine seqR ?_
 refine awp_seqv_ ?_
 obtain ⟨g3, h⟩ := og_some h
 refine awp_region_ 6 ?_
 refine rz0 (ai a1) ?_
 refine rz0 (ai a0) ?_
 refine rs0 (ai (Int.tmod a1 a0)) (s_rem (k := .i64) (a := a1) (b := a0) (by kernel_rfl) (by kernel_rfl) g3) ?_
 refine rsB 1 ?_
 refine rnil (tn_ ?_)
 refine wr_ ?_
 refine awp_seqB h (fun (l4_m1 : Int) S_ => S_ = ⟨mkTm [(1, (ai l4_m1))], mkOb (someL []), 2⟩) ?_ ?_
 ·intro v_ h
  refine seqR ?_
  rcases cond_some h with ⟨q6, h⟩ | ⟨q6, h⟩
  ·have q6_ := of_decide_eq_true q6
   refine awp_condT_ q6 ?_
   refine awp_region_ 12 ?_
   refine rsB 4 ?_
   refine rnil (tn_ ?_)
   obtain rfl := zj h
   exact ⟨_, (weak_ren []), rfl⟩
  have q6_ := of_decide_eq_false q6
  refine awp_condF_ q6 ?_
  refine awp_skip_ (tn_ ?_)
  obtain rfl := zj h
  exact ⟨_, (weak_ren []), rfl⟩
 rintro l4_m1 _ rfl h
 (try dsimp only at h)
 refine seqR ?_
 refine awp_ret_ ?_
 obtain rfl := zj h
 exact ret_ [(ai l4_m1)] (p_one rfl zl p_nil)
def m_impl_clone : AC :=
 (.seq (rg [xo 2 (qm (.cst .nils))])
 (.seq (rg [xo 3 (.mkS 3 .int []), xo 4 (qm (tm 0)), xo 5 (.append 3 .int 8 (tm 3) (tm 4)), xo 2 (qm (tm 5))])
 .ret))
def r_impl_clone : List Res := [.tmp 2]
theorem c_impl_clone : compiled Tryd.prog Tryd.f85 = some (m_impl_clone, r_impl_clone) := by kernel_rfl
def L_impl_clone (a0 : List Int) : Option (List Int) :=
 og (0 + a0.length <= 1073741824 ∧ (0 + a0.length) * 8 <= 140737488355328) <|
some a0
def rv_impl_clone (r : List Int) : RV := ⟨false, [(false, [.new 3 .int r])]⟩
theorem ok_impl_clone {a0 : List Int} {r : List Int} (h : L_impl_clone a0 = some r) : CallOK Tryd.prog Tab 85 [(.tree .int a0)] (rv_impl_clone r) := by
 refine call_of_ (by kernel_rfl) Tryd.func85 c_impl_clone (n := 6) (by kernel_rfl) (by simp) (tl := [(0, (.tree .int a0))]) rfl ?_
 unfold m_impl_clone
 unfold L_impl_clone at h
 refine seqR ?_
 refine awp_seqv_ ?_
 obtain ⟨g3, h⟩ := og_some h
 refine awp_region_ 6 ?_
 refine rs1 (.own (oi 3 2) .int 0 0) (oi 3 2) (.arr 3 .int []) (by kernel_rfl) ?_
 refine rz0 (.tree .int a0) ?_
 refine rs2 (.own (oi 3 4) .int 0 a0.length) (oi 3 2) (oi 3 4) (.arr 3 .int a0) (s_appO (t := .int) (t' := .int) (xs := []) (ys := a0) (zs := a0) (j := (oi 3 2)) (len := 0) (c := (.tree .int a0)) (by kernel_rfl) (by kernel_rfl) rfl (by kernel_rfl) sr_tree rfl g3) ?_
 refine rsB 1 ?_
 refine rnil (tn_ ?_)
 refine wr_ ?_
 refine awp_ret_ ?_
 obtain rfl := zj h
 exact ret_ [(.own (oi 3 4) .int 0 a0.length)] (p_one rfl (l_own (by kernel_rfl) rfl) p_nil)
def m_impl_upTo_l1 : AC :=
 (.seq (rg [xo 10 (qb .lss (tm 9) (tm 8))])
 (.seq (.cond (tm 10)
  .skip
  (.exit 0))
 (.seq (.block 1 (.seq (rg [xo 11 (qm (tm 9)), xo 4 (qm (tm 11))])
 (rg [xo 12 (qm (tm 3)), xo 13 (qm (tm 4)), xo 14 (qm (tm 4)), xo 15 (qx 1 (tm 12) (tm 13)), xn (qs (tm 15) (tm 14))])))
 (rg [xo 16 (qb .add (tm 9) (ci 1)), xo 9 (qm (tm 16))]))))
def m_impl_upTo : AC :=
 (.seq (rg [xo 2 (qm (.cst .nils))])
 (.seq (rg [xo 5 (qm (tm 0)), xo 6 (qc 109 [(tm 5)] [[]]), xo 3 (qm (tm 6))])
 (.seq (.seq (rg [xo 7 (qm (tm 3)), xo 8 (.i (.len (tm 7))), xo 9 (qm (ci 0))])
 (.block 0 (.loop m_impl_upTo_l1)))
 (.seq (rg [xo 17 (qm (tm 3)), xo 2 (qm (tm 17))])
 .ret))))
def r_impl_upTo : List Res := [.tmp 2]
theorem c_impl_upTo : compiled Tryd.prog Tryd.f95 = some (m_impl_upTo, r_impl_upTo) := by kernel_rfl
def L_impl_upTo_l1 (y3 : List Int) (l6_m9 : Nat) (l6_m3 : List Int) : Option (Ctl (Nat × List Int) (List Int)) :=
 cond (decide (((l6_m9 : Nat) : Int) < ((y3.length : Nat) : Int)))
 (Option.bind (l6_m3[l6_m9]?) fun x12 =>
 og (l6_m9 + 1 < 4611686018427387904) <|
 some (Ctl.next (l6_m9 + 1, l6_m3.set l6_m9 ((l6_m9 : Nat) : Int))))
 (some (Ctl.out l6_m3))
def L_impl_upTo (a0 : Int) : Option (List Int) :=
 Option.bind (L_impl_zeros a0) fun y3 =>
Option.bind (loopM (fun s_ : Nat × List Int => L_impl_upTo_l1 y3 s_.1 s_.2) 4611686018427387904 (0, y3)) fun l4_m3 =>
some l4_m3
def rv_impl_upTo (r : List Int) : RV := ⟨false, [(false, [.new 3 .int r])]⟩
theorem ok_impl_upTo {a0 : Int} {r : List Int} (h : L_impl_upTo a0 = some r) : CallOK Tryd.prog Tab 95 [(ai a0)] (rv_impl_upTo r) := by
 refine call_of_ (by kernel_rfl) Tryd.func95 c_impl_upTo (n := 18) (by kernel_rfl) (by simp) (tl := [(0, (ai a0))]) rfl ?_
 unfold m_impl_upTo
 unfold L_impl_upTo at h
 refine seqR ?_
 refine awp_seqv_ ?_
 obtain ⟨y3, h3, h⟩ := ob_some h
 refine awp_region_ 5 ?_
 refine rz0 (ai a0) ?_
 refine zc (.own (oi 96 3) .int 0 y3.length) [((oi 96 3), some (.arr 3 .int y3))] [(ai a0)] (ok_impl_zeros h3) ?_
 refine rsB 1 ?_
 refine rnil (tn_ ?_)
 refine wr_ ?_
 refine awp_seqB h (fun (l4_m3 : List Int) S_ => S_ = ⟨mkTm [(3, (.own (oi 0 1) .int 0 l4_m3.length))], mkOb (someL [((oi 0 1), .arr 3 .int l4_m3)]), 2⟩) ?_ ?_
 ·intro v_ h
  refine seqR ?_
  refine awp_block_ ?_
  refine awp_loopL h (fun t_ S_ => ∃ (l6_m9 : Nat), ∃ (l6_m3 : List Int), t_ = (l6_m9, l6_m3) ∧ S_ = ⟨mkTm [(3, (.own (oi 0 1) .int 0 l6_m3.length)), (8, (ai ((y3.length : Nat) : Int))), (9, (ai ((l6_m9 : Nat) : Int)))], mkOb (someL [((oi 0 1), .arr 3 .int l6_m3)]), 2⟩) ⟨_, (weak_ren [((oi 0 1), (oi 96 3))]), ⟨0, y3, rfl, rfl⟩⟩ ?_
  rintro n_ _ _ c_ ⟨l6_m9, l6_m3, rfl, rfl⟩ h hn6
  (try dsimp only at h)
  unfold L_impl_upTo_l1 at h
  unfold m_impl_upTo_l1
  refine seqR ?_
  refine awp_seqv_ ?_
  rcases cond_some h with ⟨q9, h⟩ | ⟨q9, h⟩
  ·have q9_ := of_decide_eq_true q9
   refine awp_condT_ q9 ?_
   refine awp_skip_ (tn_ ?_)
   refine wr_ ?_
   refine awp_seqv_ ?_
   refine awp_block_ ?_
   refine seqR ?_
   obtain ⟨x12, e12, h⟩ := ob_some h
   refine awp_region_ 10 ?_
   refine rz0 (.own (oi 0 1) .int 0 l6_m3.length) ?_
   refine rz0 (ai ((l6_m9 : Nat) : Int)) ?_
   refine rz0 (ai ((l6_m9 : Nat) : Int)) ?_
   refine rs0 (.elt (oi 0 1) l6_m9 0) (zo (t := .int) (o := (oi 0 1)) (len := l6_m3.length) (k := .i64) (m := ((l6_m9 : Nat) : Int)) (nat_nn _) (getN_lt e12)) ?_
   refine rsn2 (oi 0 1) (oi 0 1) (.arr 3 .int (l6_m3.set l6_m9 ((l6_m9 : Nat) : Int))) (s_stE (i := (oi 0 1)) (j := l6_m9) (k := 0) (e := 3) (t := .int) (xs := l6_m3) (cs := [(ai ((l6_m9 : Nat) : Int))]) (x1 := ((l6_m9 : Nat) : Int)) (by kernel_rfl) (by kernel_rfl) e12 (by kernel_rfl) (by kernel_rfl)) ?_
   refine rnil (bn_ (tn_ ?_))
   refine wr_ ?_
   obtain ⟨g13, h⟩ := og_some h
   refine awp_region_ 12 ?_
   refine rs0 (ai ((l6_m9 + 1 : Nat) : Int)) (za g13) ?_
   refine rsB 1 ?_
   refine rnil (tn_ ?_)
   obtain rfl := zj h
   exact ⟨(l6_m9 + 1, l6_m3.set l6_m9 ((l6_m9 : Nat) : Int)), _, ((weak_tm_ 3 (.own (oi 0 1) .int 0 l6_m3.length) (.own (oi 0 1) .int 0 ((l6_m3.set l6_m9 ((l6_m9 : Nat) : Int)).length)) (by kernel_rfl) (congrArg (fun z_ => ((.own (oi 0 1) .int 0 z_) : AV)) (((rfl : l6_m3.length = l6_m3.length).trans List.length_set.symm) : l6_m3.length = (l6_m3.set l6_m9 ((l6_m9 : Nat) : Int)).length))).trans (weak_ren [])), ⟨l6_m9 + 1, l6_m3.set l6_m9 ((l6_m9 : Nat) : Int), rfl, rfl⟩, hn6⟩
  have q9_ := of_decide_eq_false q9
  refine awp_condF_ q9 ?_
  refine awp_exit_ (te_ (te_ (be_ (tn_ ?_))))
  obtain rfl := zj h
  have h := hn6
  (try dsimp only at h)
  obtain rfl := zj h
  exact ⟨_, (weak_ren []), rfl⟩
 rintro l4_m3 _ rfl h
 (try dsimp only at h)
 refine seqR ?_
 refine awp_ret_ ?_
 obtain rfl := zj h
 exact ret_ [(.own (oi 0 1) .int 0 l4_m3.length)] (p_one rfl (l_own (by kernel_rfl) rfl) p_nil)
def m_impl_chosen_l1 : AC :=
 (.seq (rg [xo 14 (qb .lss (tm 13) (tm 12))])
 (.seq (.cond (tm 14)
  .skip
  (.exit 0))
 (.seq (.block 1 (.seq (rg [xo 15 (qx 1 (tm 11) (tm 13)), xo 16 (ql (tm 15)), xo 7 (qm (tm 16))])
 (rg [xo 17 (qm (tm 5)), xo 18 (qm (tm 0)), xo 19 (qm (tm 7)), xo 20 (qx 1 (tm 18) (tm 19)), xo 21 (ql (tm 20)), xo 22 (.mkS 3 .int [(tm 21)]), xo 23 (.append 3 .int 8 (tm 17) (tm 22)), xo 5 (qm (tm 23))])))
 (rg [xo 24 (qb .add (tm 13) (ci 1)), xo 13 (qm (tm 24))]))))
def m_impl_chosen : AC :=
 (.seq (rg [xo 4 (qm (.cst .nils))])
 (.seq (rg [xo 8 (qm (tm 1)), xo 9 (.i (.len (tm 8))), xo 10 (.make 3 .int 8 (ci 0) (tm 9)), xo 5 (qm (tm 10))])
 (.seq (.seq (rg [xo 11 (qm (tm 1)), xo 12 (.i (.len (tm 11))), xo 13 (qm (ci 0))])
 (.block 0 (.loop m_impl_chosen_l1)))
 (.seq (rg [xo 25 (qm (tm 5)), xo 4 (qm (tm 25))])
 .ret))))
def r_impl_chosen : List Res := [.tmp 4]
theorem c_impl_chosen : compiled Tryd.prog Tryd.f107 = some (m_impl_chosen, r_impl_chosen) := by kernel_rfl
def L_impl_chosen_l1 (a1 : List Int) (a0 : List Int) (l6_m13 : Nat) (l6_m5 : List Int) : Option (Ctl (Nat × List Int) (List Int)) :=
 cond (decide (((l6_m13 : Nat) : Int) < ((a1.length : Nat) : Int)))
 (Option.bind (a1[l6_m13]?) fun x12 =>
 Option.bind (getI a0 x12) fun x13 =>
 og (l6_m5.length + 1 <= 1073741824 ∧ (l6_m5.length + 1) * 8 <= 140737488355328) <|
 og (l6_m13 + 1 < 4611686018427387904) <|
 some (Ctl.next (l6_m13 + 1, l6_m5 ++ ([x13]))))
 (some (Ctl.out l6_m5))
def L_impl_chosen (a0 : List Int) (a1 : List Int) : Option (List Int) :=
 og (0 <= (0 : Int) ∧ (0 : Int) <= ((a1.length : Nat) : Int) ∧ ((a1.length : Nat) : Int) <= 1073741824 ∧ (8 : Int) * ((a1.length : Nat) : Int) <= 140737488355328) <|
Option.bind (loopM (fun s_ : Nat × List Int => L_impl_chosen_l1 a1 a0 s_.1 s_.2) 4611686018427387904 (0, List.replicate 0 (0 : Int))) fun l4_m5 =>
some l4_m5
def rv_impl_chosen (r : List Int) : RV := ⟨false, [(false, [.new 3 .int r])]⟩
theorem ok_impl_chosen {a0 : List Int} {a1 : List Int} {r : List Int} (h : L_impl_chosen a0 a1 = some r) : CallOK Tryd.prog Tab 107 [(.tree .int a0), (.tree .int a1)] (rv_impl_chosen r) := by
 refine call_of_ (by kernel_rfl) Tryd.func107 c_impl_chosen (n := 26) (by kernel_rfl) (by simp) (tl := [(0, (.tree .int a0)), (1, (.tree .int a1))]) rfl ?_
 unfold m_impl_chosen
 unfold L_impl_chosen at h
 refine seqR ?_
 refine awp_seqv_ ?_
 obtain ⟨g3, h⟩ := og_some h
 refine awp_region_ 6 ?_
 refine rz0 (.tree .int a1) ?_
 refine rz0 (ai ((a1.length : Nat) : Int)) ?_
 refine rs1 (.own (oi 10 4) .int 0 0) (oi 10 4) (.arr 3 .int (List.replicate 0 (0 : Int))) (s_make (t := .int) (k := .i64) (k' := .i64) (m := 0) (m' := ((a1.length : Nat) : Int)) (by kernel_rfl) (by kernel_rfl) g3 rfl) ?_
 refine rsB 1 ?_
 refine rnil (tn_ ?_)
 refine wr_ ?_
 refine awp_seqB h (fun (l4_m5 : List Int) S_ => S_ = ⟨mkTm [(5, (.own (oi 0 1) .int 0 l4_m5.length))], mkOb (someL [((oi 0 1), .arr 3 .int l4_m5)]), 2⟩) ?_ ?_
 ·intro v_ h
  refine seqR ?_
  refine awp_block_ ?_
  refine awp_loopL h (fun t_ S_ => ∃ (l6_m13 : Nat), ∃ (l6_m5 : List Int), t_ = (l6_m13, l6_m5) ∧ S_ = ⟨mkTm [(0, (.tree .int a0)), (5, (.own (oi 0 1) .int 0 l6_m5.length)), (11, (.tree .int a1)), (12, (ai ((a1.length : Nat) : Int))), (13, (ai ((l6_m13 : Nat) : Int)))], mkOb (someL [((oi 0 1), .arr 3 .int l6_m5)]), 2⟩) ⟨_, ((weak_tm_ 5 (.own (oi 10 4) .int 0 0) (.own (oi 10 4) .int 0 ((List.replicate 0 (0 : Int)).length)) (by kernel_rfl) (congrArg (fun z_ => ((.own (oi 10 4) .int 0 z_) : AV)) (List.length_replicate.symm : 0 = (List.replicate 0 (0 : Int)).length))).trans (weak_ren [((oi 0 1), (oi 10 4))])), ⟨0, List.replicate 0 (0 : Int), rfl, rfl⟩⟩ ?_
  rintro n_ _ _ c_ ⟨l6_m13, l6_m5, rfl, rfl⟩ h hn6
  (try dsimp only at h)
  unfold L_impl_chosen_l1 at h
  unfold m_impl_chosen_l1
  refine seqR ?_
  refine awp_seqv_ ?_
  rcases cond_some h with ⟨q9, h⟩ | ⟨q9, h⟩
  ·have q9_ := of_decide_eq_true q9
   refine awp_condT_ q9 ?_
   refine awp_skip_ (tn_ ?_)
   refine wr_ ?_
   refine awp_seqv_ ?_
   refine awp_block_ ?_
   refine awp_seqv_ ?_
   obtain ⟨x12, e12, h⟩ := ob_some h
   refine awp_region_ 6 ?_
   refine rs0 (.telt .int x12 0) (zi (t := .int) (xs := a1) (k := .i64) (m := ((l6_m13 : Nat) : Int)) (nat_nn _) e12) ?_
   refine rsB 2 ?_
   refine rnil (tn_ ?_)
   refine wr_ ?_
   obtain ⟨x13, f13, h⟩ := ob_some h
   obtain ⟨p13, b13, e13⟩ := getI_some f13
   obtain ⟨g14, h⟩ := og_some h
   refine awp_region_ 14 ?_
   refine rz0 (.own (oi 0 1) .int 0 l6_m5.length) ?_
   refine rz0 (.tree .int a0) ?_
   refine rz0 (ai x12) ?_
   refine rs0 (.telt .int x13 0) (zi (t := .int) (xs := a0) (k := .i64) (m := x12) p13 e13) ?_
   refine rz0 (ai x13) ?_
   refine rs1 (.own (oi 22 11) .int 0 1) (oi 22 11) (.arr 3 .int ([x13])) (by kernel_rfl) ?_
   refine rs2 (.own (oi 0 12) .int 0 ((l6_m5 ++ ([x13])).length)) (oi 0 1) (oi 0 12) (.arr 3 .int (l6_m5 ++ ([x13]))) (s_appO (t := .int) (t' := .int) (xs := l6_m5) (ys := [x13]) (zs := l6_m5 ++ ([x13])) (j := (oi 0 1)) (len := l6_m5.length) (c := (.own (oi 22 11) .int 0 1)) (by kernel_rfl) (by kernel_rfl) rfl (by kernel_rfl) (sr_own (e := 3) (by kernel_rfl) rfl) rfl g14) ?_
   refine rsB 1 ?_
   refine rnil (bn_ (tn_ ?_))
   refine wr_ ?_
   obtain ⟨g15, h⟩ := og_some h
   refine awp_region_ 16 ?_
   refine rs0 (ai ((l6_m13 + 1 : Nat) : Int)) (za g15) ?_
   refine rsB 1 ?_
   refine rnil (tn_ ?_)
   obtain rfl := zj h
   exact ⟨(l6_m13 + 1, l6_m5 ++ ([x13])), _, (weak_ren [((oi 0 1), (oi 0 12))]), ⟨l6_m13 + 1, l6_m5 ++ ([x13]), rfl, rfl⟩, hn6⟩
  have q9_ := of_decide_eq_false q9
  refine awp_condF_ q9 ?_
  refine awp_exit_ (te_ (te_ (be_ (tn_ ?_))))
  obtain rfl := zj h
  have h := hn6
  (try dsimp only at h)
  obtain rfl := zj h
  exact ⟨_, (weak_ren []), rfl⟩
 rintro l4_m5 _ rfl h
 (try dsimp only at h)
 refine seqR ?_
 refine awp_ret_ ?_
 obtain rfl := zj h
 exact ret_ [(.own (oi 0 1) .int 0 l4_m5.length)] (p_one rfl (l_own (by kernel_rfl) rfl) p_nil)
end Go.Proofs.YtedphkkbjpcjeaaDoor
namespace Go.Proofs.YtedphkkbjpcjeaaDoor
open Go.RowKit Go.Deep
end Go.Proofs.YtedphkkbjpcjeaaDoor
namespace Go.Proofs.YtedphkkbjpcjeaaDoor
open Go.RowKit Go.Deep
theorem rd_kid {f : Nat -> AV} {ob : Oid -> Option Ob} {d : Option Nat} {gd : Option (Nat × Bool)} {fo y : Opd} {ys : List Opd} {tys : List (List (Option Ty))} {i p : Oid} {t u : Ty} {off len z m k : Nat} {e1 : TypeId} {xss : List (List u.D)} (n : Nat) (hy : ys[n]? = some y) (he : y.ev f = .own i t off len) (hob : ob i = some (.vec e1 z m (hdL p u xss))) (hk : k < xss.length) : kid p k ∈ rdX f ob ⟨d, gd, .call fo ys tys⟩ := by
 refine List.mem_flatMap.2 ⟨y, List.mem_cons_of_mem _ (List.mem_of_getElem? hy), ?_⟩
 rw [he]
 show kid p k ∈ deepT ob (7 + 1) (.own i t off len)
 unfold deepT
 dsimp only
 rw [hob]
 refine List.mem_cons_of_mem _ (List.mem_flatMap.2 ⟨.own (kid p k) u 0 xss[k].length, List.mem_of_getElem? (i := k) (by rw [hdL_get, List.getElem?_eq_getElem hk]; rfl), ?_⟩)
 exact List.mem_singleton.2 rfl
theorem pool_rowsD {f : Nat -> AV} {ob : Oid -> Option Ob} {d : Option Nat} {gd : Option (Nat × Bool)} {fo y : Opd} {ys : List Opd} {tys : List (List (Option Ty))} {i p : Oid} {t u : Ty} {off len z m : Nat} {e e1 : TypeId} {xss : List (List u.D)} (n : Nat) (hy : ys[n]? = some y) (he : y.ev f = .own i t off len) (hob : ob i = some (.vec e1 z m (hdL p u xss))) (hr : ∀ (k : Nat) (row : List u.D), xss[k]? = some row -> ob (kid p k) = some (.arr e u row)) (k : Nat) (row : List u.D) (h : xss[k]? = some row) : only (rdX f ob ⟨d, gd, .call fo ys tys⟩) ob (kid p k) = some (.arr e u row) := (only_in (rd_kid n hy he hob (List.getElem?_eq_some_iff.1 h).1)).trans (hr k row h)
end Go.Proofs.YtedphkkbjpcjeaaDoor
namespace Go.Proofs.YtedphkkbjpcjeaaDoor
open Go.RowKit Go.Deep
theorem tupA_map : ∀ (n : Nat) (l : List Int), l.length = n + 1 -> (tyA n).av (tupA n l) = l.map (AV.int .i64)
 | 0, [x], _ => rfl
 | 0, [], h => by cases h
 | 0, _ :: _ :: _, h => by simp at h
 | n + 1, [], h => by cases h
 | n + 1, x :: l, h => by
  have := tupA_map n l (by simpa using h)
  simp only [tyA, tupA, Ty.av, List.tail_cons, this]; rfl
theorem rd_kidA {f : Nat -> AV} {ob : Oid -> Option Ob} {d : Option Nat} {gd : Option (Nat × Bool)} {fo y : Opd} {ys : List Opd} {tys : List (List (Option Ty))} {az : List AV} {i p : Oid} {t u : Ty} {off len z m k : Nat} {e1 : TypeId} {xss : List (List u.D)} (n j : Nat) (hy : ys[n]? = some y) (he : y.ev f = .agg az) (hj : az[j]? = some (.own i t off len)) (hob : ob i = some (.vec e1 z m (hdL p u xss))) (hk : k < xss.length) : kid p k ∈ rdX f ob ⟨d, gd, .call fo ys tys⟩ := by
 refine List.mem_flatMap.2 ⟨y, List.mem_cons_of_mem _ (List.mem_of_getElem? hy), ?_⟩
 rw [he]
 show kid p k ∈ deepT ob (7 + 1) (.agg az)
 unfold deepT
 dsimp only
 refine List.mem_flatMap.2 ⟨_, List.mem_of_getElem? hj, ?_⟩
 show kid p k ∈ deepT ob (6 + 1) (.own i t off len)
 unfold deepT
 dsimp only
 rw [hob]
 refine List.mem_cons_of_mem _ (List.mem_flatMap.2 ⟨.own (kid p k) u 0 xss[k].length, List.mem_of_getElem? (i := k) (by rw [hdL_get, List.getElem?_eq_getElem hk]; rfl), ?_⟩)
 exact List.mem_singleton.2 rfl
theorem pool_rowsA {f : Nat -> AV} {ob : Oid -> Option Ob} {d : Option Nat} {gd : Option (Nat × Bool)} {fo y : Opd} {ys : List Opd} {tys : List (List (Option Ty))} (az : List AV) {i p : Oid} {t u : Ty} {off len z m : Nat} {e e1 : TypeId} {xss : List (List u.D)} (n j : Nat) (hy : ys[n]? = some y) (he : y.ev f = .agg az) (hj : az[j]? = some (.own i t off len)) (hob : ob i = some (.vec e1 z m (hdL p u xss))) (hr : ∀ (k : Nat) (row : List u.D), xss[k]? = some row -> ob (kid p k) = some (.arr e u row)) (k : Nat) (row : List u.D) (h : xss[k]? = some row) : only (rdX f ob ⟨d, gd, .call fo ys tys⟩) ob (kid p k) = some (.arr e u row) := (only_in (rd_kidA n j hy he hj hob (List.getElem?_eq_some_iff.1 h).1)).trans (hr k row h)
theorem rd_ownA {f : Nat -> AV} {ob : Oid -> Option Ob} {d : Option Nat} {gd : Option (Nat × Bool)} {fo y : Opd} {ys : List Opd} {tys : List (List (Option Ty))} (az : List AV) {i : Oid} {t : Ty} {off len : Nat} (n j : Nat) (hy : ys[n]? = some y) (he : y.ev f = .agg az) (hj : az[j]? = some (.own i t off len)) : i ∈ rdX f ob ⟨d, gd, .call fo ys tys⟩ := by
 refine List.mem_flatMap.2 ⟨y, List.mem_cons_of_mem _ (List.mem_of_getElem? hy), ?_⟩
 rw [he]
 show i ∈ deepT ob (7 + 1) (.agg az)
 unfold deepT
 dsimp only
 refine List.mem_flatMap.2 ⟨_, List.mem_of_getElem? hj, ?_⟩
 show i ∈ deepT ob (6 + 1) (.own i t off len)
 unfold deepT
 dsimp only
 split <;> simp
theorem l_tup {vs : List Value} {ob : Oid -> Option Ob} : ∀ (n : Nat) (l : List Int), LeavesR vs ob ((tyA n).av (tupA n l)) (((tyA n).av (tupA n l)).map .sc)
 | 0, _ => l_cons (l_sc rfl) l_nil
 | n + 1, l => l_cons (l_sc rfl) (l_tup n l.tail)
section
variable {n : Nat} {d : Option Nat} {f : Nat -> AV} {ob : Oid -> Option Ob}
theorem s_slA {N : Nat} {x : Opd} {i : Oid} {j : Nat} {e : TypeId} {xs : List (tyA N).D} (hx : x.ev f = .elt i j 0) (hob : ob i = some (.arr e (tyA N) xs)) (hs : (tyA N).size = N + 1) : stepX n ⟨d, none, .slA (N + 1) x⟩ f ob = some (1, .sla i j (N + 1), []) := by
 simp [stepX, ev, evSlA, hx, hob, hs]
theorem s_copyA {N : Nat} {x y : Opd} {i : Oid} {e : TypeId} {l ys zs : List Int} (hx : x.ev f = .sla i 0 (N + 1)) (hy : srcOf ob .int (y.ev f) = some ys) (hob : ob i = some (.arr e (tyA N) [tupA N l])) (hs : (tyA N).size = N + 1) (hl : l.length = N + 1) (hz : ys.take (N + 1) ++ l.drop (ys.take (N + 1)).length = zs) :
  stepX n ⟨d, none, .copy x y⟩ f ob = some (2, .int .i64 ((ys.take (N + 1)).length : Nat), [(i, none), (i, some (.arr e (tyA N) [tupA N zs]))]) := by
 subst hz
 have hzl : (ys.take (N + 1) ++ l.drop (ys.take (N + 1)).length).length = N + 1 := by
  simp only [List.length_append, List.length_take, List.length_drop]; omega
 have h1 := tupA_map N l hl
 have h2 := tupA_map N _ hzl
 have h3 := tupA_ofAV N (ys.take (N + 1) ++ l.drop (ys.take (N + 1)).length)
 have h4 : (ys.take (N + 1)).length <= N + 1 := by rw [List.length_take]; omega
 have hc : stCells false (ys.take (N + 1)).length 0 ((tyA N).av (tupA N l)) (.agg ((ys.take (N + 1)).map (AV.int .i64))) = some ((tyA N).av (tupA N (ys.take (N + 1) ++ l.drop (ys.take (N + 1)).length))) := by
  rw [h1, h2]
  generalize ys.take (N + 1) = z at h4 ⊢
  have h5 : (z.map (AV.int .i64)).all AV.one = true := by rw [List.all_eq_true]; intro a ha; obtain ⟨b, _, rfl⟩ := List.mem_map.1 ha; rfl
  simp only [stCells, Bool.false_eq_true, if_false, List.length_map, Nat.zero_add, List.take_zero, List.nil_append, List.map_append, List.map_drop]
  rw [if_pos (by first | exact ⟨rfl, by omega, h5⟩ | exact ⟨trivial, by omega, h5⟩)]
 have e1 : evCopy f ob x y = some (.int .i64 ((ys.take (N + 1)).length : Nat), [(i, none), (i, some (.arr e (tyA N) [tupA N (ys.take (N + 1) ++ l.drop (ys.take (N + 1)).length)]))]) := by
  unfold evCopy
  rw [hx]
  dsimp only
  rw [hy]
  dsimp only
  rw [hob]
  dsimp only [List.getElem?_cons_zero]
  rw [hc]
  dsimp only
  rw [h3]
  dsimp only
  rw [if_pos hs]
  rfl
 simp only [stepX, ev, e1]
end
end Go.Proofs.YtedphkkbjpcjeaaDoor
