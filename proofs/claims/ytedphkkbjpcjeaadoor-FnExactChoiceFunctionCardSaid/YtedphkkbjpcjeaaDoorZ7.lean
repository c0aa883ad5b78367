/- Lemmas on the program and on partial functions that stand in place of its code (part 7); no condition beyond those that each one states. -/
import Derived.Test.YtedphkkbjpcjeaaDoorZ6
namespace Go.Proofs.YtedphkkbjpcjeaaDoor
open Go.RowKit Go.Deep
set_option maxRecDepth 4000
def m_laws_szIntSS_l1 : AC :=
 (.seq (.seq (rg [xo 12 (qm (tm 5)), xo 13 (qm (tm 0)), xo 14 (.i (.len (tm 13))), xo 15 (qb .lss (tm 12) (tm 14))])
 (.cond (tm 15)
  .skip
  (.exit 0)))
 (.seq (.block 1 (.seq (rg [xo 18 (qm (tm 0)), xo 19 (qm (tm 5)), xo 20 (qx 1 (tm 18) (tm 19)), xo 21 (ql (tm 20)), xo 22 (qm (tm 1)), xo 23 (qc 60 [(tm 21), (tm 22)] [[(some .int)], []]), xo 1 (qm (tm 23))])
 (.seq (rg [xo 24 (qm (tm 1)), xo 25 (qb .lss (tm 24) (ci 0))])
 (.cond (tm 25)
  (.seq (rg [xo 4 (qm (ci (-1)))])
  .ret)
  .skip))))
 (rg [xo 16 (qm (tm 5)), xo 17 (qb .add (tm 16) (ci 1)), xo 5 (qm (tm 17))])))
def m_laws_szIntSS : AC :=
 (.seq (rg [xo 4 (qm (ci 0))])
 (.seq (rg [xo 6 (qm (tm 1)), xo 7 (qm (tm 0)), xo 8 (.i (.len (tm 7))), xo 9 (qb .sub (tm 6) (tm 8)), xo 1 (qm (tm 9))])
 (.seq (.seq (rg [xo 10 (qm (tm 1)), xo 11 (qb .lss (tm 10) (ci 0))])
 (.cond (tm 11)
  (.seq (rg [xo 4 (qm (ci (-1)))])
  .ret)
  .skip))
 (.seq (.seq (rg [xo 5 (qm (ci 0))])
 (.block 0 (.loop m_laws_szIntSS_l1)))
 (.seq (rg [xo 26 (qm (tm 1)), xo 4 (qm (tm 26))])
 .ret)))))
def r_laws_szIntSS : List Res := [.tmp 4]
theorem c_laws_szIntSS : compiled Tryd.prog Tryd.f30 = some (m_laws_szIntSS, r_laws_szIntSS) := by kernel_rfl
def L_laws_szIntSS_l1 (a0 : List (List Int)) (l9_m1 : Int) (l9_m5 : Nat) : Option (Ctl (Int × Nat) (Ctl Int Int)) :=
 cond (decide (((l9_m5 : Nat) : Int) < ((a0.length : Nat) : Int)))
 (Option.bind (a0[l9_m5]?) fun x15 =>
 Option.bind (L_laws_szIntS x15 l9_m1) fun y16 =>
 cond (decide (y16 < 0))
  (some (Ctl.out (Ctl.out (-1))))
  (og (l9_m5 + 1 < 4611686018427387904) <|
  some (Ctl.next (y16, l9_m5 + 1))))
 (some (Ctl.out (Ctl.next l9_m1)))
def L_laws_szIntSS (a0 : List (List Int)) (a1 : Int) : Option Int :=
 cond (decide (IntKind.i64.wrap (a1 - ((a0.length : Nat) : Int)) < 0))
 (some (-1))
 (seqC (loopM (fun s_ : Int × Nat => L_laws_szIntSS_l1 a0 s_.1 s_.2) 4611686018427387904 (IntKind.i64.wrap (a1 - ((a0.length : Nat) : Int)), 0)) fun l7_m1 =>
 some l7_m1)
def rv_laws_szIntSS (r : Int) : RV := ⟨false, [(false, [.sc (.int .i64 r)])]⟩
theorem ok_laws_szIntSS {a0 : List (List Int)} {a1 : Int} {r : Int} (h : L_laws_szIntSS a0 a1 = some r) : CallOK Tryd.prog Tab 30 [(.tree (.slice .int) a0), (ai a1)] (rv_laws_szIntSS r) := by
 refine call_of_ (by kernel_rfl) Tryd.func30 c_laws_szIntSS (n := 27) (by kernel_rfl) (by simp) (tl := [(0, (.tree (.slice .int) a0)), (1, (ai a1))]) rfl ?_
 unfold m_laws_szIntSS
 unfold L_laws_szIntSS at h
 refine seqR ?_
 refine seqR ?_
 refine awp_seqv_ ?_
 refine seqR ?_
 rcases cond_some h with ⟨q5, h⟩ | ⟨q5, h⟩
 ·have q5_ := of_decide_eq_true q5
  refine awp_condT_ q5 ?_
  refine seqR ?_
  refine awp_ret_ (tr_ ?_)
  obtain rfl := zj h
  exact ret_ [(ai (-1))] (p_one rfl zl p_nil)
 have q5_ := of_decide_eq_false q5
 refine awp_condF_ q5 ?_
 refine awp_skip_ (tn_ ?_)
 refine wr_ ?_
 refine awp_seqC h (fun (l7_m1 : Int) S_ => S_ = ⟨mkTm [(1, (ai l7_m1))], mkOb (someL []), 2⟩) ?_ ?_
 ·intro v_ h hk7
  refine seqR ?_
  refine awp_block_ ?_
  refine awp_loopL h (fun t_ S_ => ∃ (l9_m1 : Int), ∃ (l9_m5 : Nat), t_ = (l9_m1, l9_m5) ∧ S_ = ⟨mkTm [(0, (.tree (.slice .int) a0)), (1, (ai l9_m1)), (5, (ai ((l9_m5 : Nat) : Int)))], mkOb (someL []), 2⟩) ⟨_, (weak_ren []), ⟨IntKind.i64.wrap (a1 - ((a0.length : Nat) : Int)), 0, rfl, rfl⟩⟩ ?_
  rintro n_ _ _ c_ ⟨l9_m1, l9_m5, rfl, rfl⟩ h hn9
  (try dsimp only at h)
  unfold L_laws_szIntSS_l1 at h
  unfold m_laws_szIntSS_l1
  refine awp_seqv_ ?_
  refine seqR ?_
  rcases cond_some h with ⟨q12, h⟩ | ⟨q12, h⟩
  ·have q12_ := of_decide_eq_true q12
   refine awp_condT_ q12 ?_
   refine awp_skip_ (tn_ ?_)
   refine wr_ ?_
   refine awp_seqv_ ?_
   refine awp_block_ ?_
   refine awp_seqv_ ?_
   obtain ⟨x15, e15, h⟩ := ob_some h
   obtain ⟨y16, h16, h⟩ := ob_some h
   refine awp_region_ 13 ?_
   refine rz0 (.tree (.slice .int) a0) ?_
   refine rz0 (ai ((l9_m5 : Nat) : Int)) ?_
   refine rs0 (.telt (.slice .int) x15 0) (zi (t := (.slice .int)) (xs := a0) (k := .i64) (m := ((l9_m5 : Nat) : Int)) (nat_nn _) e15) ?_
   refine rz0 (.tree .int x15) ?_
   refine rz0 (ai l9_m1) ?_
   refine zc (ai y16) [] [(.tree .int x15), (ai l9_m1)] (ok_laws_szIntS h16) ?_
   refine rsB 1 ?_
   refine rnil (tn_ ?_)
   refine wr_ ?_
   refine seqR ?_
   rcases cond_some h with ⟨q18, h⟩ | ⟨q18, h⟩
   ·have q18_ := of_decide_eq_true q18
    refine awp_condT_ q18 ?_
    refine seqR ?_
    refine awp_ret_ (br_ (tr_ (tr_ (br_ (tr_ ?_)))))
    obtain rfl := zj h
    have h := hn9
    (try dsimp only at h)
    obtain rfl := zj h
    have h := hk7
    (try dsimp only at h)
    obtain rfl := zj h
    exact ret_ [(ai (-1))] (p_one rfl zl p_nil)
   have q18_ := of_decide_eq_false q18
   refine awp_condF_ q18 ?_
   refine awp_skip_ (bn_ (tn_ ?_))
   refine wr_ ?_
   obtain ⟨g20, h⟩ := og_some h
   refine awp_region_ 18 ?_
   refine rz0 (ai ((l9_m5 : Nat) : Int)) ?_
   refine rs0 (ai ((l9_m5 + 1 : Nat) : Int)) (za g20) ?_
   refine rsB 1 ?_
   refine rnil (tn_ ?_)
   obtain rfl := zj h
   exact ⟨(y16, l9_m5 + 1), _, (weak_ren []), ⟨y16, l9_m5 + 1, rfl, rfl⟩, hn9⟩
  have q12_ := of_decide_eq_false q12
  refine awp_condF_ q12 ?_
  refine awp_exit_ (te_ (te_ (be_ (tn_ ?_))))
  obtain rfl := zj h
  have h := hn9
  (try dsimp only at h)
  obtain rfl := zj h
  exact ⟨l9_m1, _, rfl, (weak_ren []), rfl⟩
 rintro l7_m1 _ rfl h
 (try dsimp only at h)
 refine seqR ?_
 refine awp_ret_ ?_
 obtain rfl := zj h
 exact ret_ [(ai l7_m1)] (p_one rfl zl p_nil)
def m_laws_toIntSS_l1 : AC :=
 (.seq (.seq (rg [xo 8 (qm (tm 4)), xo 9 (qm (tm 0)), xo 10 (.i (.len (tm 9))), xo 11 (qb .lss (tm 8) (tm 10))])
 (.cond (tm 11)
  .skip
  (.exit 0)))
 (.seq (.block 1 (rg [xo 14 (qm (tm 3)), xo 15 (qm (tm 4)), xo 16 (qm (tm 0)), xo 17 (qm (tm 4)), xo 18 (qx 1 (tm 16) (tm 17)), xo 19 (ql (tm 18)), xo 20 (qc 22 [(tm 19)] [[(some .int)]]), xo 21 (qx 1 (tm 14) (tm 15)), xn (qs (tm 21) (tm 20))]))
 (rg [xo 12 (qm (tm 4)), xo 13 (qb .add (tm 12) (ci 1)), xo 4 (qm (tm 13))])))
def m_laws_toIntSS : AC :=
 (.seq (rg [xo 2 (qm (.cst .nils))])
 (.seq (rg [xo 5 (qm (tm 0)), xo 6 (.i (.len (tm 5))), xo 7 (.makeV 42 (.slice .int) 24 [.nils] (tm 6) (tm 6)), xo 3 (qm (tm 7))])
 (.seq (.seq (rg [xo 4 (qm (ci 0))])
 (.block 0 (.loop m_laws_toIntSS_l1)))
 (.seq (rg [xo 22 (qm (tm 3)), xo 2 (qm (tm 22))])
 .ret))))
def r_laws_toIntSS : List Res := [.tmp 2]
theorem c_laws_toIntSS : compiled Tryd.prog Tryd.f33 = some (m_laws_toIntSS, r_laws_toIntSS) := by kernel_rfl
theorem hb_laws_toIntSS : hasBody Tryd.prog 33 = true := by kernel_rfl
def L_laws_toIntSS_l1 (a0 : List (List Int)) (l7_m4 : Nat) (l7_m3 : List (List Int)) : Option (Ctl (Nat × List (List Int)) (List (List Int))) :=
 cond (decide (((l7_m4 : Nat) : Int) < ((a0.length : Nat) : Int)))
 (Option.bind (a0[l7_m4]?) fun x12 =>
 Option.bind (L_laws_toIntS x12) fun y13 =>
 Option.bind (l7_m3[l7_m4]?) fun x14 =>
 og (l7_m4 + 1 < 4611686018427387904) <|
 some (Ctl.next (l7_m4 + 1, l7_m3.set l7_m4 y13)))
 (some (Ctl.out l7_m3))
def L_laws_toIntSS (a0 : List (List Int)) : Option (List (List Int)) :=
 og (0 <= ((a0.length : Nat) : Int) ∧ ((a0.length : Nat) : Int) <= ((a0.length : Nat) : Int) ∧ ((a0.length : Nat) : Int) <= 1073741824 ∧ (24 : Int) * ((a0.length : Nat) : Int) <= 140737488355328) <|
Option.bind (loopM (fun s_ : Nat × List (List Int) => L_laws_toIntSS_l1 a0 s_.1 s_.2) 4611686018427387904 (0, List.replicate a0.length ([] : List Int))) fun l5_m3 =>
some l5_m3
theorem ok_laws_toIntSS {a0 : List (List Int)} {r : List (List Int)} (h : L_laws_toIntSS a0 = some r) : CallM Tryd.prog Tab 33 [(.tree (.slice .int) a0)] [] (.own (oi 0 1) (.slice .int) 0 r.length) [((oi 0 1), .mat 42 (oi 1 1) .int r), ((oi 1 1), .pool 3 .int r)] := by
 refine callM_of_ (by kernel_rfl) Tryd.func33 c_laws_toIntSS (n := 23) (by kernel_rfl) (by simp) (tl := [(0, (.tree (.slice .int) a0))]) rfl (by kernel_rfl) trivial ⟨⟨3, (.tail _ (.head _))⟩, ⟨trivial, trivial⟩⟩ ?_
 unfold m_laws_toIntSS
 unfold L_laws_toIntSS at h
 refine seqR ?_
 refine awp_seqv_ ?_
 obtain ⟨g4, h⟩ := og_some h
 refine awp_region_ 6 ?_
 refine rz0 (.tree (.slice .int) a0) ?_
 refine rz0 (ai ((a0.length : Nat) : Int)) ?_
 refine rmakeM (.own (oi 112 4) (.slice .int) 0 a0.length) (oi 112 4) 42 3 .int (List.replicate a0.length ([] : List Int)) trivial (s_makeM (j := a0.length) (k := .i64) (k' := .i64) (m := ((a0.length : Nat) : Int)) (c := ((a0.length : Nat) : Int)) 3 (by kernel_rfl) (by kernel_rfl) g4 (by kernel_rfl) rfl) (by kernel_rfl) (by rw [List.length_replicate]) (by kernel_rfl) ?_
 refine rsB 1 ?_
 refine rnil (tn_ ?_)
 refine wr_ ?_
 refine awp_seqB h (fun (l5_m3 : List (List Int)) S_ => S_ = ⟨mkTm [(3, (.own (oi 0 1) (.slice .int) 0 l5_m3.length))], mkOb (someL [((oi 0 1), .mat 42 (oi 1 1) .int l5_m3), ((oi 1 1), .pool 3 .int l5_m3)]), 2⟩) ?_ ?_
 ·intro v_ h
  refine seqR ?_
  refine awp_block_ ?_
  refine awp_loopL h (fun t_ S_ => ∃ (l7_m4 : Nat), ∃ (l7_m3 : List (List Int)), t_ = (l7_m4, l7_m3) ∧ S_ = ⟨mkTm [(0, (.tree (.slice .int) a0)), (3, (.own (oi 0 1) (.slice .int) 0 l7_m3.length)), (4, (ai ((l7_m4 : Nat) : Int)))], mkOb (someL [((oi 0 1), .mat 42 (oi 1 1) .int l7_m3), ((oi 1 1), .pool 3 .int l7_m3)]), 2⟩) ⟨_, ((weak_tm_ 3 (.own (oi 112 4) (.slice .int) 0 a0.length) (.own (oi 112 4) (.slice .int) 0 ((List.replicate a0.length ([] : List Int)).length)) (by kernel_rfl) (congrArg (fun z_ => ((.own (oi 112 4) (.slice .int) 0 z_) : AV)) (List.length_replicate.symm : a0.length = (List.replicate a0.length ([] : List Int)).length))).trans (weak_ren [((oi 0 1), (oi 112 4)), ((oi 1 1), (oi 112 4))])), ⟨0, List.replicate a0.length ([] : List Int), rfl, rfl⟩⟩ ?_
  rintro n_ _ _ c_ ⟨l7_m4, l7_m3, rfl, rfl⟩ h hn7
  (try dsimp only at h)
  unfold L_laws_toIntSS_l1 at h
  unfold m_laws_toIntSS_l1
  refine awp_seqv_ ?_
  refine seqR ?_
  rcases cond_some h with ⟨q10, h⟩ | ⟨q10, h⟩
  ·have q10_ := of_decide_eq_true q10
   refine awp_condT_ q10 ?_
   refine awp_skip_ (tn_ ?_)
   refine wr_ ?_
   refine awp_seqv_ ?_
   refine awp_block_ ?_
   obtain ⟨x12, e12, h⟩ := ob_some h
   obtain ⟨y13, h13, h⟩ := ob_some h
   obtain ⟨x14, e14, h⟩ := ob_some h
   refine awp_region_ 15 ?_
   refine rz0 (.own (oi 0 1) (.slice .int) 0 l7_m3.length) ?_
   refine rz0 (ai ((l7_m4 : Nat) : Int)) ?_
   refine rz0 (.tree (.slice .int) a0) ?_
   refine rz0 (ai ((l7_m4 : Nat) : Int)) ?_
   refine rs0 (.telt (.slice .int) x12 0) (zi (t := (.slice .int)) (xs := a0) (k := .i64) (m := ((l7_m4 : Nat) : Int)) (nat_nn _) e12) ?_
   refine rz0 (.tree .int x12) ?_
   refine zc (.own (oi 320 12) .int 0 y13.length) [((oi 320 12), some (.arr 3 .int y13))] [(.tree .int x12)] (ok_laws_toIntS h13) ?_
   refine rs0 (.elt (oi 0 1) l7_m4 0) (zo (t := (.slice .int)) (o := (oi 0 1)) (len := l7_m3.length) (k := .i64) (m := ((l7_m4 : Nat) : Int)) (nat_nn _) (getN_lt e14)) ?_
   refine rsn2 (oi 0 1) (oi 0 1) (.vec 42 1 l7_m3.length ((hdL (oi 1 1) .int l7_m3).set l7_m4 (.own (oi 320 12) .int 0 y13.length))) (s_stV (o := (oi 0 1)) (e1 := 42) (m := l7_m3.length) (cs := hdL (oi 1 1) .int l7_m3) (v := (.own (oi 320 12) .int 0 y13.length)) (j := l7_m4) (by kernel_rfl) (by kernel_rfl) (by kernel_rfl) rfl (by rw [hdL_len]; exact getN_lt e14)) ?_
   refine rnil (bn_ (tn_ ?_))
   refine ⟨_, weak_set_ (e1 := 42) (e := 3) (u := .int) (n := l7_m3.length) (len := y13.length) (row := y13) (ys := y13) (xss := l7_m3) (j := l7_m4) 9000 (oi 0 1) (oi 1 1) (oi 320 12) (by kernel_rfl) (by kernel_rfl) rfl (by kernel_rfl) (by kernel_rfl) (tw_le rfl) (tw_eq rfl) (by kernel_rfl) (by kernel_rfl) (by kernel_rfl), ?_⟩
   obtain ⟨g15, h⟩ := og_some h
   refine awp_region_ 19 ?_
   refine rz0 (ai ((l7_m4 : Nat) : Int)) ?_
   refine rs0 (ai ((l7_m4 + 1 : Nat) : Int)) (za g15) ?_
   refine rsB 1 ?_
   refine rnil (tn_ ?_)
   obtain rfl := zj h
   exact ⟨(l7_m4 + 1, l7_m3.set l7_m4 y13), _, ((weak_tm_ 3 (.own (oi 0 1) (.slice .int) 0 l7_m3.length) (.own (oi 0 1) (.slice .int) 0 ((l7_m3.set l7_m4 y13).length)) (by kernel_rfl) (congrArg (fun z_ => ((.own (oi 0 1) (.slice .int) 0 z_) : AV)) ((Eq.trans (b := l7_m3.length) rfl List.length_set.symm) : l7_m3.length = (l7_m3.set l7_m4 y13).length))).trans (weak_ren [((oi 1 1), (oi 9000 15))])), ⟨l7_m4 + 1, l7_m3.set l7_m4 y13, rfl, rfl⟩, hn7⟩
  have q10_ := of_decide_eq_false q10
  refine awp_condF_ q10 ?_
  refine awp_exit_ (te_ (te_ (be_ (tn_ ?_))))
  obtain rfl := zj h
  have h := hn7
  (try dsimp only at h)
  obtain rfl := zj h
  exact ⟨_, (weak_ren []), rfl⟩
 rintro l5_m3 _ rfl h
 (try dsimp only at h)
 refine seqR ?_
 refine awp_ret_ ?_
 obtain rfl := zj h
 exact retM_ [(.own (oi 0 1) (.slice .int) 0 l5_m3.length)] (weak_ren (tl := [(2, (.own (oi 0 1) (.slice .int) 0 l5_m3.length))]) (g := 2) [])
def m_laws_eqIntSS_l1 : AC :=
 (.seq (.seq (rg [xo 11 (qm (tm 5)), xo 12 (qm (tm 0)), xo 13 (.i (.len (tm 12))), xo 14 (qb .lss (tm 11) (tm 13))])
 (.cond (tm 14)
  .skip
  (.exit 0)))
 (.seq (.block 1 (.seq (.region [xo 17 (qm (tm 0)), xo 18 (qm (tm 5)), xo 19 (qx 1 (tm 17) (tm 18)), xo 20 (ql (tm 19)), xo 21 (qm (tm 1)), xo 22 (qm (tm 5)), xo 23 (qx 1 (tm 21) (tm 22)), xo 24 (ql (tm 23)), xo 25 (qc 25 [(tm 20), (tm 24)] [[(some .int)], [(some .int)]]), xo 26 (.i (.not (tm 25)))] true [])
 (.cond (tm 26)
  (.seq (rg [xo 4 (qm (cb false))])
  .ret)
  .skip)))
 (rg [xo 15 (qm (tm 5)), xo 16 (qb .add (tm 15) (ci 1)), xo 5 (qm (tm 16))])))
def m_laws_eqIntSS : AC :=
 (.seq (rg [xo 4 (qm (cb false))])
 (.seq (.seq (rg [xo 6 (qm (tm 0)), xo 7 (.i (.len (tm 6))), xo 8 (qm (tm 1)), xo 9 (.i (.len (tm 8))), xo 10 (qb .neq (tm 7) (tm 9))])
 (.cond (tm 10)
  (.seq (rg [xo 4 (qm (cb false))])
  .ret)
  .skip))
 (.seq (.seq (rg [xo 5 (qm (ci 0))])
 (.block 0 (.loop m_laws_eqIntSS_l1)))
 (.seq (rg [xo 4 (qm (cb true))])
 .ret))))
def r_laws_eqIntSS : List Res := [.tmp 4]
theorem c_laws_eqIntSS : compiled Tryd.prog Tryd.f37 = some (m_laws_eqIntSS, r_laws_eqIntSS) := by kernel_rfl
def L_laws_eqIntSS_l1 (a0 : List (List Int)) (a1 : List (List Int)) (l8_m5 : Nat) : Option (Ctl Nat (Ctl Unit Bool)) :=
 cond (decide (((l8_m5 : Nat) : Int) < ((a0.length : Nat) : Int)))
 (Option.bind (a0[l8_m5]?) fun x14 =>
 Option.bind (a1[l8_m5]?) fun x15 =>
 Option.bind (L_laws_eqIntS x14 x15) fun y16 =>
 cond (!y16)
  (some (Ctl.out (Ctl.out false)))
  (og (l8_m5 + 1 < 4611686018427387904) <|
  some (Ctl.next (l8_m5 + 1))))
 (some (Ctl.out (Ctl.next ())))
def L_laws_eqIntSS (a0 : List (List Int)) (a1 : List (List Int)) : Option Bool :=
 cond (((a0.length : Nat) : Int) != ((a1.length : Nat) : Int))
 (some false)
 (seqC (loopM (fun s_ : Nat => L_laws_eqIntSS_l1 a0 a1 s_) 4611686018427387904 0) fun _ =>
 some true)
def rv_laws_eqIntSS (r : Bool) : RV := ⟨false, [(false, [.sc (.bool r)])]⟩
theorem ok_laws_eqIntSS {a0 : List (List Int)} {a1 : List (List Int)} {r : Bool} (h : L_laws_eqIntSS a0 a1 = some r) : CallOK Tryd.prog Tab 37 [(.tree (.slice .int) a0), (.tree (.slice .int) a1)] (rv_laws_eqIntSS r) := by
 refine call_of_ (by kernel_rfl) Tryd.func37 c_laws_eqIntSS (n := 27) (by kernel_rfl) (by simp) (tl := [(0, (.tree (.slice .int) a0)), (1, (.tree (.slice .int) a1))]) rfl ?_
 unfold m_laws_eqIntSS
 unfold L_laws_eqIntSS at h
 refine seqR ?_
 refine awp_seqv_ ?_
 refine seqR ?_
 rcases cond_some h with ⟨q4, h⟩ | ⟨q4, h⟩
 ·refine awp_condT_ q4 ?_
  refine seqR ?_
  refine awp_ret_ (tr_ ?_)
  obtain rfl := zj h
  exact ret_ [(.bool false)] (p_one rfl zl p_nil)
 refine awp_condF_ q4 ?_
 refine awp_skip_ (tn_ ?_)
 refine wr_ ?_
 refine awp_seqC h (fun (_ : Unit) S_ => S_ = ⟨mkTm [], mkOb (someL []), 2⟩) ?_ ?_
 ·intro v_ h hk6
  refine seqR ?_
  refine awp_block_ ?_
  refine awp_loopL h (fun (l8_m5 : Nat) S_ => S_ = ⟨mkTm [(0, (.tree (.slice .int) a0)), (1, (.tree (.slice .int) a1)), (5, (ai ((l8_m5 : Nat) : Int)))], mkOb (someL []), 2⟩) ⟨_, (weak_ren []), rfl⟩ ?_
  rintro n_ l8_m5 _ c_ rfl h hn8
  (try dsimp only at h)
  unfold L_laws_eqIntSS_l1 at h
  unfold m_laws_eqIntSS_l1
  refine awp_seqv_ ?_
  refine seqR ?_
  rcases cond_some h with ⟨q11, h⟩ | ⟨q11, h⟩
  ·have q11_ := of_decide_eq_true q11
   refine awp_condT_ q11 ?_
   refine awp_skip_ (tn_ ?_)
   refine wr_ ?_
   refine awp_seqv_ ?_
   refine awp_block_ ?_
   refine awp_seqv_ ?_
   obtain ⟨x14, e14, h⟩ := ob_some h
   obtain ⟨x15, e15, h⟩ := ob_some h
   obtain ⟨y16, h16, h⟩ := ob_some h
   refine awp_regionD_ 16 ?_
   refine dz0 (.tree (.slice .int) a0) ?_
   refine dz0 (ai ((l8_m5 : Nat) : Int)) ?_
   refine ds0 (.telt (.slice .int) x14 0) (zi (t := (.slice .int)) (xs := a0) (k := .i64) (m := ((l8_m5 : Nat) : Int)) (nat_nn _) e14) ?_
   refine dz0 (.tree .int x14) ?_
   refine dz0 (.tree (.slice .int) a1) ?_
   refine dz0 (ai ((l8_m5 : Nat) : Int)) ?_
   refine ds0 (.telt (.slice .int) x15 0) (zi (t := (.slice .int)) (xs := a1) (k := .i64) (m := ((l8_m5 : Nat) : Int)) (nat_nn _) e15) ?_
   refine dz0 (.tree .int x15) ?_
   refine dcall (.bool y16) [] [(.tree .int x14), (.tree .int x15)] _ (caps := []) (args0 := [(.tree .int x14), (.tree .int x15)]) trivial (by kernel_rfl) (ok_laws_eqIntS h16) hb_laws_eqIntS ?_
   refine dz0 (.bool (!y16)) ?_
   refine dnil (badB_spec (by kernel_rfl)) (tn_ ?_)
   refine wr_ ?_
   rcases cond_some h with ⟨q17, h⟩ | ⟨q17, h⟩
   ·refine awp_condT_ q17 ?_
    refine seqR ?_
    refine awp_ret_ (br_ (tr_ (tr_ (br_ (tr_ ?_)))))
    obtain rfl := zj h
    have h := hn8
    (try dsimp only at h)
    obtain rfl := zj h
    have h := hk6
    (try dsimp only at h)
    obtain rfl := zj h
    exact ret_ [(.bool false)] (p_one rfl zl p_nil)
   refine awp_condF_ q17 ?_
   refine awp_skip_ (bn_ (tn_ ?_))
   refine wr_ ?_
   obtain ⟨g19, h⟩ := og_some h
   refine awp_region_ 19 ?_
   refine rz0 (ai ((l8_m5 : Nat) : Int)) ?_
   refine rs0 (ai ((l8_m5 + 1 : Nat) : Int)) (za g19) ?_
   refine rsB 1 ?_
   refine rnil (tn_ ?_)
   obtain rfl := zj h
   exact ⟨l8_m5 + 1, _, (weak_ren []), rfl, hn8⟩
  have q11_ := of_decide_eq_false q11
  refine awp_condF_ q11 ?_
  refine awp_exit_ (te_ (te_ (be_ (tn_ ?_))))
  obtain rfl := zj h
  have h := hn8
  (try dsimp only at h)
  obtain rfl := zj h
  exact ⟨(), _, rfl, (weak_ren []), rfl⟩
 rintro _ _ rfl h
 (try dsimp only at h)
 refine seqR ?_
 refine awp_ret_ ?_
 obtain rfl := zj h
 exact ret_ [(.bool true)] (p_one rfl zl p_nil)
def m_laws_markIntSS_l1 : AC :=
 (.seq (.seq (rg [xo 6 (qm (tm 5)), xo 7 (qm (tm 0)), xo 8 (.i (.len (tm 7))), xo 9 (qb .lss (tm 6) (tm 8))])
 (.cond (tm 9)
  .skip
  (.exit 0)))
 (.seq (.block 1 (rg [xo 12 (qm (tm 0)), xo 13 (qm (tm 5)), xo 14 (qx 1 (tm 12) (tm 13)), xo 15 (ql (tm 14)), xo 16 (qm (tm 1)), xo 17 (qc 27 [(tm 15), (tm 16)] [[(some .int)], []]), xo 1 (qm (tm 17))]))
 (rg [xo 10 (qm (tm 5)), xo 11 (qb .add (tm 10) (ci 1)), xo 5 (qm (tm 11))])))
def m_laws_markIntSS : AC :=
 (.seq (rg [xo 4 (qm (ci 0))])
 (.seq (.seq (rg [xo 5 (qm (ci 0))])
 (.block 0 (.loop m_laws_markIntSS_l1)))
 (.seq (rg [xo 18 (qm (tm 1)), xo 4 (qm (tm 18))])
 .ret)))
def r_laws_markIntSS : List Res := [.tmp 4]
theorem c_laws_markIntSS : compiled Tryd.prog Tryd.f38 = some (m_laws_markIntSS, r_laws_markIntSS) := by kernel_rfl
theorem hb_laws_markIntSS : hasBody Tryd.prog 38 = true := by kernel_rfl
def L_laws_markIntSS_l1  (l5_m1 : Int) (l5_m5 : Nat) (l5_m0 : List (List Int)) : Option (Ctl (Int × Nat × List (List Int)) (Int × List (List Int))) :=
 cond (decide (((l5_m5 : Nat) : Int) < ((l5_m0.length : Nat) : Int)))
 (Option.bind (l5_m0[l5_m5]?) fun x10 =>
 Option.bind (L_laws_markIntS x10 l5_m1) fun y11 =>
 og (y11.1.length = x10.length) <|
 og (l5_m5 + 1 < 4611686018427387904) <|
 some (Ctl.next (y11.2, l5_m5 + 1, l5_m0.set l5_m5 y11.1)))
 (some (Ctl.out (l5_m1, l5_m0)))
def L_laws_markIntSS (a0 : List (List Int)) (a1 : Int) : Option (List (List Int) × Int) :=
 Option.bind (loopM (fun s_ : Int × Nat × List (List Int) => L_laws_markIntSS_l1 s_.1 s_.2.1 s_.2.2) 4611686018427387904 (a1, 0, a0)) fun (l3_m1, l3_p0) =>
some (l3_p0, l3_m1)
theorem ok_laws_markIntSS {a0 : List (List Int)} {a1 : Int} {r : List (List Int) × Int} (h : L_laws_markIntSS a0 a1 = some r) {n_a0 : Nat} (hn_a0 : n_a0 = a0.length) : CallM Tryd.prog Tab 38 [(.own (oi 0 0) (.slice .int) 0 n_a0), (ai a1)] [((oi 0 0), .mat 42 (oi 1 0) .int a0), ((oi 1 0), .pool 3 .int a0)] (ai r.2) [((oi 0 0), .mat 42 (oi 0 1) .int r.1), ((oi 0 1), .pool 3 .int r.1)] := by
 refine callM_of_ (by kernel_rfl) Tryd.func38 c_laws_markIntSS (n := 19) (by kernel_rfl) (by simp) (tl := [(0, (.own (oi 0 0) (.slice .int) 0 n_a0)), (1, (ai a1))]) rfl (by kernel_rfl) ⟨⟨3, (.tail _ (.head _))⟩, ⟨trivial, trivial⟩⟩ ⟨⟨3, (.tail _ (.head _))⟩, ⟨trivial, trivial⟩⟩ ?_
 unfold m_laws_markIntSS
 unfold L_laws_markIntSS at h
 refine seqR ?_
 refine awp_seqB h (fun t_ S_ => ∃ (l3_m1 : Int), ∃ (l3_p0 : List (List Int)), t_ = (l3_m1, l3_p0) ∧ S_ = ⟨mkTm [(1, (ai l3_m1))], mkOb (someL [((oi 0 0), .mat 42 (oi 0 1) .int l3_p0), ((oi 0 1), .pool 3 .int l3_p0)]), 2⟩) ?_ ?_
 ·intro v_ h
  refine seqR ?_
  refine awp_block_ ?_
  refine awp_loopL h (fun t_ S_ => ∃ (l5_m1 : Int), ∃ (l5_m5 : Nat), ∃ (l5_m0 : List (List Int)), t_ = (l5_m1, l5_m5, l5_m0) ∧ S_ = ⟨mkTm [(0, (.own (oi 0 0) (.slice .int) 0 l5_m0.length)), (1, (ai l5_m1)), (5, (ai ((l5_m5 : Nat) : Int)))], mkOb (someL [((oi 0 0), .mat 42 (oi 0 1) .int l5_m0), ((oi 0 1), .pool 3 .int l5_m0)]), 2⟩) ⟨_, ((weak_tm_ 0 (.own (oi 0 0) (.slice .int) 0 n_a0) (.own (oi 0 0) (.slice .int) 0 a0.length) (by kernel_rfl) (congrArg (fun z_ => ((.own (oi 0 0) (.slice .int) 0 z_) : AV)) (hn_a0 : n_a0 = a0.length))).trans (weak_ren [((oi 0 1), (oi 1 0))])), ⟨a1, 0, a0, rfl, rfl⟩⟩ ?_
  rintro n_ _ _ c_ ⟨l5_m1, l5_m5, l5_m0, rfl, rfl⟩ h hn5
  (try dsimp only at h)
  unfold L_laws_markIntSS_l1 at h
  unfold m_laws_markIntSS_l1
  refine awp_seqv_ ?_
  refine seqR ?_
  rcases cond_some h with ⟨q8, h⟩ | ⟨q8, h⟩
  ·have q8_ := of_decide_eq_true q8
   refine awp_condT_ q8 ?_
   refine awp_skip_ (tn_ ?_)
   refine wr_ ?_
   refine awp_seqv_ ?_
   refine awp_block_ ?_
   obtain ⟨x10, e10, h⟩ := ob_some h
   obtain ⟨y11, h11, h⟩ := ob_some h
   obtain ⟨g12, h⟩ := og_some h
   refine awp_region_ 13 ?_
   refine rz0 (.own (oi 0 0) (.slice .int) 0 l5_m0.length) ?_
   refine rz0 (ai ((l5_m5 : Nat) : Int)) ?_
   refine rs0 (.elt (oi 0 0) l5_m5 0) (zo (t := (.slice .int)) (o := (oi 0 0)) (len := l5_m0.length) (k := .i64) (m := ((l5_m5 : Nat) : Int)) (nat_nn _) (getN_lt e10)) ?_
   refine rsl (.own (kid (oi 0 1) l5_m5) .int 0 x10.length) (s_ldM (o := (oi 0 0)) (p := (oi 0 1)) (e1 := 42) (u := .int) (xss := l5_m0) (row := x10) (j := l5_m5) (by kernel_rfl) (by kernel_rfl) e10) ?_
   refine rz0 (ai l5_m1) ?_
   refine rcallM (ai y11.2) [((kid (oi 0 1) l5_m5), some (.arr 3 .int y11.1)), ((kid (oi 0 1) l5_m5), none)] [((oi 0 0), (kid (oi 0 1) l5_m5))] [(.own (kid (oi 0 1) l5_m5) .int 0 x10.length), (ai l5_m1)] (caps := []) trivial (ok_laws_markIntS h11 rfl) hb_laws_markIntS ⟨(entAt_kid (by kernel_rfl) e10), trivial⟩ (.cons (.ren (by kernel_rfl)) (.cons (.ren (by kernel_rfl)) .nil)) (reachL_mem (by kernel_rfl) (by kernel_rfl) ⟨(.arg (by simp [AV.nmsL, AV.nms, renF])), trivial⟩) ?_
   refine xw_ob (ob_row (o := (oi 0 0)) (p := (oi 0 1)) (e1 := 42) (e := 3) (u := .int) (xss := l5_m0) (k := l5_m5) (row := x10) (row' := y11.1) (by kernel_rfl) rfl (by kernel_rfl) e10 g12) ?_
   refine rsB 1 ?_
   refine rnil (bn_ (tn_ ?_))
   refine wr_ ?_
   obtain ⟨g13, h⟩ := og_some h
   refine awp_region_ 16 ?_
   refine rz0 (ai ((l5_m5 : Nat) : Int)) ?_
   refine rs0 (ai ((l5_m5 + 1 : Nat) : Int)) (za g13) ?_
   refine rsB 1 ?_
   refine rnil (tn_ ?_)
   obtain rfl := zj h
   exact ⟨(y11.2, l5_m5 + 1, l5_m0.set l5_m5 y11.1), _, ((weak_tm_ 0 (.own (oi 0 0) (.slice .int) 0 l5_m0.length) (.own (oi 0 0) (.slice .int) 0 ((l5_m0.set l5_m5 y11.1).length)) (by kernel_rfl) (congrArg (fun z_ => ((.own (oi 0 0) (.slice .int) 0 z_) : AV)) ((Eq.trans (b := l5_m0.length) rfl List.length_set.symm) : l5_m0.length = (l5_m0.set l5_m5 y11.1).length))).trans (weak_ren [])), ⟨y11.2, l5_m5 + 1, l5_m0.set l5_m5 y11.1, rfl, rfl⟩, hn5⟩
  have q8_ := of_decide_eq_false q8
  refine awp_condF_ q8 ?_
  refine awp_exit_ (te_ (te_ (be_ (tn_ ?_))))
  obtain rfl := zj h
  have h := hn5
  (try dsimp only at h)
  obtain rfl := zj h
  exact ⟨_, (weak_ren []), ⟨l5_m1, l5_m0, rfl, rfl⟩⟩
 rintro _ _ ⟨l3_m1, l3_p0, rfl, rfl⟩ h
 (try dsimp only at h)
 refine seqR ?_
 refine awp_ret_ ?_
 obtain rfl := zj h
 exact retM_ [(ai l3_m1)] (weak_ren (tl := [(4, (ai l3_m1))]) (g := 2) [])
def m_laws_heldIntSS_l1 : AC :=
 (.seq (.seq (rg [xo 6 (qm (tm 5)), xo 7 (qm (tm 0)), xo 8 (.i (.len (tm 7))), xo 9 (qb .lss (tm 6) (tm 8))])
 (.cond (tm 9)
  .skip
  (.exit 0)))
 (.seq (.block 1 (.seq (rg [xo 12 (qm (tm 0)), xo 13 (qm (tm 5)), xo 14 (qx 1 (tm 12) (tm 13)), xo 15 (ql (tm 14)), xo 16 (qm (tm 1)), xo 17 (qc 72 [(tm 15), (tm 16)] [[(some .int)], []]), xo 1 (qm (tm 17))])
 (.seq (rg [xo 18 (qm (tm 1)), xo 19 (qb .lss (tm 18) (ci 0))])
 (.cond (tm 19)
  (.seq (rg [xo 4 (qm (ci (-1)))])
  .ret)
  .skip))))
 (rg [xo 10 (qm (tm 5)), xo 11 (qb .add (tm 10) (ci 1)), xo 5 (qm (tm 11))])))
def m_laws_heldIntSS : AC :=
 (.seq (rg [xo 4 (qm (ci 0))])
 (.seq (.seq (rg [xo 5 (qm (ci 0))])
 (.block 0 (.loop m_laws_heldIntSS_l1)))
 (.seq (rg [xo 20 (qm (tm 1)), xo 4 (qm (tm 20))])
 .ret)))
def r_laws_heldIntSS : List Res := [.tmp 4]
theorem c_laws_heldIntSS : compiled Tryd.prog Tryd.f39 = some (m_laws_heldIntSS, r_laws_heldIntSS) := by kernel_rfl
def L_laws_heldIntSS_l1 (a0 : List (List Int)) (l4_m1 : Int) (l4_m5 : Nat) : Option (Ctl (Int × Nat) (Ctl Int Int)) :=
 cond (decide (((l4_m5 : Nat) : Int) < ((a0.length : Nat) : Int)))
 (Option.bind (a0[l4_m5]?) fun x10 =>
 Option.bind (L_laws_heldIntS x10 l4_m1) fun y11 =>
 cond (decide (y11 < 0))
  (some (Ctl.out (Ctl.out (-1))))
  (og (l4_m5 + 1 < 4611686018427387904) <|
  some (Ctl.next (y11, l4_m5 + 1))))
 (some (Ctl.out (Ctl.next l4_m1)))
def L_laws_heldIntSS (a0 : List (List Int)) (a1 : Int) : Option Int :=
 seqC (loopM (fun s_ : Int × Nat => L_laws_heldIntSS_l1 a0 s_.1 s_.2) 4611686018427387904 (a1, 0)) fun l2_m1 =>
some l2_m1
def rv_laws_heldIntSS (r : Int) : RV := ⟨false, [(false, [.sc (.int .i64 r)])]⟩
theorem ok_laws_heldIntSS {a0 : List (List Int)} {a1 : Int} {r : Int} (h : L_laws_heldIntSS a0 a1 = some r) : CallOK Tryd.prog Tab 39 [(.tree (.slice .int) a0), (ai a1)] (rv_laws_heldIntSS r) := by
 refine call_of_ (by kernel_rfl) Tryd.func39 c_laws_heldIntSS (n := 21) (by kernel_rfl) (by simp) (tl := [(0, (.tree (.slice .int) a0)), (1, (ai a1))]) rfl ?_
 unfold m_laws_heldIntSS
 unfold L_laws_heldIntSS at h
 refine seqR ?_
 refine awp_seqC h (fun (l2_m1 : Int) S_ => S_ = ⟨mkTm [(1, (ai l2_m1))], mkOb (someL []), 2⟩) ?_ ?_
 ·intro v_ h hk2
  refine seqR ?_
  refine awp_block_ ?_
  refine awp_loopL h (fun t_ S_ => ∃ (l4_m1 : Int), ∃ (l4_m5 : Nat), t_ = (l4_m1, l4_m5) ∧ S_ = ⟨mkTm [(0, (.tree (.slice .int) a0)), (1, (ai l4_m1)), (5, (ai ((l4_m5 : Nat) : Int)))], mkOb (someL []), 2⟩) ⟨_, (weak_ren []), ⟨a1, 0, rfl, rfl⟩⟩ ?_
  rintro n_ _ _ c_ ⟨l4_m1, l4_m5, rfl, rfl⟩ h hn4
  (try dsimp only at h)
  unfold L_laws_heldIntSS_l1 at h
  unfold m_laws_heldIntSS_l1
  refine awp_seqv_ ?_
  refine seqR ?_
  rcases cond_some h with ⟨q7, h⟩ | ⟨q7, h⟩
  ·have q7_ := of_decide_eq_true q7
   refine awp_condT_ q7 ?_
   refine awp_skip_ (tn_ ?_)
   refine wr_ ?_
   refine awp_seqv_ ?_
   refine awp_block_ ?_
   refine awp_seqv_ ?_
   obtain ⟨x10, e10, h⟩ := ob_some h
   obtain ⟨y11, h11, h⟩ := ob_some h
   refine awp_region_ 13 ?_
   refine rz0 (.tree (.slice .int) a0) ?_
   refine rz0 (ai ((l4_m5 : Nat) : Int)) ?_
   refine rs0 (.telt (.slice .int) x10 0) (zi (t := (.slice .int)) (xs := a0) (k := .i64) (m := ((l4_m5 : Nat) : Int)) (nat_nn _) e10) ?_
   refine rz0 (.tree .int x10) ?_
   refine rz0 (ai l4_m1) ?_
   refine zc (ai y11) [] [(.tree .int x10), (ai l4_m1)] (ok_laws_heldIntS h11) ?_
   refine rsB 1 ?_
   refine rnil (tn_ ?_)
   refine wr_ ?_
   refine seqR ?_
   rcases cond_some h with ⟨q13, h⟩ | ⟨q13, h⟩
   ·have q13_ := of_decide_eq_true q13
    refine awp_condT_ q13 ?_
    refine seqR ?_
    refine awp_ret_ (br_ (tr_ (tr_ (br_ (tr_ ?_)))))
    obtain rfl := zj h
    have h := hn4
    (try dsimp only at h)
    obtain rfl := zj h
    have h := hk2
    (try dsimp only at h)
    obtain rfl := zj h
    exact ret_ [(ai (-1))] (p_one rfl zl p_nil)
   have q13_ := of_decide_eq_false q13
   refine awp_condF_ q13 ?_
   refine awp_skip_ (bn_ (tn_ ?_))
   refine wr_ ?_
   obtain ⟨g15, h⟩ := og_some h
   refine awp_region_ 18 ?_
   refine rz0 (ai ((l4_m5 : Nat) : Int)) ?_
   refine rs0 (ai ((l4_m5 + 1 : Nat) : Int)) (za g15) ?_
   refine rsB 1 ?_
   refine rnil (tn_ ?_)
   obtain rfl := zj h
   exact ⟨(y11, l4_m5 + 1), _, (weak_ren []), ⟨y11, l4_m5 + 1, rfl, rfl⟩, hn4⟩
  have q7_ := of_decide_eq_false q7
  refine awp_condF_ q7 ?_
  refine awp_exit_ (te_ (te_ (be_ (tn_ ?_))))
  obtain rfl := zj h
  have h := hn4
  (try dsimp only at h)
  obtain rfl := zj h
  exact ⟨l4_m1, _, rfl, (weak_ren []), rfl⟩
 rintro l2_m1 _ rfl h
 (try dsimp only at h)
 refine seqR ?_
 refine awp_ret_ ?_
 obtain rfl := zj h
 exact ret_ [(ai l2_m1)] (p_one rfl zl p_nil)
def m_laws_szRelation : AC :=
 (.seq (rg [xo 2 (.i (.box 34 (tm 0))), xo 4 (qm (ci 0))])
 (.seq (rg [xo 5 (qf 2 (tm 2)), xo 6 (ql (tm 5)), xo 7 (qm (tm 1)), xo 8 (qc 30 [(tm 6), (tm 7)] [[(some (.slice .int))], []]), xo 1 (qm (tm 8))])
 (.seq (.seq (rg [xo 9 (qm (tm 1)), xo 10 (qb .lss (tm 9) (ci 0))])
 (.cond (tm 10)
  (.seq (rg [xo 4 (qm (ci (-1)))])
  .ret)
  .skip))
 (.seq (rg [xo 11 (qm (tm 1)), xo 4 (qm (tm 11))])
 .ret))))
def r_laws_szRelation : List Res := [.tmp 4]
theorem c_laws_szRelation : compiled Tryd.prog Tryd.f14 = some (m_laws_szRelation, r_laws_szRelation) := by kernel_rfl
def L_laws_szRelation (a0_0 : Int) (a0_1 : Int) (a0_2 : List (List Int)) (a1 : Int) : Option Int :=
 Option.bind (L_laws_szIntSS a0_2 a1) fun y3 =>
cond (decide (y3 < 0))
 (some (-1))
 (some y3)
def rv_laws_szRelation (r : Int) : RV := ⟨false, [(false, [.sc (.int .i64 r)])]⟩
theorem ok_laws_szRelation {a0_0 : Int} {a0_1 : Int} {a0_2 : List (List Int)} {a1 : Int} {r : Int} (h : L_laws_szRelation a0_0 a0_1 a0_2 a1 = some r) : CallOK Tryd.prog Tab 14 [(.agg [(ai a0_0), (ai a0_1), (.tree (.slice .int) a0_2)]), (ai a1)] (rv_laws_szRelation r) := by
 refine call_of_ (by kernel_rfl) Tryd.func14 c_laws_szRelation (n := 12) (by kernel_rfl) (by simp) (tl := [(0, (.agg [(ai a0_0), (ai a0_1), (.tree (.slice .int) a0_2)])), (1, (ai a1))]) rfl ?_
 unfold m_laws_szRelation
 unfold L_laws_szRelation at h
 refine seqR ?_
 refine awp_seqv_ ?_
 obtain ⟨y3, h3, h⟩ := ob_some h
 refine awp_region_ 8 ?_
 refine rz0 (.box (oi 2 1) 2) ?_
 refine rzl (.tree (.slice .int) a0_2) ?_
 refine rz0 (ai a1) ?_
 refine zc (ai y3) [] [(.tree (.slice .int) a0_2), (ai a1)] (ok_laws_szIntSS h3) ?_
 refine rsB 1 ?_
 refine rnil (tn_ ?_)
 refine wr_ ?_
 refine awp_seqv_ ?_
 refine seqR ?_
 rcases cond_some h with ⟨q6, h⟩ | ⟨q6, h⟩
 ·have q6_ := of_decide_eq_true q6
  refine awp_condT_ q6 ?_
  refine seqR ?_
  refine awp_ret_ (tr_ ?_)
  obtain rfl := zj h
  exact ret_ [(ai (-1))] (p_one rfl zl p_nil)
 have q6_ := of_decide_eq_false q6
 refine awp_condF_ q6 ?_
 refine awp_skip_ (tn_ ?_)
 refine wr_ ?_
 refine seqR ?_
 refine awp_ret_ ?_
 obtain rfl := zj h
 exact ret_ [(ai y3)] (p_one rfl zl p_nil)
def m_laws_toRelation : AC :=
 (.seq (rg [xo 1 (.i (.box 34 (tm 0))), xo 2 (.i (.alloc 38 [(.int .i64 0), (.int .i64 0), .nils]))])
 (.seq (rg [xo 3 (.i (.alloc 38 [(.int .i64 0), (.int .i64 0), .nils]))])
 (.seq (rg [xo 4 (qf 0 (tm 1)), xo 5 (ql (tm 4)), xo 6 (qf 0 (tm 3)), xn (qs (tm 6) (tm 5))])
 (.seq (rg [xo 7 (qf 1 (tm 1)), xo 8 (ql (tm 7)), xo 9 (qf 1 (tm 3)), xn (qs (tm 9) (tm 8))])
 (.seq (rg [xo 10 (qf 2 (tm 1)), xo 11 (ql (tm 10)), xo 12 (qc 33 [(tm 11)] [[(some (.slice .int))]]), xo 13 (qf 2 (tm 3)), xn (qs (tm 13) (tm 12))])
 (.seq (rg [xo 14 (.i (.ld false 3 (tm 3))), xn (.st false 3 (tm 2) (tm 14))])
 .ret))))))
def r_laws_toRelation : List Res := [.cell 2 false 3]
theorem c_laws_toRelation : compiled Tryd.prog Tryd.f16 = some (m_laws_toRelation, r_laws_toRelation) := by kernel_rfl
theorem hb_laws_toRelation : hasBody Tryd.prog 16 = true := by kernel_rfl
def L_laws_toRelation (a0_0 : Int) (a0_1 : Int) (a0_2 : List (List Int)) : Option (List (List Int)) :=
 Option.bind (L_laws_toIntSS a0_2) fun y7 =>
some y7
theorem ok_laws_toRelation {a0_0 : Int} {a0_1 : Int} {a0_2 : List (List Int)} {r : List (List Int)} (h : L_laws_toRelation a0_0 a0_1 a0_2 = some r) : CallM Tryd.prog Tab 16 [(.agg [(ai a0_0), (ai a0_1), (.tree (.slice .int) a0_2)])] [] (.agg [(ai a0_0), (ai a0_1), (.own (oi 1 1) (.slice .int) 0 r.length)]) [((oi 0 1), .cells 38 [(ai a0_0), (ai a0_1), (.own (oi 1 1) (.slice .int) 0 r.length)]), ((oi 1 1), .mat 42 (oi 2 1) .int r), ((oi 2 1), .pool 3 .int r)] := by
 refine callM_of_ (by kernel_rfl) Tryd.func16 c_laws_toRelation (n := 15) (by kernel_rfl) (by simp) (tl := [(0, (.agg [(ai a0_0), (ai a0_1), (.tree (.slice .int) a0_2)]))]) rfl (by kernel_rfl) trivial ⟨trivial, ⟨⟨3, (.tail _ (.tail _ (.head _)))⟩, ⟨trivial, trivial⟩⟩⟩ ?_
 unfold m_laws_toRelation
 unfold L_laws_toRelation at h
 refine seqR ?_
 refine seqR ?_
 refine seqR ?_
 refine seqR ?_
 refine awp_seqv_ ?_
 obtain ⟨y7, h7, h⟩ := ob_some h
 refine awp_region_ 17 ?_
 refine rz0 (.box (oi 1 1) 2) ?_
 refine rzl (.tree (.slice .int) a0_2) ?_
 refine rcallM (.own (oi 192 14) (.slice .int) 0 y7.length) [((oi 192 14), some (.mat 42 (oi 193 14) .int y7)), ((oi 193 14), some (.pool 3 .int y7))] [] [(.tree (.slice .int) a0_2)] (caps := []) trivial (ok_laws_toIntSS h7) hb_laws_toIntSS trivial (.cons (.ren (by kernel_rfl)) .nil) (reachL_mem (by kernel_rfl) (by kernel_rfl) trivial) ?_
 refine rsB 2 ?_
 refine rnil (tn_ ?_)
 refine wr_ ?_
 refine seqR ?_
 refine awp_ret_ ?_
 obtain rfl := zj h
 exact retM_ [(.agg [(ai a0_0), (ai a0_1), (.own (oi 1 1) (.slice .int) 0 y7.length)])] (weak_ren (tl := [(2, (.box (oi 0 1) 0))]) (g := 2) [((oi 0 1), (oi 2 2)), ((oi 1 1), (oi 192 14)), ((oi 2 1), (oi 193 14))])
def m_laws_eqRelation : AC :=
 (.seq (rg [xo 2 (.i (.box 38 (tm 0))), xo 3 (.i (.box 38 (tm 1))), xo 4 (qm (cb false))])
 (.seq (.seq (rg [xo 5 (qf 0 (tm 2)), xo 6 (ql (tm 5)), xo 7 (qf 0 (tm 3)), xo 8 (ql (tm 7)), xo 9 (qb .neq (tm 6) (tm 8))])
 (.cond (tm 9)
  (.seq (rg [xo 4 (qm (cb false))])
  .ret)
  .skip))
 (.seq (.seq (rg [xo 10 (qf 1 (tm 2)), xo 11 (ql (tm 10)), xo 12 (qf 1 (tm 3)), xo 13 (ql (tm 12)), xo 14 (qb .neq (tm 11) (tm 13))])
 (.cond (tm 14)
  (.seq (rg [xo 4 (qm (cb false))])
  .ret)
  .skip))
 (.seq (.seq (rg [xo 15 (qf 2 (tm 2)), xo 16 (ql (tm 15)), xo 17 (qf 2 (tm 3)), xo 18 (ql (tm 17)), xo 19 (qc 37 [(tm 16), (tm 18)] [[(some (.slice .int))], [(some (.slice .int))]]), xo 20 (.i (.not (tm 19)))])
 (.cond (tm 20)
  (.seq (rg [xo 4 (qm (cb false))])
  .ret)
  .skip))
 (.seq (rg [xo 4 (qm (cb true))])
 .ret)))))
def r_laws_eqRelation : List Res := [.tmp 4]
theorem c_laws_eqRelation : compiled Tryd.prog Tryd.f18 = some (m_laws_eqRelation, r_laws_eqRelation) := by kernel_rfl
theorem hb_laws_eqRelation : hasBody Tryd.prog 18 = true := by kernel_rfl
def L_laws_eqRelation (a0_0 : Int) (a0_1 : Int) (a0_2 : List (List Int)) (a1_0 : Int) (a1_1 : Int) (a1_2 : List (List Int)) : Option Bool :=
 cond (a0_0 != a1_0)
 (some false)
 (cond (a0_1 != a1_1)
  (some false)
  (Option.bind (L_laws_eqIntSS a0_2 a1_2) fun y12 =>
  cond (!y12)
   (some false)
   (some true)))
def rv_laws_eqRelation (r : Bool) : RV := ⟨false, [(false, [.sc (.bool r)])]⟩
theorem ok_laws_eqRelation {a0_0 : Int} {a0_1 : Int} {a0_2 : List (List Int)} {a1_0 : Int} {a1_1 : Int} {a1_2 : List (List Int)} {r : Bool} (h : L_laws_eqRelation a0_0 a0_1 a0_2 a1_0 a1_1 a1_2 = some r) : CallOK Tryd.prog Tab 18 [(.agg [(ai a0_0), (ai a0_1), (.tree (.slice .int) a0_2)]), (.agg [(ai a1_0), (ai a1_1), (.tree (.slice .int) a1_2)])] (rv_laws_eqRelation r) := by
 refine call_of_ (by kernel_rfl) Tryd.func18 c_laws_eqRelation (n := 21) (by kernel_rfl) (by simp) (tl := [(0, (.agg [(ai a0_0), (ai a0_1), (.tree (.slice .int) a0_2)])), (1, (.agg [(ai a1_0), (ai a1_1), (.tree (.slice .int) a1_2)]))]) rfl ?_
 unfold m_laws_eqRelation
 unfold L_laws_eqRelation at h
 refine seqR ?_
 refine awp_seqv_ ?_
 refine seqR ?_
 rcases cond_some h with ⟨q4, h⟩ | ⟨q4, h⟩
 ·refine awp_condT_ q4 ?_
  refine seqR ?_
  refine awp_ret_ (tr_ ?_)
  obtain rfl := zj h
  exact ret_ [(.bool false)] (p_one rfl zl p_nil)
 refine awp_condF_ q4 ?_
 refine awp_skip_ (tn_ ?_)
 refine wr_ ?_
 refine awp_seqv_ ?_
 refine seqR ?_
 rcases cond_some h with ⟨q8, h⟩ | ⟨q8, h⟩
 ·refine awp_condT_ q8 ?_
  refine seqR ?_
  refine awp_ret_ (tr_ ?_)
  obtain rfl := zj h
  exact ret_ [(.bool false)] (p_one rfl zl p_nil)
 refine awp_condF_ q8 ?_
 refine awp_skip_ (tn_ ?_)
 refine wr_ ?_
 refine awp_seqv_ ?_
 refine awp_seqv_ ?_
 obtain ⟨y12, h12, h⟩ := ob_some h
 refine awp_region_ 20 ?_
 refine rz0 (.box (oi 2 1) 2) ?_
 refine rzl (.tree (.slice .int) a0_2) ?_
 refine rz0 (.box (oi 3 2) 2) ?_
 refine rzl (.tree (.slice .int) a1_2) ?_
 refine zc (.bool y12) [] [(.tree (.slice .int) a0_2), (.tree (.slice .int) a1_2)] (ok_laws_eqIntSS h12) ?_
 refine rsB 1 ?_
 refine rnil (tn_ ?_)
 refine wr_ ?_
 rcases cond_some h with ⟨q13, h⟩ | ⟨q13, h⟩
 ·refine awp_condT_ q13 ?_
  refine seqR ?_
  refine awp_ret_ (tr_ ?_)
  obtain rfl := zj h
  exact ret_ [(.bool false)] (p_one rfl zl p_nil)
 refine awp_condF_ q13 ?_
 refine awp_skip_ (tn_ ?_)
 refine wr_ ?_
 refine seqR ?_
 refine awp_ret_ ?_
 obtain rfl := zj h
 exact ret_ [(.bool true)] (p_one rfl zl p_nil)
def m_laws_markRelation : AC :=
 (.seq (rg [xo 2 (.i (.box 38 (tm 0))), xo 4 (qm (ci 0))])
 (.seq (rg [xo 5 (qf 2 (tm 2)), xo 6 (ql (tm 5)), xo 7 (qm (tm 1)), xo 8 (qc 38 [(tm 6), (tm 7)] [[(some (.slice .int))], []]), xo 1 (qm (tm 8))])
 (.seq (rg [xo 9 (qm (tm 1)), xo 4 (qm (tm 9))])
 .ret)))
def r_laws_markRelation : List Res := [.tmp 4]
theorem c_laws_markRelation : compiled Tryd.prog Tryd.f26 = some (m_laws_markRelation, r_laws_markRelation) := by kernel_rfl
theorem hb_laws_markRelation : hasBody Tryd.prog 26 = true := by kernel_rfl
def L_laws_markRelation (a0_0 : Int) (a0_1 : Int) (a0_2 : List (List Int)) (a1 : Int) : Option (List (List Int) × Int) :=
 Option.bind (L_laws_markIntSS a0_2 a1) fun y4 =>
og (y4.1.length = (a0_2.length)) <|
some (y4.1, y4.2)
theorem ok_laws_markRelation {a0_0 : Int} {a0_1 : Int} {a0_2 : List (List Int)} {a1 : Int} {r : List (List Int) × Int} (h : L_laws_markRelation a0_0 a0_1 a0_2 a1 = some r) {n_a0_2 : Nat} (hn_a0_2 : n_a0_2 = a0_2.length) : CallM Tryd.prog Tab 26 [(.agg [(ai a0_0), (ai a0_1), (.own (oi 0 0) (.slice .int) 0 n_a0_2)]), (ai a1)] [((oi 0 0), .mat 42 (oi 1 0) .int a0_2), ((oi 1 0), .pool 3 .int a0_2)] (ai r.2) [((oi 0 0), .mat 42 (oi 0 1) .int r.1), ((oi 0 1), .pool 3 .int r.1)] := by
 refine callM_of_ (by kernel_rfl) Tryd.func26 c_laws_markRelation (n := 10) (by kernel_rfl) (by simp) (tl := [(0, (.agg [(ai a0_0), (ai a0_1), (.own (oi 0 0) (.slice .int) 0 n_a0_2)])), (1, (ai a1))]) rfl (by kernel_rfl) ⟨⟨3, (.tail _ (.head _))⟩, ⟨trivial, trivial⟩⟩ ⟨⟨3, (.tail _ (.head _))⟩, ⟨trivial, trivial⟩⟩ ?_
 unfold m_laws_markRelation
 unfold L_laws_markRelation at h
 (try rw [← hn_a0_2] at h)
 refine seqR ?_
 refine awp_seqv_ ?_
 obtain ⟨y4, h4, h⟩ := ob_some h
 obtain ⟨g5, h⟩ := og_some h
 refine awp_region_ 8 ?_
 refine rz0 (.box (oi 2 1) 2) ?_
 refine rzl (.own (oi 0 0) (.slice .int) 0 n_a0_2) ?_
 refine rz0 (ai a1) ?_
 refine rcallM (ai y4.2) [((oi 0 0), some (.mat 42 (oi 128 6) .int y4.1)), ((oi 128 6), some (.pool 3 .int y4.1)), ((oi 0 0), none), ((oi 1 0), some (.pool 3 .int []))] [] [(.own (oi 0 0) (.slice .int) 0 n_a0_2), (ai a1)] (caps := []) trivial (ok_laws_markIntSS h4 hn_a0_2) hb_laws_markIntSS ⟨(by kernel_rfl), ⟨(by kernel_rfl), trivial⟩⟩ (.cons (.ren (by kernel_rfl)) (.cons (.ren (by kernel_rfl)) .nil)) (reachL_mem (by kernel_rfl) (by kernel_rfl) ⟨(re_arg (by kernel_rfl)), ⟨re_rows (o := (oi 0 0)) (p := (oi 1 0)) (e1 := 42) (m := a0_2.length) (u := .int) (xss := a0_2) (re_arg (by kernel_rfl)) (by kernel_rfl), trivial⟩⟩) ?_
 refine rsB 1 ?_
 refine rnil (tn_ ?_)
 refine wr_ ?_
 refine seqR ?_
 refine awp_ret_ ?_
 obtain rfl := zj h
 exact retM_ [(ai y4.2)] (weak_ren (tl := [(4, (ai y4.2))]) (g := 2) [((oi 0 1), (oi 128 6))])
def m_spec_spRows_l1 : AC :=
 (.seq (rg [xo 12 (qb .lss (tm 11) (tm 10))])
 (.seq (.cond (tm 12)
  .skip
  (.exit 0))
 (.seq (.block 1 (.seq (rg [xo 13 (qx 1 (tm 9) (tm 11)), xo 14 (ql (tm 13)), xo 8 (qm (tm 14))])
 (.seq (rg [xo 15 (qm (tm 8)), xo 16 (.i (.len (tm 15))), xo 17 (qm (tm 1)), xo 18 (qb .neq (tm 16) (tm 17)), xo 19 (qm (tm 18)), ⟨(some 20), (some (19, false)), (qm (tm 0))⟩, ⟨(some 21), (some (19, false)), (qm (tm 8))⟩, ⟨(some 22), (some (19, false)), (qc 96 [(tm 20), (tm 21)] [[], [(some .int)]])⟩, ⟨(some 23), (some (19, false)), (.i (.not (tm 22)))⟩, xo 24 (.i (.pick (tm 19) (cb true) (tm 23)))])
 (.cond (tm 24)
  (.seq (rg [xo 6 (qm (cb false))])
  .ret)
  .skip))))
 (rg [xo 25 (qb .add (tm 11) (ci 1)), xo 11 (qm (tm 25))]))))
def m_spec_spRows : AC :=
 (.seq (rg [xo 6 (qm (cb false))])
 (.seq (.seq (rg [xo 9 (qm (tm 2)), xo 10 (.i (.len (tm 9))), xo 11 (qm (ci 0))])
 (.block 0 (.loop m_spec_spRows_l1)))
 (.seq (rg [xo 6 (qm (cb true))])
 .ret)))
def r_spec_spRows : List Res := [.tmp 6]
theorem c_spec_spRows : compiled Tryd.prog Tryd.f63 = some (m_spec_spRows, r_spec_spRows) := by kernel_rfl
theorem hb_spec_spRows : hasBody Tryd.prog 63 = true := by kernel_rfl
def L_spec_spRows_l1 (a2 : List (List Int)) (a1 : Int) (a0 : Int) (l4_m11 : Nat) : Option (Ctl Nat (Ctl Unit Bool)) :=
 cond (decide (((l4_m11 : Nat) : Int) < ((a2.length : Nat) : Int)))
 (Option.bind (a2[l4_m11]?) fun x10 =>
 Option.bind (cond (((x10.length : Nat) : Int) != a1)
   (some true)
   (Option.bind (L_spec_fdIn a0 x10) fun y13 =>
   some (!y13))) fun l11_m24 =>
 cond l11_m24
  (some (Ctl.out (Ctl.out false)))
  (og (l4_m11 + 1 < 4611686018427387904) <|
  some (Ctl.next (l4_m11 + 1))))
 (some (Ctl.out (Ctl.next ())))
def L_spec_spRows (a0 : Int) (a1 : Int) (a2 : List (List Int)) : Option Bool :=
 seqC (loopM (fun s_ : Nat => L_spec_spRows_l1 a2 a1 a0 s_) 4611686018427387904 0) fun _ =>
some true
def rv_spec_spRows (r : Bool) : RV := ⟨false, [(false, [.sc (.bool r)])]⟩
theorem ok_spec_spRows {a0 : Int} {a1 : Int} {a2 : List (List Int)} {r : Bool} (h : L_spec_spRows a0 a1 a2 = some r) : CallOK Tryd.prog Tab 63 [(ai a0), (ai a1), (.tree (.slice .int) a2)] (rv_spec_spRows r) := by
 refine call_of_ (by kernel_rfl) Tryd.func63 c_spec_spRows (n := 26) (by kernel_rfl) (by simp) (tl := [(0, (ai a0)), (1, (ai a1)), (2, (.tree (.slice .int) a2))]) rfl ?_
 unfold m_spec_spRows
 unfold L_spec_spRows at h
 refine seqR ?_
 refine awp_seqC h (fun (_ : Unit) S_ => S_ = ⟨mkTm [], mkOb (someL []), 2⟩) ?_ ?_
 ·intro v_ h hk2
  refine seqR ?_
  refine awp_block_ ?_
  refine awp_loopL h (fun (l4_m11 : Nat) S_ => S_ = ⟨mkTm [(0, (ai a0)), (1, (ai a1)), (9, (.tree (.slice .int) a2)), (10, (ai ((a2.length : Nat) : Int))), (11, (ai ((l4_m11 : Nat) : Int)))], mkOb (someL []), 2⟩) ⟨_, (weak_ren []), rfl⟩ ?_
  rintro n_ l4_m11 _ c_ rfl h hn4
  (try dsimp only at h)
  unfold L_spec_spRows_l1 at h
  unfold m_spec_spRows_l1
  refine seqR ?_
  refine awp_seqv_ ?_
  rcases cond_some h with ⟨q7, h⟩ | ⟨q7, h⟩
  ·have q7_ := of_decide_eq_true q7
   refine awp_condT_ q7 ?_
   refine awp_skip_ (tn_ ?_)
   refine wr_ ?_
   refine awp_seqv_ ?_
   refine awp_block_ ?_
   refine awp_seqv_ ?_
   obtain ⟨x10, e10, h⟩ := ob_some h
   refine awp_region_ 6 ?_
   refine rs0 (.telt (.slice .int) x10 0) (zi (t := (.slice .int)) (xs := a2) (k := .i64) (m := ((l4_m11 : Nat) : Int)) (nat_nn _) e10) ?_
   refine rsB 2 ?_
   refine rnil (tn_ ?_)
   refine wr_ ?_
   refine awp_seqB h (fun (l11_m24 : Bool) S_ => S_ = ⟨mkTm [(0, (ai a0)), (1, (ai a1)), (9, (.tree (.slice .int) a2)), (10, (ai ((a2.length : Nat) : Int))), (11, (ai ((l4_m11 : Nat) : Int))), (24, (.bool l11_m24))], mkOb (someL []), 2⟩) ?_ ?_
   ·intro v_ h
    rcases cond_some h with ⟨q12, h⟩ | ⟨q12, h⟩
    ·refine awp_region_ 16 ?_
     refine rz0 (.tree .int x10) ?_
     refine rz0 (ai ((x10.length : Nat) : Int)) ?_
     refine rz0 (ai a1) ?_
     refine rz0 (.bool (((x10.length : Nat) : Int) != a1)) ?_
     refine rz0 (.bool (((x10.length : Nat) : Int) != a1)) ?_
     refine zs q12 ?_
     refine zs q12 ?_
     refine zs q12 ?_
     refine zs q12 ?_
     refine rs0 (.bool true) (zT q12) ?_
     refine rnil (tn_ ?_)
     obtain rfl := zj h
     exact ⟨_, (weak_ren []), rfl⟩
    obtain ⟨y13, h13, h⟩ := ob_some h
    refine awp_region_ 16 ?_
    refine rz0 (.tree .int x10) ?_
    refine rz0 (ai ((x10.length : Nat) : Int)) ?_
    refine rz0 (ai a1) ?_
    refine rz0 (.bool (((x10.length : Nat) : Int) != a1)) ?_
    refine rz0 (.bool (((x10.length : Nat) : Int) != a1)) ?_
    refine rs0 (ai a0) (zg q12) ?_
    refine rs0 (.tree .int x10) (zg q12) ?_
    refine rcall (.bool y13) [] [(ai a0), (.tree .int x10)] _ (caps := []) (args0 := [(ai a0), (.tree .int x10)]) (gdOK_b (by kernel_rfl) q12) (by kernel_rfl) (ok_spec_fdIn h13) hb_spec_fdIn ?_
    refine rs0 (.bool (!y13)) (zg q12) ?_
    refine rs0 (.bool (!y13)) (zF q12) ?_
    refine rnil (tn_ ?_)
    obtain rfl := zj h
    exact ⟨_, (weak_ren []), rfl⟩
   rintro l11_m24 _ rfl h
   (try dsimp only at h)
   rcases cond_some h with ⟨q14, h⟩ | ⟨q14, h⟩
   ·refine awp_condT_ q14 ?_
    refine seqR ?_
    refine awp_ret_ (br_ (tr_ (tr_ (br_ (tr_ ?_)))))
    obtain rfl := zj h
    have h := hn4
    (try dsimp only at h)
    obtain rfl := zj h
    have h := hk2
    (try dsimp only at h)
    obtain rfl := zj h
    exact ret_ [(.bool false)] (p_one rfl zl p_nil)
   refine awp_condF_ q14 ?_
   refine awp_skip_ (bn_ (tn_ ?_))
   refine wr_ ?_
   obtain ⟨g16, h⟩ := og_some h
   refine awp_region_ 4 ?_
   refine rs0 (ai ((l4_m11 + 1 : Nat) : Int)) (za g16) ?_
   refine rsB 1 ?_
   refine rnil (tn_ ?_)
   obtain rfl := zj h
   exact ⟨l4_m11 + 1, _, (weak_ren []), rfl, hn4⟩
  have q7_ := of_decide_eq_false q7
  refine awp_condF_ q7 ?_
  refine awp_exit_ (te_ (te_ (be_ (tn_ ?_))))
  obtain rfl := zj h
  have h := hn4
  (try dsimp only at h)
  obtain rfl := zj h
  exact ⟨(), _, rfl, (weak_ren []), rfl⟩
 rintro _ _ rfl h
 (try dsimp only at h)
 refine seqR ?_
 refine awp_ret_ ?_
 obtain rfl := zj h
 exact ret_ [(.bool true)] (p_one rfl zl p_nil)
def m_spec_l1Same_l1 : AC :=
 (.seq (rg [xo 14 (qb .lss (tm 13) (tm 12))])
 (.seq (.cond (tm 14)
  .skip
  (.exit 0))
 (.seq (.block 1 (.seq (rg [xo 15 (qm (tm 13)), xo 5 (qm (tm 15))])
 (.seq (.region [xo 16 (qm (tm 0)), xo 17 (qm (tm 5)), xo 18 (qx 1 (tm 16) (tm 17)), xo 19 (ql (tm 18)), xo 20 (qm (tm 1)), xo 21 (qm (tm 5)), xo 22 (qx 1 (tm 20) (tm 21)), xo 23 (ql (tm 22)), xo 24 (qb .neq (tm 19) (tm 23))] true [])
 (.cond (tm 24)
  (.seq (rg [xo 4 (qm (cb false))])
  .ret)
  .skip))))
 (rg [xo 25 (qb .add (tm 13) (ci 1)), xo 13 (qm (tm 25))]))))
def m_spec_l1Same : AC :=
 (.seq (rg [xo 4 (qm (cb false))])
 (.seq (.seq (rg [xo 6 (qm (tm 0)), xo 7 (.i (.len (tm 6))), xo 8 (qm (tm 1)), xo 9 (.i (.len (tm 8))), xo 10 (qb .neq (tm 7) (tm 9))])
 (.cond (tm 10)
  (.seq (rg [xo 4 (qm (cb false))])
  .ret)
  .skip))
 (.seq (.seq (rg [xo 11 (qm (tm 0)), xo 12 (.i (.len (tm 11))), xo 13 (qm (ci 0))])
 (.block 0 (.loop m_spec_l1Same_l1)))
 (.seq (rg [xo 4 (qm (cb true))])
 .ret))))
def r_spec_l1Same : List Res := [.tmp 4]
theorem c_spec_l1Same : compiled Tryd.prog Tryd.f80 = some (m_spec_l1Same, r_spec_l1Same) := by kernel_rfl
theorem hb_spec_l1Same : hasBody Tryd.prog 80 = true := by kernel_rfl
def L_spec_l1Same_l1 (a0 : List Int) (a1 : List Int) (l8_m13 : Nat) : Option (Ctl Nat (Ctl Unit Bool)) :=
 cond (decide (((l8_m13 : Nat) : Int) < ((a0.length : Nat) : Int)))
 (Option.bind (a0[l8_m13]?) fun x15 =>
 Option.bind (a1[l8_m13]?) fun x16 =>
 cond (x15 != x16)
  (some (Ctl.out (Ctl.out false)))
  (og (l8_m13 + 1 < 4611686018427387904) <|
  some (Ctl.next (l8_m13 + 1))))
 (some (Ctl.out (Ctl.next ())))
def L_spec_l1Same (a0 : List Int) (a1 : List Int) : Option Bool :=
 cond (((a0.length : Nat) : Int) != ((a1.length : Nat) : Int))
 (some false)
 (seqC (loopM (fun s_ : Nat => L_spec_l1Same_l1 a0 a1 s_) 4611686018427387904 0) fun _ =>
 some true)
def rv_spec_l1Same (r : Bool) : RV := ⟨false, [(false, [.sc (.bool r)])]⟩
theorem ok_spec_l1Same {a0 : List Int} {a1 : List Int} {r : Bool} (h : L_spec_l1Same a0 a1 = some r) : CallOK Tryd.prog Tab 80 [(.tree .int a0), (.tree .int a1)] (rv_spec_l1Same r) := by
 refine call_of_ (by kernel_rfl) Tryd.func80 c_spec_l1Same (n := 26) (by kernel_rfl) (by simp) (tl := [(0, (.tree .int a0)), (1, (.tree .int a1))]) rfl ?_
 unfold m_spec_l1Same
 unfold L_spec_l1Same at h
 refine seqR ?_
 refine awp_seqv_ ?_
 refine seqR ?_
 rcases cond_some h with ⟨q4, h⟩ | ⟨q4, h⟩
 ·refine awp_condT_ q4 ?_
  refine seqR ?_
  refine awp_ret_ (tr_ ?_)
  obtain rfl := zj h
  exact ret_ [(.bool false)] (p_one rfl zl p_nil)
 refine awp_condF_ q4 ?_
 refine awp_skip_ (tn_ ?_)
 refine wr_ ?_
 refine awp_seqC h (fun (_ : Unit) S_ => S_ = ⟨mkTm [], mkOb (someL []), 2⟩) ?_ ?_
 ·intro v_ h hk6
  refine seqR ?_
  refine awp_block_ ?_
  refine awp_loopL h (fun (l8_m13 : Nat) S_ => S_ = ⟨mkTm [(0, (.tree .int a0)), (1, (.tree .int a1)), (12, (ai ((a0.length : Nat) : Int))), (13, (ai ((l8_m13 : Nat) : Int)))], mkOb (someL []), 2⟩) ⟨_, (weak_ren []), rfl⟩ ?_
  rintro n_ l8_m13 _ c_ rfl h hn8
  (try dsimp only at h)
  unfold L_spec_l1Same_l1 at h
  unfold m_spec_l1Same_l1
  refine seqR ?_
  refine awp_seqv_ ?_
  rcases cond_some h with ⟨q11, h⟩ | ⟨q11, h⟩
  ·have q11_ := of_decide_eq_true q11
   refine awp_condT_ q11 ?_
   refine awp_skip_ (tn_ ?_)
   refine wr_ ?_
   refine awp_seqv_ ?_
   refine awp_block_ ?_
   refine seqR ?_
   refine awp_seqv_ ?_
   obtain ⟨x15, e15, h⟩ := ob_some h
   obtain ⟨x16, e16, h⟩ := ob_some h
   refine awp_regionD_ 14 ?_
   refine dz0 (.tree .int a0) ?_
   refine dz0 (ai ((l8_m13 : Nat) : Int)) ?_
   refine ds0 (.telt .int x15 0) (zi (t := .int) (xs := a0) (k := .i64) (m := ((l8_m13 : Nat) : Int)) (nat_nn _) e15) ?_
   refine dz0 (ai x15) ?_
   refine dz0 (.tree .int a1) ?_
   refine dz0 (ai ((l8_m13 : Nat) : Int)) ?_
   refine ds0 (.telt .int x16 0) (zi (t := .int) (xs := a1) (k := .i64) (m := ((l8_m13 : Nat) : Int)) (nat_nn _) e16) ?_
   refine dz0 (ai x16) ?_
   refine dz0 (.bool (x15 != x16)) ?_
   refine dnil (badB_spec (by kernel_rfl)) (tn_ ?_)
   refine wr_ ?_
   rcases cond_some h with ⟨q17, h⟩ | ⟨q17, h⟩
   ·refine awp_condT_ q17 ?_
    refine seqR ?_
    refine awp_ret_ (br_ (tr_ (tr_ (br_ (tr_ ?_)))))
    obtain rfl := zj h
    have h := hn8
    (try dsimp only at h)
    obtain rfl := zj h
    have h := hk6
    (try dsimp only at h)
    obtain rfl := zj h
    exact ret_ [(.bool false)] (p_one rfl zl p_nil)
   refine awp_condF_ q17 ?_
   refine awp_skip_ (bn_ (tn_ ?_))
   refine wr_ ?_
   obtain ⟨g19, h⟩ := og_some h
   refine awp_region_ 16 ?_
   refine rs0 (ai ((l8_m13 + 1 : Nat) : Int)) (za g19) ?_
   refine rsB 1 ?_
   refine rnil (tn_ ?_)
   obtain rfl := zj h
   exact ⟨l8_m13 + 1, _, (weak_ren []), rfl, hn8⟩
  have q11_ := of_decide_eq_false q11
  refine awp_condF_ q11 ?_
  refine awp_exit_ (te_ (te_ (be_ (tn_ ?_))))
  obtain rfl := zj h
  have h := hn8
  (try dsimp only at h)
  obtain rfl := zj h
  exact ⟨(), _, rfl, (weak_ren []), rfl⟩
 rintro _ _ rfl h
 (try dsimp only at h)
 refine seqR ?_
 refine awp_ret_ ?_
 obtain rfl := zj h
 exact ret_ [(.bool true)] (p_one rfl zl p_nil)
def m_spec_spSame_l1 : AC :=
 (.seq (rg [xo 14 (qb .lss (tm 13) (tm 12))])
 (.seq (.cond (tm 14)
  .skip
  (.exit 0))
 (.seq (.block 1 (.seq (rg [xo 15 (qm (tm 13)), xo 5 (qm (tm 15))])
 (.seq (.region [xo 16 (qm (tm 0)), xo 17 (qm (tm 5)), xo 18 (qx 1 (tm 16) (tm 17)), xo 19 (ql (tm 18)), xo 20 (qm (tm 1)), xo 21 (qm (tm 5)), xo 22 (qx 1 (tm 20) (tm 21)), xo 23 (ql (tm 22)), xo 24 (qc 80 [(tm 19), (tm 23)] [[(some .int)], [(some .int)]]), xo 25 (.i (.not (tm 24)))] true [])
 (.cond (tm 25)
  (.seq (rg [xo 4 (qm (cb false))])
  .ret)
  .skip))))
 (rg [xo 26 (qb .add (tm 13) (ci 1)), xo 13 (qm (tm 26))]))))
def m_spec_spSame : AC :=
 (.seq (rg [xo 4 (qm (cb false))])
 (.seq (.seq (rg [xo 6 (qm (tm 0)), xo 7 (.i (.len (tm 6))), xo 8 (qm (tm 1)), xo 9 (.i (.len (tm 8))), xo 10 (qb .neq (tm 7) (tm 9))])
 (.cond (tm 10)
  (.seq (rg [xo 4 (qm (cb false))])
  .ret)
  .skip))
 (.seq (.seq (rg [xo 11 (qm (tm 0)), xo 12 (.i (.len (tm 11))), xo 13 (qm (ci 0))])
 (.block 0 (.loop m_spec_spSame_l1)))
 (.seq (rg [xo 4 (qm (cb true))])
 .ret))))
def r_spec_spSame : List Res := [.tmp 4]
theorem c_spec_spSame : compiled Tryd.prog Tryd.f101 = some (m_spec_spSame, r_spec_spSame) := by kernel_rfl
theorem hb_spec_spSame : hasBody Tryd.prog 101 = true := by kernel_rfl
def L_spec_spSame_l1 (a0 : List (List Int)) (a1 : List (List Int)) (l8_m13 : Nat) : Option (Ctl Nat (Ctl Unit Bool)) :=
 cond (decide (((l8_m13 : Nat) : Int) < ((a0.length : Nat) : Int)))
 (Option.bind (a0[l8_m13]?) fun x15 =>
 Option.bind (a1[l8_m13]?) fun x16 =>
 Option.bind (L_spec_l1Same x15 x16) fun y17 =>
 cond (!y17)
  (some (Ctl.out (Ctl.out false)))
  (og (l8_m13 + 1 < 4611686018427387904) <|
  some (Ctl.next (l8_m13 + 1))))
 (some (Ctl.out (Ctl.next ())))
def L_spec_spSame (a0 : List (List Int)) (a1 : List (List Int)) : Option Bool :=
 cond (((a0.length : Nat) : Int) != ((a1.length : Nat) : Int))
 (some false)
 (seqC (loopM (fun s_ : Nat => L_spec_spSame_l1 a0 a1 s_) 4611686018427387904 0) fun _ =>
 some true)
def rv_spec_spSame (r : Bool) : RV := ⟨false, [(false, [.sc (.bool r)])]⟩
theorem ok_spec_spSame {a0 : List (List Int)} {a1 : List (List Int)} {r : Bool} (h : L_spec_spSame a0 a1 = some r) : CallOK Tryd.prog Tab 101 [(.tree (.slice .int) a0), (.tree (.slice .int) a1)] (rv_spec_spSame r) := by
 refine call_of_ (by kernel_rfl) Tryd.func101 c_spec_spSame (n := 27) (by kernel_rfl) (by simp) (tl := [(0, (.tree (.slice .int) a0)), (1, (.tree (.slice .int) a1))]) rfl ?_
 unfold m_spec_spSame
 unfold L_spec_spSame at h
 refine seqR ?_
 refine awp_seqv_ ?_
 refine seqR ?_
 rcases cond_some h with ⟨q4, h⟩ | ⟨q4, h⟩
 ·refine awp_condT_ q4 ?_
  refine seqR ?_
  refine awp_ret_ (tr_ ?_)
  obtain rfl := zj h
  exact ret_ [(.bool false)] (p_one rfl zl p_nil)
 refine awp_condF_ q4 ?_
 refine awp_skip_ (tn_ ?_)
 refine wr_ ?_
 refine awp_seqC h (fun (_ : Unit) S_ => S_ = ⟨mkTm [], mkOb (someL []), 2⟩) ?_ ?_
 ·intro v_ h hk6
  refine seqR ?_
  refine awp_block_ ?_
  refine awp_loopL h (fun (l8_m13 : Nat) S_ => S_ = ⟨mkTm [(0, (.tree (.slice .int) a0)), (1, (.tree (.slice .int) a1)), (12, (ai ((a0.length : Nat) : Int))), (13, (ai ((l8_m13 : Nat) : Int)))], mkOb (someL []), 2⟩) ⟨_, (weak_ren []), rfl⟩ ?_
  rintro n_ l8_m13 _ c_ rfl h hn8
  (try dsimp only at h)
  unfold L_spec_spSame_l1 at h
  unfold m_spec_spSame_l1
  refine seqR ?_
  refine awp_seqv_ ?_
  rcases cond_some h with ⟨q11, h⟩ | ⟨q11, h⟩
  ·have q11_ := of_decide_eq_true q11
   refine awp_condT_ q11 ?_
   refine awp_skip_ (tn_ ?_)
   refine wr_ ?_
   refine awp_seqv_ ?_
   refine awp_block_ ?_
   refine seqR ?_
   refine awp_seqv_ ?_
   obtain ⟨x15, e15, h⟩ := ob_some h
   obtain ⟨x16, e16, h⟩ := ob_some h
   obtain ⟨y17, h17, h⟩ := ob_some h
   refine awp_regionD_ 15 ?_
   refine dz0 (.tree (.slice .int) a0) ?_
   refine dz0 (ai ((l8_m13 : Nat) : Int)) ?_
   refine ds0 (.telt (.slice .int) x15 0) (zi (t := (.slice .int)) (xs := a0) (k := .i64) (m := ((l8_m13 : Nat) : Int)) (nat_nn _) e15) ?_
   refine dz0 (.tree .int x15) ?_
   refine dz0 (.tree (.slice .int) a1) ?_
   refine dz0 (ai ((l8_m13 : Nat) : Int)) ?_
   refine ds0 (.telt (.slice .int) x16 0) (zi (t := (.slice .int)) (xs := a1) (k := .i64) (m := ((l8_m13 : Nat) : Int)) (nat_nn _) e16) ?_
   refine dz0 (.tree .int x16) ?_
   refine dcall (.bool y17) [] [(.tree .int x15), (.tree .int x16)] _ (caps := []) (args0 := [(.tree .int x15), (.tree .int x16)]) trivial (by kernel_rfl) (ok_spec_l1Same h17) hb_spec_l1Same ?_
   refine dz0 (.bool (!y17)) ?_
   refine dnil (badB_spec (by kernel_rfl)) (tn_ ?_)
   refine wr_ ?_
   rcases cond_some h with ⟨q18, h⟩ | ⟨q18, h⟩
   ·refine awp_condT_ q18 ?_
    refine seqR ?_
    refine awp_ret_ (br_ (tr_ (tr_ (br_ (tr_ ?_)))))
    obtain rfl := zj h
    have h := hn8
    (try dsimp only at h)
    obtain rfl := zj h
    have h := hk6
    (try dsimp only at h)
    obtain rfl := zj h
    exact ret_ [(.bool false)] (p_one rfl zl p_nil)
   refine awp_condF_ q18 ?_
   refine awp_skip_ (bn_ (tn_ ?_))
   refine wr_ ?_
   obtain ⟨g20, h⟩ := og_some h
   refine awp_region_ 17 ?_
   refine rs0 (ai ((l8_m13 + 1 : Nat) : Int)) (za g20) ?_
   refine rsB 1 ?_
   refine rnil (tn_ ?_)
   obtain rfl := zj h
   exact ⟨l8_m13 + 1, _, (weak_ren []), rfl, hn8⟩
  have q11_ := of_decide_eq_false q11
  refine awp_condF_ q11 ?_
  refine awp_exit_ (te_ (te_ (be_ (tn_ ?_))))
  obtain rfl := zj h
  have h := hn8
  (try dsimp only at h)
  obtain rfl := zj h
  exact ⟨(), _, rfl, (weak_ren []), rfl⟩
 rintro _ _ rfl h
 (try dsimp only at h)
 refine seqR ?_
 refine awp_ret_ ?_
 obtain rfl := zj h
 exact ret_ [(.bool true)] (p_one rfl zl p_nil)
def m_spec_spGood : AC :=
 (.seq (rg [xo 3 (.i (.box 84 (tm 1))), xo 4 (qm (cb false))])
 (.seq (.region [xo 5 (qm (tm 0)), xo 6 (qc 61 [(tm 5)] [[]]), xo 7 (qm (tm 6)), ⟨(some 8), (some (7, true)), (qf 0 (tm 3))⟩, ⟨(some 9), (some (7, true)), (ql (tm 8))⟩, ⟨(some 10), (some (7, true)), (qc 62 [(tm 9), (ci 0), (ci 24)] [[], [], []])⟩, xo 11 (.i (.pick (tm 7) (tm 10) (cb false))), xo 12 (qm (tm 11)), ⟨(some 13), (some (12, true)), (qf 1 (tm 3))⟩, ⟨(some 14), (some (12, true)), (ql (tm 13))⟩, ⟨(some 15), (some (12, true)), (.i (.len (tm 14)))⟩, ⟨(some 16), (some (12, true)), (qf 0 (tm 3))⟩, ⟨(some 17), (some (12, true)), (ql (tm 16))⟩, ⟨(some 18), (some (12, true)), (qb .leq (tm 15) (tm 17))⟩, xo 19 (.i (.pick (tm 12) (tm 18) (cb false))), xo 20 (qm (tm 19)), ⟨(some 21), (some (20, true)), (qm (tm 0))⟩, ⟨(some 22), (some (20, true)), (qf 0 (tm 3))⟩, ⟨(some 23), (some (20, true)), (ql (tm 22))⟩, ⟨(some 24), (some (20, true)), (qf 1 (tm 3))⟩, ⟨(some 25), (some (20, true)), (ql (tm 24))⟩, ⟨(some 26), (some (20, true)), (qc 63 [(tm 21), (tm 23), (tm 25)] [[], [], [(some (.slice .int))]])⟩, xo 27 (.i (.pick (tm 20) (tm 26) (cb false))), xo 28 (qm (tm 27)), ⟨(some 29), (some (28, true)), (qm (tm 0))⟩, ⟨(some 30), (some (28, true)), (qf 0 (tm 3))⟩, ⟨(some 31), (some (28, true)), (ql (tm 30))⟩, ⟨(some 32), (some (28, true)), (qf 1 (tm 3))⟩, ⟨(some 33), (some (28, true)), (ql (tm 32))⟩, ⟨(some 34), (some (28, true)), (qc 50 [(tm 29), (tm 31), (tm 33)] [[], [], [(some (.slice .int))]])⟩, ⟨(some 35), (some (28, true)), (qf 1 (tm 3))⟩, ⟨(some 36), (some (28, true)), (ql (tm 35))⟩, ⟨(some 37), (some (28, true)), (qc 101 [(tm 34), (tm 36)] [[(some (.slice .int))], [(some (.slice .int))]])⟩, xo 38 (.i (.pick (tm 28) (tm 37) (cb false))), xo 4 (qm (tm 38))] true [(29, 31)])
 .ret))
def r_spec_spGood : List Res := [.tmp 4]
theorem c_spec_spGood : compiled Tryd.prog Tryd.f73 = some (m_spec_spGood, r_spec_spGood) := by kernel_rfl
theorem hb_spec_spGood : hasBody Tryd.prog 73 = true := by kernel_rfl
def L_spec_spGood (a0 : Int) (a1_0 : Int) (a1_1 : List (List Int)) : Option Bool :=
 Option.bind (Option.bind (L_spec_fdGood a0) fun y3 =>
 cond y3
  (Option.bind (L_spec_l1In a1_0 0 24) fun y5 =>
  cond y5
   (cond (decide (((a1_1.length : Nat) : Int) <= a1_0))
    (Option.bind (L_spec_spRows a0 a1_0 a1_1) fun y8 =>
    cond y8
     (Option.bind (L_spec_spReduce a0 a1_0 a1_1) fun y10 =>
     Option.bind (L_spec_spSame y10 a1_1) fun y11 =>
     some y11)
     (some false))
    (some false))
   (some false))
  (some false)) fun l2_m4 =>
some l2_m4
def rv_spec_spGood (r : Bool) : RV := ⟨false, [(false, [.sc (.bool r)])]⟩
set_option maxHeartbeats 1600000 in
theorem ok_spec_spGood {a0 : Int} {a1_0 : Int} {a1_1 : List (List Int)} {r : Bool} (h : L_spec_spGood a0 a1_0 a1_1 = some r) : CallOK Tryd.prog Tab 73 [(ai a0), (.agg [(ai a1_0), (.tree (.slice .int) a1_1)])] (rv_spec_spGood r) := by
 refine call_of_ (by kernel_rfl) Tryd.func73 c_spec_spGood (n := 39) (by kernel_rfl) (by simp) (tl := [(0, (ai a0)), (1, (.agg [(ai a1_0), (.tree (.slice .int) a1_1)]))]) rfl ?_
 unfold m_spec_spGood
 unfold L_spec_spGood at h
 refine seqR ?_
 refine awp_seqB h (fun (l2_m4 : Bool) S_ => S_ = ⟨mkTm [(4, (.bool l2_m4))], mkOb (someL []), 2⟩) ?_ ?_
 ·intro v_ h
  obtain ⟨y3, h3, h⟩ := ob_some h
  rcases cond_some h with ⟨q4, h⟩ | ⟨q4, h⟩
  ·obtain ⟨y5, h5, h⟩ := ob_some h
   rcases cond_some h with ⟨q6, h⟩ | ⟨q6, h⟩
   ·rcases cond_some h with ⟨q7, h⟩ | ⟨q7, h⟩
    ·have q7_ := of_decide_eq_true q7
     obtain ⟨y8, h8, h⟩ := ob_some h
     rcases cond_some h with ⟨q9, h⟩ | ⟨q9, h⟩
     ·obtain ⟨y10, h10, h⟩ := ob_some h
      obtain ⟨y11, h11, h⟩ := ob_some h
      refine awp_regionD_ 38 ?_
      refine dz0 (ai a0) ?_
      refine dcall (.bool y3) [] [(ai a0)] _ (caps := []) (args0 := [(ai a0)]) trivial (by kernel_rfl) (ok_spec_fdGood h3) hb_spec_fdGood ?_
      refine dz0 (.bool y3) ?_
      refine ds0 (.box (oi 3 1) 0) (zg q4) ?_
      refine dsl (ai a1_0) (zg q4) ?_
      refine dcall (.bool y5) [] [(ai a1_0), (ai 0), (ai 24)] _ (caps := []) (args0 := [(ai a1_0), (ai 0), (ai 24)]) (gdOK_b (by kernel_rfl) q4) (by kernel_rfl) (ok_spec_l1In h5) hb_spec_l1In ?_
      refine ds0 (.bool y5) (zT q4) ?_
      refine dz0 (.bool y5) ?_
      refine ds0 (.box (oi 3 1) 1) (zg q6) ?_
      refine dsl (.tree (.slice .int) a1_1) (zg q6) ?_
      refine ds0 (ai ((a1_1.length : Nat) : Int)) (zg q6) ?_
      refine ds0 (.box (oi 3 1) 0) (zg q6) ?_
      refine dsl (ai a1_0) (zg q6) ?_
      refine ds0 (.bool (decide (((a1_1.length : Nat) : Int) <= a1_0))) (zg q6) ?_
      refine ds0 (.bool (decide (((a1_1.length : Nat) : Int) <= a1_0))) (zT q6) ?_
      refine dz0 (.bool (decide (((a1_1.length : Nat) : Int) <= a1_0))) ?_
      refine ds0 (ai a0) (zg q7) ?_
      refine ds0 (.box (oi 3 1) 0) (zg q7) ?_
      refine dsl (ai a1_0) (zg q7) ?_
      refine ds0 (.box (oi 3 1) 1) (zg q7) ?_
      refine dsl (.tree (.slice .int) a1_1) (zg q7) ?_
      refine dcall (.bool y8) [] [(ai a0), (ai a1_0), (.tree (.slice .int) a1_1)] _ (caps := []) (args0 := [(ai a0), (ai a1_0), (.tree (.slice .int) a1_1)]) (gdOK_b (by kernel_rfl) q7) (by kernel_rfl) (ok_spec_spRows h8) hb_spec_spRows ?_
      refine ds0 (.bool y8) (zT q7) ?_
      refine dz0 (.bool y8) ?_
      refine ds0 (ai a0) (zg q9) ?_
      refine ds0 (.box (oi 3 1) 0) (zg q9) ?_
      refine dsl (ai a1_0) (zg q9) ?_
      refine ds0 (.box (oi 3 1) 1) (zg q9) ?_
      refine dsl (.tree (.slice .int) a1_1) (zg q9) ?_
      refine dcallM (.own (oi 544 32) (.slice .int) 0 y10.length) [((oi 544 32), some (.mat 42 (oi 545 32) .int y10)), ((oi 545 32), some (.pool 3 .int y10))] [] [(ai a0), (ai a1_0), (.tree (.slice .int) a1_1)] (caps := []) (gdOK_b (by kernel_rfl) q9) (ok_spec_spReduce h10) hb_spec_spReduce trivial (.cons (.ren (by kernel_rfl)) (.cons (.ren (by kernel_rfl)) (.cons (.ren (by kernel_rfl)) .nil))) (reachL_mem (by kernel_rfl) (by kernel_rfl) trivial) (rd_all (by kernel_rfl)) ?_
      refine ds0 (.box (oi 3 1) 1) (zg q9) ?_
      refine dsl (.tree (.slice .int) a1_1) (zg q9) ?_
      refine dcall (.bool y11) [] [(.own (oi 544 32) (.slice .int) 0 y10.length), (.tree (.slice .int) a1_1)] _ (caps := []) (args0 := [(.tree (.slice .int) y10), (.tree (.slice .int) a1_1)]) (gdOK_b (by kernel_rfl) q9) (gm_cons (gd_mat (p := (oi 545 32)) (e1 := 42) (e := 3) (u := .int) (xss := y10) (by kernel_rfl) (pool_rowsD (t := (.slice .int)) (off := 0) (len := y10.length) (i := (oi 544 32)) (e1 := 42) (z := 1) (m := y10.length) 0 rfl (by kernel_rfl) (by kernel_rfl) (pool_rows (by kernel_rfl))) rfl) (gm_cons (by kernel_rfl) gm_nil)) (ok_spec_spSame h11) hb_spec_spSame ?_
      refine ds0 (.bool y11) (zT q9) ?_
      refine dz0 (.bool y11) ?_
      refine dnil ⟨(pair_j (by kernel_rfl)), trivial⟩ (tn_ ?_)
      obtain rfl := zj h
      exact ⟨_, (weak_ren []), rfl⟩
     refine awp_regionD_ 38 ?_
     refine dz0 (ai a0) ?_
     refine dcall (.bool y3) [] [(ai a0)] _ (caps := []) (args0 := [(ai a0)]) trivial (by kernel_rfl) (ok_spec_fdGood h3) hb_spec_fdGood ?_
     refine dz0 (.bool y3) ?_
     refine ds0 (.box (oi 3 1) 0) (zg q4) ?_
     refine dsl (ai a1_0) (zg q4) ?_
     refine dcall (.bool y5) [] [(ai a1_0), (ai 0), (ai 24)] _ (caps := []) (args0 := [(ai a1_0), (ai 0), (ai 24)]) (gdOK_b (by kernel_rfl) q4) (by kernel_rfl) (ok_spec_l1In h5) hb_spec_l1In ?_
     refine ds0 (.bool y5) (zT q4) ?_
     refine dz0 (.bool y5) ?_
     refine ds0 (.box (oi 3 1) 1) (zg q6) ?_
     refine dsl (.tree (.slice .int) a1_1) (zg q6) ?_
     refine ds0 (ai ((a1_1.length : Nat) : Int)) (zg q6) ?_
     refine ds0 (.box (oi 3 1) 0) (zg q6) ?_
     refine dsl (ai a1_0) (zg q6) ?_
     refine ds0 (.bool (decide (((a1_1.length : Nat) : Int) <= a1_0))) (zg q6) ?_
     refine ds0 (.bool (decide (((a1_1.length : Nat) : Int) <= a1_0))) (zT q6) ?_
     refine dz0 (.bool (decide (((a1_1.length : Nat) : Int) <= a1_0))) ?_
     refine ds0 (ai a0) (zg q7) ?_
     refine ds0 (.box (oi 3 1) 0) (zg q7) ?_
     refine dsl (ai a1_0) (zg q7) ?_
     refine ds0 (.box (oi 3 1) 1) (zg q7) ?_
     refine dsl (.tree (.slice .int) a1_1) (zg q7) ?_
     refine dcall (.bool y8) [] [(ai a0), (ai a1_0), (.tree (.slice .int) a1_1)] _ (caps := []) (args0 := [(ai a0), (ai a1_0), (.tree (.slice .int) a1_1)]) (gdOK_b (by kernel_rfl) q7) (by kernel_rfl) (ok_spec_spRows h8) hb_spec_spRows ?_
     refine ds0 (.bool y8) (zT q7) ?_
     refine dz0 (.bool y8) ?_
     refine ds0 (.tup []) (s_skip (by kernel_rfl) q9) ?_
     refine ds0 (.tup []) (s_skip (by kernel_rfl) q9) ?_
     refine ds0 (.tup []) (s_skip (by kernel_rfl) q9) ?_
     refine ds0 (.tup []) (s_skip (by kernel_rfl) q9) ?_
     refine ds0 (.tup []) (s_skip (by kernel_rfl) q9) ?_
     refine ds0 (.tup []) (s_skip (by kernel_rfl) q9) ?_
     refine ds0 (.tup []) (s_skip (by kernel_rfl) q9) ?_
     refine ds0 (.tup []) (s_skip (by kernel_rfl) q9) ?_
     refine ds0 (.tup []) (s_skip (by kernel_rfl) q9) ?_
     refine ds0 (.bool false) (zF q9) ?_
     refine dz0 (.bool false) ?_
     refine dnil (badB_spec (by kernel_rfl)) (tn_ ?_)
     obtain rfl := zj h
     exact ⟨_, (weak_ren []), rfl⟩
    have q7_ := of_decide_eq_false q7
    refine awp_regionD_ 38 ?_
    refine dz0 (ai a0) ?_
    refine dcall (.bool y3) [] [(ai a0)] _ (caps := []) (args0 := [(ai a0)]) trivial (by kernel_rfl) (ok_spec_fdGood h3) hb_spec_fdGood ?_
    refine dz0 (.bool y3) ?_
    refine ds0 (.box (oi 3 1) 0) (zg q4) ?_
    refine dsl (ai a1_0) (zg q4) ?_
    refine dcall (.bool y5) [] [(ai a1_0), (ai 0), (ai 24)] _ (caps := []) (args0 := [(ai a1_0), (ai 0), (ai 24)]) (gdOK_b (by kernel_rfl) q4) (by kernel_rfl) (ok_spec_l1In h5) hb_spec_l1In ?_
    refine ds0 (.bool y5) (zT q4) ?_
    refine dz0 (.bool y5) ?_
    refine ds0 (.box (oi 3 1) 1) (zg q6) ?_
    refine dsl (.tree (.slice .int) a1_1) (zg q6) ?_
    refine ds0 (ai ((a1_1.length : Nat) : Int)) (zg q6) ?_
    refine ds0 (.box (oi 3 1) 0) (zg q6) ?_
    refine dsl (ai a1_0) (zg q6) ?_
    refine ds0 (.bool (decide (((a1_1.length : Nat) : Int) <= a1_0))) (zg q6) ?_
    refine ds0 (.bool (decide (((a1_1.length : Nat) : Int) <= a1_0))) (zT q6) ?_
    refine dz0 (.bool (decide (((a1_1.length : Nat) : Int) <= a1_0))) ?_
    refine ds0 (.tup []) (s_skip (by kernel_rfl) q7) ?_
    refine ds0 (.tup []) (s_skip (by kernel_rfl) q7) ?_
    refine ds0 (.tup []) (s_skip (by kernel_rfl) q7) ?_
    refine ds0 (.tup []) (s_skip (by kernel_rfl) q7) ?_
    refine ds0 (.tup []) (s_skip (by kernel_rfl) q7) ?_
    refine ds0 (.tup []) (s_skip (by kernel_rfl) q7) ?_
    refine ds0 (.bool false) (zF q7) ?_
    refine dz0 (.bool false) ?_
    refine dz0 (.tup []) ?_
    refine dz0 (.tup []) ?_
    refine dz0 (.tup []) ?_
    refine dz0 (.tup []) ?_
    refine dz0 (.tup []) ?_
    refine dz0 (.tup []) ?_
    refine dz0 (.tup []) ?_
    refine dz0 (.tup []) ?_
    refine dz0 (.tup []) ?_
    refine dz0 (.bool false) ?_
    refine dz0 (.bool false) ?_
    refine dnil (badB_spec (by kernel_rfl)) (tn_ ?_)
    obtain rfl := zj h
    exact ⟨_, (weak_ren []), rfl⟩
   refine awp_regionD_ 38 ?_
   refine dz0 (ai a0) ?_
   refine dcall (.bool y3) [] [(ai a0)] _ (caps := []) (args0 := [(ai a0)]) trivial (by kernel_rfl) (ok_spec_fdGood h3) hb_spec_fdGood ?_
   refine dz0 (.bool y3) ?_
   refine ds0 (.box (oi 3 1) 0) (zg q4) ?_
   refine dsl (ai a1_0) (zg q4) ?_
   refine dcall (.bool y5) [] [(ai a1_0), (ai 0), (ai 24)] _ (caps := []) (args0 := [(ai a1_0), (ai 0), (ai 24)]) (gdOK_b (by kernel_rfl) q4) (by kernel_rfl) (ok_spec_l1In h5) hb_spec_l1In ?_
   refine ds0 (.bool y5) (zT q4) ?_
   refine dz0 (.bool y5) ?_
   refine ds0 (.tup []) (s_skip (by kernel_rfl) q6) ?_
   refine ds0 (.tup []) (s_skip (by kernel_rfl) q6) ?_
   refine ds0 (.tup []) (s_skip (by kernel_rfl) q6) ?_
   refine ds0 (.tup []) (s_skip (by kernel_rfl) q6) ?_
   refine ds0 (.tup []) (s_skip (by kernel_rfl) q6) ?_
   refine ds0 (.tup []) (s_skip (by kernel_rfl) q6) ?_
   refine ds0 (.bool false) (zF q6) ?_
   refine dz0 (.bool false) ?_
   refine dz0 (.tup []) ?_
   refine dz0 (.tup []) ?_
   refine dz0 (.tup []) ?_
   refine dz0 (.tup []) ?_
   refine dz0 (.tup []) ?_
   refine dz0 (.tup []) ?_
   refine dz0 (.bool false) ?_
   refine dz0 (.bool false) ?_
   refine dz0 (.tup []) ?_
   refine dz0 (.tup []) ?_
   refine dz0 (.tup []) ?_
   refine dz0 (.tup []) ?_
   refine dz0 (.tup []) ?_
   refine dz0 (.tup []) ?_
   refine dz0 (.tup []) ?_
   refine dz0 (.tup []) ?_
   refine dz0 (.tup []) ?_
   refine dz0 (.bool false) ?_
   refine dz0 (.bool false) ?_
   refine dnil (badB_spec (by kernel_rfl)) (tn_ ?_)
   obtain rfl := zj h
   exact ⟨_, (weak_ren []), rfl⟩
  refine awp_regionD_ 38 ?_
  refine dz0 (ai a0) ?_
  refine dcall (.bool y3) [] [(ai a0)] _ (caps := []) (args0 := [(ai a0)]) trivial (by kernel_rfl) (ok_spec_fdGood h3) hb_spec_fdGood ?_
  refine dz0 (.bool y3) ?_
  refine ds0 (.tup []) (s_skip (by kernel_rfl) q4) ?_
  refine ds0 (.tup []) (s_skip (by kernel_rfl) q4) ?_
  refine ds0 (.tup []) (s_skip (by kernel_rfl) q4) ?_
  refine ds0 (.bool false) (zF q4) ?_
  refine dz0 (.bool false) ?_
  refine dz0 (.tup []) ?_
  refine dz0 (.tup []) ?_
  refine dz0 (.tup []) ?_
  refine dz0 (.tup []) ?_
  refine dz0 (.tup []) ?_
  refine dz0 (.tup []) ?_
  refine dz0 (.bool false) ?_
  refine dz0 (.bool false) ?_
  refine dz0 (.tup []) ?_
  refine dz0 (.tup []) ?_
  refine dz0 (.tup []) ?_
  refine dz0 (.tup []) ?_
  refine dz0 (.tup []) ?_
  refine dz0 (.tup []) ?_
  refine dz0 (.bool false) ?_
  refine dz0 (.bool false) ?_
  refine dz0 (.tup []) ?_
  refine dz0 (.tup []) ?_
  refine dz0 (.tup []) ?_
  refine dz0 (.tup []) ?_
  refine dz0 (.tup []) ?_
  refine dz0 (.tup []) ?_
  refine dz0 (.tup []) ?_
  refine dz0 (.tup []) ?_
  refine dz0 (.tup []) ?_
  refine dz0 (.bool false) ?_
  refine dz0 (.bool false) ?_
  refine dnil (badB_spec (by kernel_rfl)) (tn_ ?_)
  obtain rfl := zj h
  exact ⟨_, (weak_ren []), rfl⟩
 rintro l2_m4 _ rfl h
 (try dsimp only at h)
 refine awp_ret_ ?_
 obtain rfl := zj h
 exact ret_ [(.bool l2_m4)] (p_one rfl zl p_nil)
def m_spec_rlGood : AC :=
 (.seq (rg [xo 3 (.i (.box 38 (tm 1))), xo 4 (qm (cb false))])
 (.seq (rg [xo 5 (qf 0 (tm 3)), xo 6 (ql (tm 5)), xo 7 (qc 62 [(tm 6), (ci 0), (ci 24)] [[], [], []]), xo 8 (qm (tm 7)), ⟨(some 9), (some (8, true)), (qf 1 (tm 3))⟩, ⟨(some 10), (some (8, true)), (ql (tm 9))⟩, ⟨(some 11), (some (8, true)), (qf 0 (tm 3))⟩, ⟨(some 12), (some (8, true)), (ql (tm 11))⟩, ⟨(some 13), (some (8, true)), (qb .sub (ci 24) (tm 12))⟩, ⟨(some 14), (some (8, true)), (qc 62 [(tm 10), (ci 0), (tm 13)] [[], [], []])⟩, xo 15 (.i (.pick (tm 8) (tm 14) (cb false))), xo 16 (qm (tm 15)), ⟨(some 17), (some (16, true)), (qm (tm 0))⟩, ⟨(some 18), (some (16, true)), (qf 0 (tm 3))⟩, ⟨(some 19), (some (16, true)), (ql (tm 18))⟩, ⟨(some 20), (some (16, true)), (qf 1 (tm 3))⟩, ⟨(some 21), (some (16, true)), (ql (tm 20))⟩, ⟨(some 22), (some (16, true)), (qb .add (tm 19) (tm 21))⟩, ⟨(some 23), (some (16, true)), (qf 2 (tm 3))⟩, ⟨(some 24), (some (16, true)), (ql (tm 23))⟩, ⟨(some 25), (some (16, true)), (.build [(.int .i64 0), .nils] [(0, 1, (tm 22)), (1, 1, (tm 24))])⟩, ⟨(some 26), (some (16, true)), (qc 73 [(tm 17), (tm 25)] [[], [none, (some (.slice .int))]])⟩, xo 27 (.i (.pick (tm 16) (tm 26) (cb false))), xo 4 (qm (tm 27))])
 .ret))
def r_spec_rlGood : List Res := [.tmp 4]
theorem c_spec_rlGood : compiled Tryd.prog Tryd.f40 = some (m_spec_rlGood, r_spec_rlGood) := by kernel_rfl
def L_spec_rlGood (a0 : Int) (a1_0 : Int) (a1_1 : Int) (a1_2 : List (List Int)) : Option Bool :=
 Option.bind (Option.bind (L_spec_l1In a1_0 0 24) fun y3 =>
 cond y3
  (Option.bind (L_spec_l1In a1_1 0 (IntKind.i64.wrap (24 - a1_0))) fun y5 =>
  cond y5
   (Option.bind (L_spec_spGood a0 (IntKind.i64.wrap (a1_0 + a1_1)) a1_2) fun y7 =>
   some y7)
   (some false))
  (some false)) fun l2_m4 =>
some l2_m4
def rv_spec_rlGood (r : Bool) : RV := ⟨false, [(false, [.sc (.bool r)])]⟩
theorem ok_spec_rlGood {a0 : Int} {a1_0 : Int} {a1_1 : Int} {a1_2 : List (List Int)} {r : Bool} (h : L_spec_rlGood a0 a1_0 a1_1 a1_2 = some r) : CallOK Tryd.prog Tab 40 [(ai a0), (.agg [(ai a1_0), (ai a1_1), (.tree (.slice .int) a1_2)])] (rv_spec_rlGood r) := by
 refine call_of_ (by kernel_rfl) Tryd.func40 c_spec_rlGood (n := 28) (by kernel_rfl) (by simp) (tl := [(0, (ai a0)), (1, (.agg [(ai a1_0), (ai a1_1), (.tree (.slice .int) a1_2)]))]) rfl ?_
 unfold m_spec_rlGood
 unfold L_spec_rlGood at h
 refine seqR ?_
 refine awp_seqB h (fun (l2_m4 : Bool) S_ => S_ = ⟨mkTm [(4, (.bool l2_m4))], mkOb (someL []), 2⟩) ?_ ?_
 ·intro v_ h
  obtain ⟨y3, h3, h⟩ := ob_some h
  rcases cond_some h with ⟨q4, h⟩ | ⟨q4, h⟩
  ·obtain ⟨y5, h5, h⟩ := ob_some h
   rcases cond_some h with ⟨q6, h⟩ | ⟨q6, h⟩
   ·obtain ⟨y7, h7, h⟩ := ob_some h
    refine awp_region_ 27 ?_
    refine rz0 (.box (oi 3 1) 0) ?_
    refine rzl (ai a1_0) ?_
    refine zc (.bool y3) [] [(ai a1_0), (ai 0), (ai 24)] (ok_spec_l1In h3) ?_
    refine rz0 (.bool y3) ?_
    refine rs0 (.box (oi 3 1) 1) (zg q4) ?_
    refine rsl (ai a1_1) (zg q4) ?_
    refine rs0 (.box (oi 3 1) 0) (zg q4) ?_
    refine rsl (ai a1_0) (zg q4) ?_
    refine rs0 (ai (IntKind.i64.wrap (24 - a1_0))) (zg q4) ?_
    refine rcall (.bool y5) [] [(ai a1_1), (ai 0), (ai (IntKind.i64.wrap (24 - a1_0)))] _ (caps := []) (args0 := [(ai a1_1), (ai 0), (ai (IntKind.i64.wrap (24 - a1_0)))]) (gdOK_b (by kernel_rfl) q4) (by kernel_rfl) (ok_spec_l1In h5) hb_spec_l1In ?_
    refine rs0 (.bool y5) (zT q4) ?_
    refine rz0 (.bool y5) ?_
    refine rs0 (ai a0) (zg q6) ?_
    refine rs0 (.box (oi 3 1) 0) (zg q6) ?_
    refine rsl (ai a1_0) (zg q6) ?_
    refine rs0 (.box (oi 3 1) 1) (zg q6) ?_
    refine rsl (ai a1_1) (zg q6) ?_
    refine rs0 (ai (IntKind.i64.wrap (a1_0 + a1_1))) (zg q6) ?_
    refine rs0 (.box (oi 3 1) 2) (zg q6) ?_
    refine rsl (.tree (.slice .int) a1_2) (zg q6) ?_
    refine rs0 (.agg [(ai (IntKind.i64.wrap (a1_0 + a1_1))), (.tree (.slice .int) a1_2)]) (zg q6) ?_
    refine rcall (.bool y7) [] [(ai a0), (.agg [(ai (IntKind.i64.wrap (a1_0 + a1_1))), (.tree (.slice .int) a1_2)])] _ (caps := []) (args0 := [(ai a0), (.agg [(ai (IntKind.i64.wrap (a1_0 + a1_1))), (.tree (.slice .int) a1_2)])]) (gdOK_b (by kernel_rfl) q6) (by kernel_rfl) (ok_spec_spGood h7) hb_spec_spGood ?_
    refine rs0 (.bool y7) (zT q6) ?_
    refine rsB 1 ?_
    refine rnil (tn_ ?_)
    obtain rfl := zj h
    exact ⟨_, (weak_ren []), rfl⟩
   refine awp_region_ 27 ?_
   refine rz0 (.box (oi 3 1) 0) ?_
   refine rzl (ai a1_0) ?_
   refine zc (.bool y3) [] [(ai a1_0), (ai 0), (ai 24)] (ok_spec_l1In h3) ?_
   refine rz0 (.bool y3) ?_
   refine rs0 (.box (oi 3 1) 1) (zg q4) ?_
   refine rsl (ai a1_1) (zg q4) ?_
   refine rs0 (.box (oi 3 1) 0) (zg q4) ?_
   refine rsl (ai a1_0) (zg q4) ?_
   refine rs0 (ai (IntKind.i64.wrap (24 - a1_0))) (zg q4) ?_
   refine rcall (.bool y5) [] [(ai a1_1), (ai 0), (ai (IntKind.i64.wrap (24 - a1_0)))] _ (caps := []) (args0 := [(ai a1_1), (ai 0), (ai (IntKind.i64.wrap (24 - a1_0)))]) (gdOK_b (by kernel_rfl) q4) (by kernel_rfl) (ok_spec_l1In h5) hb_spec_l1In ?_
   refine rs0 (.bool y5) (zT q4) ?_
   refine rz0 (.bool y5) ?_
   refine zs q6 ?_
   refine zs q6 ?_
   refine zs q6 ?_
   refine zs q6 ?_
   refine zs q6 ?_
   refine zs q6 ?_
   refine zs q6 ?_
   refine zs q6 ?_
   refine zs q6 ?_
   refine zs q6 ?_
   refine rs0 (.bool false) (zF q6) ?_
   refine rsB 1 ?_
   refine rnil (tn_ ?_)
   obtain rfl := zj h
   exact ⟨_, (weak_ren []), rfl⟩
  refine awp_region_ 27 ?_
  refine rz0 (.box (oi 3 1) 0) ?_
  refine rzl (ai a1_0) ?_
  refine zc (.bool y3) [] [(ai a1_0), (ai 0), (ai 24)] (ok_spec_l1In h3) ?_
  refine rz0 (.bool y3) ?_
  refine zs q4 ?_
  refine zs q4 ?_
  refine zs q4 ?_
  refine zs q4 ?_
  refine zs q4 ?_
  refine zs q4 ?_
  refine rs0 (.bool false) (zF q4) ?_
  refine rsB 13 ?_
  refine rnil (tn_ ?_)
  obtain rfl := zj h
  exact ⟨_, (weak_ren []), rfl⟩
 rintro l2_m4 _ rfl h
 (try dsimp only at h)
 refine awp_ret_ ?_
 obtain rfl := zj h
 exact ret_ [(.bool l2_m4)] (p_one rfl zl p_nil)
def m_impl_fits : AC :=
 (.seq (rg [xo 4 (qm (cb false))])
 (.seq (rg [xo 5 (qm (tm 0)), xo 6 (qc 66 [(tm 5), (ci 0), (ci 24)] [[], [], []]), xo 7 (qm (tm 6)), ⟨(some 8), (some (7, true)), (qm (tm 1))⟩, ⟨(some 9), (some (7, true)), (qc 66 [(tm 8), (ci 0), (ci 24)] [[], [], []])⟩, xo 10 (.i (.pick (tm 7) (tm 9) (cb false))), xo 11 (qm (tm 10)), ⟨(some 12), (some (11, true)), (qm (tm 0))⟩, ⟨(some 13), (some (11, true)), (qm (tm 1))⟩, ⟨(some 14), (some (11, true)), (qb .add (tm 12) (tm 13))⟩, ⟨(some 15), (some (11, true)), (qb .leq (tm 14) (ci 24))⟩, xo 16 (.i (.pick (tm 11) (tm 15) (cb false))), xo 4 (qm (tm 16))])
 .ret))
def r_impl_fits : List Res := [.tmp 4]
theorem c_impl_fits : compiled Tryd.prog Tryd.f76 = some (m_impl_fits, r_impl_fits) := by kernel_rfl
theorem hb_impl_fits : hasBody Tryd.prog 76 = true := by kernel_rfl
def L_impl_fits (a0 : Int) (a1 : Int) : Option Bool :=
 Option.bind (Option.bind (L_impl_within a0 0 24) fun y3 =>
 cond y3
  (Option.bind (L_impl_within a1 0 24) fun y5 =>
  cond y5
   (some (decide (IntKind.i64.wrap (a0 + a1) <= 24)))
   (some false))
  (some false)) fun l2_m4 =>
some l2_m4
def rv_impl_fits (r : Bool) : RV := ⟨false, [(false, [.sc (.bool r)])]⟩
theorem ok_impl_fits {a0 : Int} {a1 : Int} {r : Bool} (h : L_impl_fits a0 a1 = some r) : CallOK Tryd.prog Tab 76 [(ai a0), (ai a1)] (rv_impl_fits r) := by
 refine call_of_ (by kernel_rfl) Tryd.func76 c_impl_fits (n := 17) (by kernel_rfl) (by simp) (tl := [(0, (ai a0)), (1, (ai a1))]) rfl ?_
 unfold m_impl_fits
 unfold L_impl_fits at h
 refine seqR ?_
 refine awp_seqB h (fun (l2_m4 : Bool) S_ => S_ = ⟨mkTm [(4, (.bool l2_m4))], mkOb (someL []), 2⟩) ?_ ?_
 ·intro v_ h
  obtain ⟨y3, h3, h⟩ := ob_some h
  rcases cond_some h with ⟨q4, h⟩ | ⟨q4, h⟩
  ·obtain ⟨y5, h5, h⟩ := ob_some h
   rcases cond_some h with ⟨q6, h⟩ | ⟨q6, h⟩
   ·refine awp_region_ 15 ?_
    refine rz0 (ai a0) ?_
    refine zc (.bool y3) [] [(ai a0), (ai 0), (ai 24)] (ok_impl_within h3) ?_
    refine rz0 (.bool y3) ?_
    refine rs0 (ai a1) (zg q4) ?_
    refine rcall (.bool y5) [] [(ai a1), (ai 0), (ai 24)] _ (caps := []) (args0 := [(ai a1), (ai 0), (ai 24)]) (gdOK_b (by kernel_rfl) q4) (by kernel_rfl) (ok_impl_within h5) hb_impl_within ?_
    refine rs0 (.bool y5) (zT q4) ?_
    refine rz0 (.bool y5) ?_
    refine rs0 (ai a0) (zg q6) ?_
    refine rs0 (ai a1) (zg q6) ?_
    refine rs0 (ai (IntKind.i64.wrap (a0 + a1))) (zg q6) ?_
    refine rs0 (.bool (decide (IntKind.i64.wrap (a0 + a1) <= 24))) (zg q6) ?_
    refine rs0 (.bool (decide (IntKind.i64.wrap (a0 + a1) <= 24))) (zT q6) ?_
    refine rsB 1 ?_
    refine rnil (tn_ ?_)
    obtain rfl := zj h
    exact ⟨_, (weak_ren []), rfl⟩
   refine awp_region_ 15 ?_
   refine rz0 (ai a0) ?_
   refine zc (.bool y3) [] [(ai a0), (ai 0), (ai 24)] (ok_impl_within h3) ?_
   refine rz0 (.bool y3) ?_
   refine rs0 (ai a1) (zg q4) ?_
   refine rcall (.bool y5) [] [(ai a1), (ai 0), (ai 24)] _ (caps := []) (args0 := [(ai a1), (ai 0), (ai 24)]) (gdOK_b (by kernel_rfl) q4) (by kernel_rfl) (ok_impl_within h5) hb_impl_within ?_
   refine rs0 (.bool y5) (zT q4) ?_
   refine rz0 (.bool y5) ?_
   refine zs q6 ?_
   refine zs q6 ?_
   refine zs q6 ?_
   refine zs q6 ?_
   refine rs0 (.bool false) (zF q6) ?_
   refine rsB 1 ?_
   refine rnil (tn_ ?_)
   obtain rfl := zj h
   exact ⟨_, (weak_ren []), rfl⟩
  refine awp_region_ 15 ?_
  refine rz0 (ai a0) ?_
  refine zc (.bool y3) [] [(ai a0), (ai 0), (ai 24)] (ok_impl_within h3) ?_
  refine rz0 (.bool y3) ?_
  refine zs q4 ?_
  refine zs q4 ?_
  refine rs0 (.bool false) (zF q4) ?_
  refine rsB 7 ?_
  refine rnil (tn_ ?_)
  obtain rfl := zj h
  exact ⟨_, (weak_ren []), rfl⟩
 rintro l2_m4 _ rfl h
 (try dsimp only at h)
 refine awp_ret_ ?_
 obtain rfl := zj h
 exact ret_ [(.bool l2_m4)] (p_one rfl zl p_nil)
def m_impl_areVectors_l1 : AC :=
 (.seq (rg [xo 12 (qb .lss (tm 11) (tm 10))])
 (.seq (.cond (tm 12)
  .skip
  (.exit 0))
 (.seq (.block 1 (.seq (rg [xo 13 (qx 1 (tm 9) (tm 11)), xo 14 (ql (tm 13)), xo 8 (qm (tm 14))])
 (.seq (rg [xo 15 (qm (tm 0)), xo 16 (qm (tm 8)), xo 17 (qm (tm 2)), xo 18 (qc 98 [(tm 15), (tm 16), (tm 17)] [[], [(some .int)], []]), xo 19 (.i (.not (tm 18)))])
 (.cond (tm 19)
  (.seq (rg [xo 6 (qm (cb false))])
  .ret)
  .skip))))
 (rg [xo 20 (qb .add (tm 11) (ci 1)), xo 11 (qm (tm 20))]))))
def m_impl_areVectors : AC :=
 (.seq (rg [xo 6 (qm (cb false))])
 (.seq (.seq (rg [xo 9 (qm (tm 1)), xo 10 (.i (.len (tm 9))), xo 11 (qm (ci 0))])
 (.block 0 (.loop m_impl_areVectors_l1)))
 (.seq (rg [xo 6 (qm (cb true))])
 .ret)))
def r_impl_areVectors : List Res := [.tmp 6]
theorem c_impl_areVectors : compiled Tryd.prog Tryd.f67 = some (m_impl_areVectors, r_impl_areVectors) := by kernel_rfl
theorem hb_impl_areVectors : hasBody Tryd.prog 67 = true := by kernel_rfl
def L_impl_areVectors_l1 (a1 : List (List Int)) (a0 : Int) (a2 : Int) (l4_m11 : Nat) : Option (Ctl Nat (Ctl Unit Bool)) :=
 cond (decide (((l4_m11 : Nat) : Int) < ((a1.length : Nat) : Int)))
 (Option.bind (a1[l4_m11]?) fun x10 =>
 Option.bind (L_impl_isVector a0 x10 a2) fun y12 =>
 cond (!y12)
  (some (Ctl.out (Ctl.out false)))
  (og (l4_m11 + 1 < 4611686018427387904) <|
  some (Ctl.next (l4_m11 + 1))))
 (some (Ctl.out (Ctl.next ())))
def L_impl_areVectors (a0 : Int) (a1 : List (List Int)) (a2 : Int) : Option Bool :=
 seqC (loopM (fun s_ : Nat => L_impl_areVectors_l1 a1 a0 a2 s_) 4611686018427387904 0) fun _ =>
some true
def rv_impl_areVectors (r : Bool) : RV := ⟨false, [(false, [.sc (.bool r)])]⟩
theorem ok_impl_areVectors {a0 : Int} {a1 : List (List Int)} {a2 : Int} {r : Bool} (h : L_impl_areVectors a0 a1 a2 = some r) : CallOK Tryd.prog Tab 67 [(ai a0), (.tree (.slice .int) a1), (ai a2)] (rv_impl_areVectors r) := by
 refine call_of_ (by kernel_rfl) Tryd.func67 c_impl_areVectors (n := 21) (by kernel_rfl) (by simp) (tl := [(0, (ai a0)), (1, (.tree (.slice .int) a1)), (2, (ai a2))]) rfl ?_
 unfold m_impl_areVectors
 unfold L_impl_areVectors at h
 refine seqR ?_
 refine awp_seqC h (fun (_ : Unit) S_ => S_ = ⟨mkTm [], mkOb (someL []), 2⟩) ?_ ?_
 ·intro v_ h hk2
  refine seqR ?_
  refine awp_block_ ?_
  refine awp_loopL h (fun (l4_m11 : Nat) S_ => S_ = ⟨mkTm [(0, (ai a0)), (2, (ai a2)), (9, (.tree (.slice .int) a1)), (10, (ai ((a1.length : Nat) : Int))), (11, (ai ((l4_m11 : Nat) : Int)))], mkOb (someL []), 2⟩) ⟨_, (weak_ren []), rfl⟩ ?_
  rintro n_ l4_m11 _ c_ rfl h hn4
  (try dsimp only at h)
  unfold L_impl_areVectors_l1 at h
  unfold m_impl_areVectors_l1
  refine seqR ?_
  refine awp_seqv_ ?_
  rcases cond_some h with ⟨q7, h⟩ | ⟨q7, h⟩
  ·have q7_ := of_decide_eq_true q7
   refine awp_condT_ q7 ?_
   refine awp_skip_ (tn_ ?_)
   refine wr_ ?_
   refine awp_seqv_ ?_
   refine awp_block_ ?_
   refine awp_seqv_ ?_
   obtain ⟨x10, e10, h⟩ := ob_some h
   refine awp_region_ 6 ?_
   refine rs0 (.telt (.slice .int) x10 0) (zi (t := (.slice .int)) (xs := a1) (k := .i64) (m := ((l4_m11 : Nat) : Int)) (nat_nn _) e10) ?_
   refine rsB 2 ?_
   refine rnil (tn_ ?_)
   refine wr_ ?_
   refine awp_seqv_ ?_
   obtain ⟨y12, h12, h⟩ := ob_some h
   refine awp_region_ 11 ?_
   refine rz0 (ai a0) ?_
   refine rz0 (.tree .int x10) ?_
   refine rz0 (ai a2) ?_
   refine zc (.bool y12) [] [(ai a0), (.tree .int x10), (ai a2)] (ok_impl_isVector h12) ?_
   refine rsB 1 ?_
   refine rnil (tn_ ?_)
   refine wr_ ?_
   rcases cond_some h with ⟨q13, h⟩ | ⟨q13, h⟩
   ·refine awp_condT_ q13 ?_
    refine seqR ?_
    refine awp_ret_ (br_ (tr_ (tr_ (br_ (tr_ ?_)))))
    obtain rfl := zj h
    have h := hn4
    (try dsimp only at h)
    obtain rfl := zj h
    have h := hk2
    (try dsimp only at h)
    obtain rfl := zj h
    exact ret_ [(.bool false)] (p_one rfl zl p_nil)
   refine awp_condF_ q13 ?_
   refine awp_skip_ (bn_ (tn_ ?_))
   refine wr_ ?_
   obtain ⟨g15, h⟩ := og_some h
   refine awp_region_ 13 ?_
   refine rs0 (ai ((l4_m11 + 1 : Nat) : Int)) (za g15) ?_
   refine rsB 1 ?_
   refine rnil (tn_ ?_)
   obtain rfl := zj h
   exact ⟨l4_m11 + 1, _, (weak_ren []), rfl, hn4⟩
  have q7_ := of_decide_eq_false q7
  refine awp_condF_ q7 ?_
  refine awp_exit_ (te_ (te_ (be_ (tn_ ?_))))
  obtain rfl := zj h
  have h := hn4
  (try dsimp only at h)
  obtain rfl := zj h
  exact ⟨(), _, rfl, (weak_ren []), rfl⟩
 rintro _ _ rfl h
 (try dsimp only at h)
 refine seqR ?_
 refine awp_ret_ ?_
 obtain rfl := zj h
 exact ret_ [(.bool true)] (p_one rfl zl p_nil)
def m_impl_reduced : AC :=
 (.seq (rg [xo 6 (qm (.cst .nils))])
 (.seq (rg [xo 10 (qm (tm 1)), xo 11 (qc 52 [(tm 10)] [[(some (.slice .int))]]), xo 7 (qm (tm 11))])
 (.seq (rg [xo 12 (qm (tm 7)), xo 13 (.i (.len (tm 12))), xo 14 (.makeV 42 (.slice .int) 24 [.nils] (tm 13) (tm 13)), xo 8 (qm (tm 14))])
 (.seq (rg [xo 15 (qm (tm 0)), xo 16 (qm (tm 7)), xo 17 (qm (tm 2)), xo 18 (qm (tm 8)), xo 19 (qc 88 [(tm 15), (tm 16), (tm 17), (tm 18)] [[], [(some (.slice .int))], [], [(some (.slice .int))]]), xo 9 (qm (tm 19))])
 (.seq (rg [xo 20 (qm (tm 7)), xo 21 (qm (tm 9)), xo 22 (qm (tm 9)), xo 23 (.slice 1 (tm 20) none (some (tm 21)) (some (tm 22))), xo 6 (qm (tm 23))])
 .ret)))))
def r_impl_reduced : List Res := [.tmp 6]
theorem c_impl_reduced : compiled Tryd.prog Tryd.f54 = some (m_impl_reduced, r_impl_reduced) := by kernel_rfl
theorem hb_impl_reduced : hasBody Tryd.prog 54 = true := by kernel_rfl
def L_impl_reduced (a0 : Int) (a1 : List (List Int)) (a2 : Int) : Option (List (List Int)) :=
 Option.bind (L_impl_clones a1) fun y4 =>
og (0 <= ((y4.length : Nat) : Int) ∧ ((y4.length : Nat) : Int) <= ((y4.length : Nat) : Int) ∧ ((y4.length : Nat) : Int) <= 1073741824 ∧ (24 : Int) * ((y4.length : Nat) : Int) <= 140737488355328) <|
Option.bind (L_impl_reduction a0 y4 a2 (List.replicate y4.length ([] : List Int))) fun y8 =>
og (y8.1.length = y4.length) <|
og (y8.2.1.length = y4.length) <|
og ((0 : Int) <= ((y8.2.2 : Nat) : Int) ∧ ((y8.2.2 : Nat) : Int) <= ((y8.2.2 : Nat) : Int) ∧ ((y8.2.2 : Nat) : Int) <= ((y4.length : Nat) : Int)) <|
some (y8.1.take y8.2.2)
theorem ok_impl_reduced {a0 : Int} {a1 : List (List Int)} {a2 : Int} {r : List (List Int)} (h : L_impl_reduced a0 a1 a2 = some r) : CallM Tryd.prog Tab 54 [(ai a0), (.tree (.slice .int) a1), (ai a2)] [] (.own (oi 0 1) (.slice .int) 0 r.length) [((oi 0 1), .mat 42 (oi 1 1) .int r), ((oi 1 1), .pool 3 .int r)] := by
 refine callM_of_ (by kernel_rfl) Tryd.func54 c_impl_reduced (n := 24) (by kernel_rfl) (by simp) (tl := [(0, (ai a0)), (1, (.tree (.slice .int) a1)), (2, (ai a2))]) rfl (by kernel_rfl) trivial ⟨⟨3, (.tail _ (.head _))⟩, ⟨trivial, trivial⟩⟩ ?_
 unfold m_impl_reduced
 unfold L_impl_reduced at h
 refine seqR ?_
 refine awp_seqv_ ?_
 obtain ⟨y4, h4, h⟩ := ob_some h
 refine awp_region_ 5 ?_
 refine rz0 (.tree (.slice .int) a1) ?_
 refine rcallM (.own (oi 176 3) (.slice .int) 0 y4.length) [((oi 176 3), some (.mat 42 (oi 177 3) .int y4)), ((oi 177 3), some (.pool 3 .int y4))] [] [(.tree (.slice .int) a1)] (caps := []) trivial (ok_impl_clones h4) hb_impl_clones trivial (.cons (.ren (by kernel_rfl)) .nil) (reachL_mem (by kernel_rfl) (by kernel_rfl) trivial) ?_
 refine rsB 1 ?_
 refine rnil (tn_ ?_)
 refine wr_ ?_
 refine awp_seqv_ ?_
 obtain ⟨g6, h⟩ := og_some h
 refine awp_region_ 9 ?_
 refine rz0 (.own (oi 176 3) (.slice .int) 0 y4.length) ?_
 refine rz0 (ai ((y4.length : Nat) : Int)) ?_
 refine rmakeM (.own (oi 224 7) (.slice .int) 0 y4.length) (oi 224 7) 42 3 .int (List.replicate y4.length ([] : List Int)) trivial (s_makeM (j := y4.length) (k := .i64) (k' := .i64) (m := ((y4.length : Nat) : Int)) (c := ((y4.length : Nat) : Int)) 3 (by kernel_rfl) (by kernel_rfl) g6 (by kernel_rfl) rfl) (by kernel_rfl) (by rw [List.length_replicate]) (by kernel_rfl) ?_
 refine rsB 1 ?_
 refine rnil (tn_ ?_)
 refine wr_ ?_
 refine awp_seqv_ ?_
 obtain ⟨y8, h8, h⟩ := ob_some h
 obtain ⟨g9, h⟩ := og_some h
 obtain ⟨g10, h⟩ := og_some h
 refine awp_region_ 15 ?_
 refine rz0 (ai a0) ?_
 refine rz0 (.own (oi 176 3) (.slice .int) 0 y4.length) ?_
 refine rz0 (ai a2) ?_
 refine rz0 (.own (oi 224 7) (.slice .int) 0 y4.length) ?_
 refine rcallM (ai ((y8.2.2 : Nat) : Int)) [((oi 176 3), some (.mat 42 (oi 304 13) .int y8.1)), ((oi 304 13), some (.pool 3 .int y8.1)), ((oi 224 7), some (.mat 42 (oi 305 13) .int y8.2.1)), ((oi 305 13), some (.pool 3 .int y8.2.1)), ((oi 176 3), none), ((oi 177 3), some (.pool 3 .int [])), ((oi 224 7), none), ((oi 224 7), some (.pool 3 .int []))] [((oi 0 0), (oi 176 3)), ((oi 1 0), (oi 177 3)), ((oi 2 0), (oi 224 7)), ((oi 3 0), (oi 224 7))] [(ai a0), (.own (oi 176 3) (.slice .int) 0 y4.length), (ai a2), (.own (oi 224 7) (.slice .int) 0 y4.length)] (caps := []) trivial (ok_impl_reduction h8 rfl List.length_replicate.symm) hb_impl_reduction ⟨(by kernel_rfl), ⟨(by kernel_rfl), ⟨(by kernel_rfl), ⟨(by kernel_rfl), trivial⟩⟩⟩⟩ (.cons (.ren (by kernel_rfl)) (.cons (.ren (by kernel_rfl)) (.cons (.ren (by kernel_rfl)) (.cons (.ren (by kernel_rfl)) .nil)))) (reachL_mem (by kernel_rfl) (by kernel_rfl) ⟨(re_arg (by kernel_rfl)), ⟨re_rows (o := (oi 176 3)) (p := (oi 177 3)) (e1 := 42) (m := y4.length) (u := .int) (xss := y4) (re_arg (by kernel_rfl)) (by kernel_rfl), ⟨(re_arg (by kernel_rfl)), ⟨re_rows (o := (oi 224 7)) (p := (oi 224 7)) (e1 := 42) (m := (List.replicate y4.length ([] : List Int)).length) (u := .int) (xss := List.replicate y4.length ([] : List Int)) (re_arg (by kernel_rfl)) (by kernel_rfl), trivial⟩⟩⟩⟩) ?_
 refine rsB 1 ?_
 refine rnil (tn_ ?_)
 refine wr_ ?_
 refine awp_seqv_ ?_
 obtain ⟨g12, h⟩ := og_some h
 refine awp_region_ 20 ?_
 refine rz0 (.own (oi 176 3) (.slice .int) 0 y4.length) ?_
 refine rz0 (ai ((y8.2.2 : Nat) : Int)) ?_
 refine rz0 (ai ((y8.2.2 : Nat) : Int)) ?_
 refine rs2 (.own (oi 23 18) (.slice .int) 0 y8.2.2) (oi 176 3) (oi 23 18) (.vec 42 1 y8.2.2 ((hdL (oi 304 13) .int y8.1).take y8.2.2)) (s_slice3V (t := (.slice .int)) (len := y4.length) (kh := .i64) (km := .i64) (h := ((y8.2.2 : Nat) : Int)) (m := ((y8.2.2 : Nat) : Int)) (j := y8.2.2) (i := (oi 176 3)) (N := y8.1.length) (e := 42) (cs := hdL (oi 304 13) .int y8.1) (by kernel_rfl) (by kernel_rfl) (by kernel_rfl) (by kernel_rfl) rfl g12 rfl (by have z_ : y4.length = y8.1.length := g9.symm; omega)) ?_
 refine rsB 1 ?_
 refine rnil (tn_ ?_)
 refine ⟨_, weak_cut3_ (e1 := 42) (e := 3) (u := .int) (xss := y8.1) (k := y8.2.2) 9000 (oi 23 18) (oi 304 13) (by kernel_rfl) (by kernel_rfl) (by kernel_rfl) (by have z_ : y4.length = y8.1.length := g9.symm; omega) (by kernel_rfl) (by kernel_rfl), ?_⟩
 refine awp_ret_ ?_
 obtain rfl := zj h
 exact retM_ [(.own (oi 0 1) (.slice .int) 0 ((y8.1.take y8.2.2).length))] ((weak_tm_ 6 (.own (oi 23 18) (.slice .int) 0 y8.2.2) (.own (oi 23 18) (.slice .int) 0 ((y8.1.take y8.2.2).length)) (by kernel_rfl) (congrArg (fun z_ => ((.own (oi 23 18) (.slice .int) 0 z_) : AV)) ((cut_len (by have z_ : y4.length = y8.1.length := g9.symm; omega)) : y8.2.2 = (y8.1.take y8.2.2).length))).trans (weak_ren (tl := [(6, (.own (oi 0 1) (.slice .int) 0 (y8.1.take y8.2.2).length))]) (g := 2) [((oi 0 1), (oi 23 18)), ((oi 1 1), (oi 9000 20))]))
def m_impl_pad : AC :=
 (.seq (rg [⟨(some 2), none, (.makeA 102 (.pair .int (.pair .int (.pair .int (.pair .int (.pair .int (.pair .int (.pair .int (.pair .int (.pair .int (.pair .int (.pair .int (.pair .int (.pair .int (.pair .int (.pair .int (.pair .int (.pair .int (.pair .int (.pair .int (.pair .int (.pair .int (.pair .int (.pair .int (.pair .int (.pair .int (.pair .int (.pair .int (.pair .int (.pair .int (.pair .int (.pair .int (.pair .int (.pair .int (.pair .int (.pair .int (.pair .int (.pair .int (.pair .int (.pair .int (.pair .int (.pair .int (.pair .int (.pair .int T5))))))))))))))))))))))))))))))))))))))))))))⟩])
 (.seq (rg [xo 4 (.build [(.int .i64 0), (.int .i64 0), (.int .i64 0), (.int .i64 0), (.int .i64 0), (.int .i64 0), (.int .i64 0), (.int .i64 0), (.int .i64 0), (.int .i64 0), (.int .i64 0), (.int .i64 0), (.int .i64 0), (.int .i64 0), (.int .i64 0), (.int .i64 0), (.int .i64 0), (.int .i64 0), (.int .i64 0), (.int .i64 0), (.int .i64 0), (.int .i64 0), (.int .i64 0), (.int .i64 0), (.int .i64 0), (.int .i64 0), (.int .i64 0), (.int .i64 0), (.int .i64 0), (.int .i64 0), (.int .i64 0), (.int .i64 0), (.int .i64 0), (.int .i64 0), (.int .i64 0), (.int .i64 0), (.int .i64 0), (.int .i64 0), (.int .i64 0), (.int .i64 0), (.int .i64 0), (.int .i64 0), (.int .i64 0), (.int .i64 0), (.int .i64 0), (.int .i64 0), (.int .i64 0), (.int .i64 0)] []), ⟨(some 3), none, (.makeA 102 (.pair .int (.pair .int (.pair .int (.pair .int (.pair .int (.pair .int (.pair .int (.pair .int (.pair .int (.pair .int (.pair .int (.pair .int (.pair .int (.pair .int (.pair .int (.pair .int (.pair .int (.pair .int (.pair .int (.pair .int (.pair .int (.pair .int (.pair .int (.pair .int (.pair .int (.pair .int (.pair .int (.pair .int (.pair .int (.pair .int (.pair .int (.pair .int (.pair .int (.pair .int (.pair .int (.pair .int (.pair .int (.pair .int (.pair .int (.pair .int (.pair .int (.pair .int (.pair .int T5))))))))))))))))))))))))))))))))))))))))))))⟩, xn (.st false 48 (tm 3) (tm 4))])
 (.seq (rg [xo 5 (.slA 48 (tm 3)), xo 6 (qm (tm 0)), xo 7 (.copy (tm 5) (tm 6))])
 (.seq (rg [xo 8 (.i (.ld false 48 (tm 3))), xn (.st false 48 (tm 2) (tm 8))])
 .ret))))
def r_impl_pad : List Res := [.cell 2 false 48]
theorem c_impl_pad : compiled Tryd.prog Tryd.f102 = some (m_impl_pad, r_impl_pad) := by kernel_rfl
theorem hb_impl_pad : hasBody Tryd.prog 102 = true := by kernel_rfl
def L_impl_pad (a0 : List Int) : Option (List Int) :=
 some (a0.take 48 ++ (List.replicate 48 0).drop (a0.take 48).length)
def rv_impl_pad (r : List Int) : RV := ⟨false, [(true, ((tyA 47).av (tupA 47 r)).map .sc)]⟩
theorem ok_impl_pad {a0 : List Int} {r : List Int} (h : L_impl_pad a0 = some r) : CallOK Tryd.prog Tab 102 [(.tree .int a0)] (rv_impl_pad r) := by
 refine call_of_ (by kernel_rfl) Tryd.func102 c_impl_pad (n := 9) (by kernel_rfl) (by simp) (tl := [(0, (.tree .int a0))]) rfl ?_
 unfold m_impl_pad
 unfold L_impl_pad at h
 refine seqR ?_
 refine seqR ?_
 refine awp_seqv_ ?_
 refine awp_region_ 8 ?_
 refine rsl (.sla (oi 3 3) 0 48) (s_slA (N := 47) (i := (oi 3 3)) (j := 0) (e := 102) (xs := [tupA 47 (List.replicate 48 0)]) (by kernel_rfl) (by kernel_rfl) (by kernel_rfl)) ?_
 refine rz0 (.tree .int a0) ?_
 refine rs2 (ai (((a0.take 48).length : Nat) : Int)) (oi 3 3) (oi 3 3) (.arr 102 (tyA 47) [tupA 47 (a0.take 48 ++ (List.replicate 48 0).drop (a0.take 48).length)]) (s_copyA (N := 47) (i := (oi 3 3)) (e := 102) (l := List.replicate 48 0) (ys := a0) (zs := a0.take 48 ++ (List.replicate 48 0).drop (a0.take 48).length) (by kernel_rfl) sr_tree (by kernel_rfl) (by kernel_rfl) (by simp) rfl) ?_
 refine rnil (tn_ ?_)
 refine wr_ ?_
 refine awp_seqv_ ?_
 refine awp_region_ 10 ?_
 refine rsl (.agg ((tyA 47).av (tupA 47 (a0.take 48 ++ (List.replicate 48 0).drop (a0.take 48).length)))) (s_ldW (N := 47) (ty := 102) (i := (oi 3 3)) (e := 0) (l := a0.take 48 ++ (List.replicate 48 0).drop (a0.take 48).length) (xs := [tupA 47 (a0.take 48 ++ (List.replicate 48 0).drop (a0.take 48).length)]) (by kernel_rfl) (by kernel_rfl) rfl rfl) ?_
 refine rsn2 (oi 2 1) (oi 2 1) (.arr 102 (tyA 47) [tupA 47 (a0.take 48 ++ (List.replicate 48 0).drop (a0.take 48).length)]) (s_stW (N := 47) (ty := 102) (i := (oi 2 1)) (e := 0) (l := List.replicate 48 0) (l2 := a0.take 48 ++ (List.replicate 48 0).drop (a0.take 48).length) (xs := [tupA 47 (List.replicate 48 0)]) (by kernel_rfl) (by kernel_rfl) rfl rfl (by kernel_rfl) rfl) ?_
 refine rnil (tn_ ?_)
 refine wr_ ?_
 refine awp_ret_ ?_
 obtain rfl := zj h
 exact ret_ [(.agg ((tyA 47).av (tupA 47 (a0.take 48 ++ (List.replicate 48 0).drop (a0.take 48).length))))] (p_agg (l_tup 47 (a0.take 48 ++ (List.replicate 48 0).drop (a0.take 48).length)) p_nil)
def m_impl_isReduced_l1 : AC :=
 (.seq (rg [xo 26 (qb .lss (tm 25) (tm 24))])
 (.seq (.cond (tm 26)
  .skip
  (.exit 0))
 (.seq (.block 1 (.seq (rg [xo 27 (qm (tm 25)), xo 28 (qx 1 (tm 23) (tm 25)), xo 29 (ql (tm 28)), xo 7 (qm (tm 27)), xo 8 (qm (tm 29))])
 (.seq (.region [xo 30 (qm (tm 8)), xo 31 (qc 102 [(tm 30)] [[(some .int)]]), xo 32 (qm (tm 1)), xo 33 (qm (tm 7)), xo 34 (qx 1 (tm 32) (tm 33)), xo 35 (ql (tm 34)), xo 36 (qc 102 [(tm 35)] [[(some .int)]]), xo 37 (.i (.cmp true 51 (tm 31) (tm 36)))] true [(1, 5)])
 (.cond (tm 37)
  (.seq (rg [xo 6 (qm (cb false))])
  .ret)
  .skip))))
 (rg [xo 38 (qb .add (tm 25) (ci 1)), xo 25 (qm (tm 38))]))))
def m_impl_isReduced : AC :=
 (.seq (rg [xo 6 (qm (cb false))])
 (.seq (.seq (rg [xo 9 (qm (tm 1)), xo 10 (.i (.len (tm 9))), xo 11 (qm (tm 2)), xo 12 (qb .gtr (tm 10) (tm 11)), xo 13 (qm (tm 12)), ⟨(some 14), (some (13, false)), (qm (tm 0))⟩, ⟨(some 15), (some (13, false)), (qm (tm 1))⟩, ⟨(some 16), (some (13, false)), (qm (tm 2))⟩, ⟨(some 17), (some (13, false)), (qc 67 [(tm 14), (tm 15), (tm 16)] [[], [(some (.slice .int))], []])⟩, ⟨(some 18), (some (13, false)), (.i (.not (tm 17)))⟩, xo 19 (.i (.pick (tm 13) (cb true) (tm 18)))])
 (.cond (tm 19)
  (.seq (rg [xo 6 (qm (cb false))])
  .ret)
  .skip))
 (.seq (.seq (rg [xo 20 (qm (tm 0)), xo 21 (qm (tm 1)), xo 22 (qm (tm 2)), xo 23 (qc 54 [(tm 20), (tm 21), (tm 22)] [[], [(some (.slice .int))], []]), xo 24 (.i (.len (tm 23))), xo 25 (qm (ci 0))])
 (.block 0 (.loop m_impl_isReduced_l1)))
 (.seq (rg [xo 39 (qm (tm 0)), xo 40 (qm (tm 1)), xo 41 (qm (tm 2)), xo 42 (qc 54 [(tm 39), (tm 40), (tm 41)] [[], [(some (.slice .int))], []]), xo 43 (.i (.len (tm 42))), xo 44 (qm (tm 1)), xo 45 (.i (.len (tm 44))), xo 46 (qb .eql (tm 43) (tm 45)), xo 6 (qm (tm 46))])
 .ret))))
def r_impl_isReduced : List Res := [.tmp 6]
theorem c_impl_isReduced : compiled Tryd.prog Tryd.f77 = some (m_impl_isReduced, r_impl_isReduced) := by kernel_rfl
theorem hb_impl_isReduced : hasBody Tryd.prog 77 = true := by kernel_rfl
def L_impl_isReduced_l1 (y10 : List (List Int)) (a1 : List (List Int)) (l11_m25 : Nat) : Option (Ctl Nat (Ctl Unit Bool)) :=
 cond (decide (((l11_m25 : Nat) : Int) < ((y10.length : Nat) : Int)))
 (Option.bind (y10[l11_m25]?) fun x17 =>
 Option.bind (L_impl_pad x17) fun y19 =>
 Option.bind (a1[l11_m25]?) fun x20 =>
 Option.bind (L_impl_pad x20) fun y21 =>
 og (y19.length = 47 + 1 ∧ y21.length = 47 + 1) <|
 cond (!(y19 == y21))
  (some (Ctl.out (Ctl.out false)))
  (og (l11_m25 + 1 < 4611686018427387904) <|
  some (Ctl.next (l11_m25 + 1))))
 (some (Ctl.out (Ctl.next ())))
def L_impl_isReduced (a0 : Int) (a1 : List (List Int)) (a2 : Int) : Option Bool :=
 Option.bind (cond (decide (a2 < ((a1.length : Nat) : Int)))
  (some true)
  (Option.bind (L_impl_areVectors a0 a1 a2) fun y5 =>
  some (!y5))) fun l3_m19 =>
cond l3_m19
 (some false)
 (seqC (Option.bind (L_impl_reduced a0 a1 a2) fun y10 =>
  loopM (fun s_ : Nat => L_impl_isReduced_l1 y10 a1 s_) 4611686018427387904 0) fun _ =>
 Option.bind (L_impl_reduced a0 a1 a2) fun y27 =>
 some (((y27.length : Nat) : Int) == ((a1.length : Nat) : Int)))
def rv_impl_isReduced (r : Bool) : RV := ⟨false, [(false, [.sc (.bool r)])]⟩
theorem ok_impl_isReduced {a0 : Int} {a1 : List (List Int)} {a2 : Int} {r : Bool} (h : L_impl_isReduced a0 a1 a2 = some r) : CallOK Tryd.prog Tab 77 [(ai a0), (.tree (.slice .int) a1), (ai a2)] (rv_impl_isReduced r) := by
 refine call_of_ (by kernel_rfl) Tryd.func77 c_impl_isReduced (n := 47) (by kernel_rfl) (by simp) (tl := [(0, (ai a0)), (1, (.tree (.slice .int) a1)), (2, (ai a2))]) rfl ?_
 unfold m_impl_isReduced
 unfold L_impl_isReduced at h
 refine seqR ?_
 refine awp_seqv_ ?_
 refine awp_seqB h (fun (l3_m19 : Bool) S_ => S_ = ⟨mkTm [(0, (ai a0)), (1, (.tree (.slice .int) a1)), (2, (ai a2)), (19, (.bool l3_m19))], mkOb (someL []), 2⟩) ?_ ?_
 ·intro v_ h
  rcases cond_some h with ⟨q4, h⟩ | ⟨q4, h⟩
  ·have q4_ := of_decide_eq_true q4
   refine awp_region_ 13 ?_
   refine rz0 (.tree (.slice .int) a1) ?_
   refine rz0 (ai ((a1.length : Nat) : Int)) ?_
   refine rz0 (ai a2) ?_
   refine rz0 (.bool (decide (a2 < ((a1.length : Nat) : Int)))) ?_
   refine rz0 (.bool (decide (a2 < ((a1.length : Nat) : Int)))) ?_
   refine zs q4 ?_
   refine zs q4 ?_
   refine zs q4 ?_
   refine zs q4 ?_
   refine zs q4 ?_
   refine rs0 (.bool true) (zT q4) ?_
   refine rnil (tn_ ?_)
   obtain rfl := zj h
   exact ⟨_, (weak_ren []), rfl⟩
  have q4_ := of_decide_eq_false q4
  obtain ⟨y5, h5, h⟩ := ob_some h
  refine awp_region_ 13 ?_
  refine rz0 (.tree (.slice .int) a1) ?_
  refine rz0 (ai ((a1.length : Nat) : Int)) ?_
  refine rz0 (ai a2) ?_
  refine rz0 (.bool (decide (a2 < ((a1.length : Nat) : Int)))) ?_
  refine rz0 (.bool (decide (a2 < ((a1.length : Nat) : Int)))) ?_
  refine rs0 (ai a0) (zg q4) ?_
  refine rs0 (.tree (.slice .int) a1) (zg q4) ?_
  refine rs0 (ai a2) (zg q4) ?_
  refine rcall (.bool y5) [] [(ai a0), (.tree (.slice .int) a1), (ai a2)] _ (caps := []) (args0 := [(ai a0), (.tree (.slice .int) a1), (ai a2)]) (gdOK_b (by kernel_rfl) q4) (by kernel_rfl) (ok_impl_areVectors h5) hb_impl_areVectors ?_
  refine rs0 (.bool (!y5)) (zg q4) ?_
  refine rs0 (.bool (!y5)) (zF q4) ?_
  refine rnil (tn_ ?_)
  obtain rfl := zj h
  exact ⟨_, (weak_ren []), rfl⟩
 rintro l3_m19 _ rfl h
 (try dsimp only at h)
 rcases cond_some h with ⟨q6, h⟩ | ⟨q6, h⟩
 ·refine awp_condT_ q6 ?_
  refine seqR ?_
  refine awp_ret_ (tr_ ?_)
  obtain rfl := zj h
  exact ret_ [(.bool false)] (p_one rfl zl p_nil)
 refine awp_condF_ q6 ?_
 refine awp_skip_ (tn_ ?_)
 refine wr_ ?_
 refine awp_seqC h (fun (_ : Unit) S_ => S_ = ⟨mkTm [(0, (ai a0)), (1, (.tree (.slice .int) a1)), (2, (ai a2))], mkOb (someL []), 2⟩) ?_ ?_
 ·intro v_ h hk8
  refine awp_seqv_ ?_
  obtain ⟨y10, h10, h⟩ := ob_some h
  refine awp_region_ 8 ?_
  refine rz0 (ai a0) ?_
  refine rz0 (.tree (.slice .int) a1) ?_
  refine rz0 (ai a2) ?_
  refine rcallM (.own (oi 368 5) (.slice .int) 0 y10.length) [((oi 368 5), some (.mat 42 (oi 369 5) .int y10)), ((oi 369 5), some (.pool 3 .int y10))] [] [(ai a0), (.tree (.slice .int) a1), (ai a2)] (caps := []) trivial (ok_impl_reduced h10) hb_impl_reduced trivial (.cons (.ren (by kernel_rfl)) (.cons (.ren (by kernel_rfl)) (.cons (.ren (by kernel_rfl)) .nil))) (reachL_mem (by kernel_rfl) (by kernel_rfl) trivial) ?_
  refine rsB 2 ?_
  refine rnil (tn_ ?_)
  refine wr_ ?_
  refine awp_block_ ?_
  refine awp_loopL h (fun (l11_m25 : Nat) S_ => S_ = ⟨mkTm [(0, (ai a0)), (1, (.tree (.slice .int) a1)), (2, (ai a2)), (23, (.own (oi 0 1) (.slice .int) 0 y10.length)), (24, (ai ((y10.length : Nat) : Int))), (25, (ai ((l11_m25 : Nat) : Int)))], mkOb (someL [((oi 0 1), .mat 42 (oi 1 1) .int y10), ((oi 1 1), .pool 3 .int y10)]), 2⟩) ⟨_, (weak_ren [((oi 0 1), (oi 368 5)), ((oi 1 1), (oi 369 5))]), rfl⟩ ?_
  rintro n_ l11_m25 _ c_ rfl h hn11
  (try dsimp only at h)
  unfold L_impl_isReduced_l1 at h
  unfold m_impl_isReduced_l1
  refine seqR ?_
  refine awp_seqv_ ?_
  rcases cond_some h with ⟨q14, h⟩ | ⟨q14, h⟩
  ·have q14_ := of_decide_eq_true q14
   refine awp_condT_ q14 ?_
   refine awp_skip_ (tn_ ?_)
   refine wr_ ?_
   refine awp_seqv_ ?_
   refine awp_block_ ?_
   refine awp_seqv_ ?_
   obtain ⟨x17, e17, h⟩ := ob_some h
   refine awp_region_ 8 ?_
   refine rz0 (ai ((l11_m25 : Nat) : Int)) ?_
   refine rs0 (.elt (oi 0 1) l11_m25 0) (zo (t := (.slice .int)) (o := (oi 0 1)) (len := y10.length) (k := .i64) (m := ((l11_m25 : Nat) : Int)) (nat_nn _) (getN_lt e17)) ?_
   refine rsl (.own (kid (oi 1 1) l11_m25) .int 0 x17.length) (s_ldM (o := (oi 0 1)) (p := (oi 1 1)) (e1 := 42) (u := .int) (xss := y10) (row := x17) (j := l11_m25) (by kernel_rfl) (by kernel_rfl) e17) ?_
   refine rsB 2 ?_
   refine rnil (tn_ ?_)
   refine wr_ ?_
   refine awp_seqv_ ?_
   obtain ⟨y19, h19, h⟩ := ob_some h
   obtain ⟨x20, e20, h⟩ := ob_some h
   obtain ⟨y21, h21, h⟩ := ob_some h
   obtain ⟨g22, h⟩ := og_some h
   refine awp_regionD_ 16 ?_
   refine dz0 (.own (kid (oi 1 1) l11_m25) .int 0 x17.length) ?_
   refine dcall (.agg ((tyA 47).av (tupA 47 y19))) [] [(.own (kid (oi 1 1) l11_m25) .int 0 x17.length)] _ (caps := []) (args0 := [(.tree .int x17)]) trivial (gm_cons (gd_own (e := 3) (u := .int) (xs := x17) ((only_in (rd_own (t := .int) (off := 0) (len := x17.length) 0 rfl (by kernel_rfl))).trans (mkOb_kid (by kernel_rfl) e17)) rfl) gm_nil) (ok_impl_pad h19) hb_impl_pad ?_
   refine dz0 (.tree (.slice .int) a1) ?_
   refine dz0 (ai ((l11_m25 : Nat) : Int)) ?_
   refine ds0 (.telt (.slice .int) x20 0) (zi (t := (.slice .int)) (xs := a1) (k := .i64) (m := ((l11_m25 : Nat) : Int)) (nat_nn _) e20) ?_
   refine dz0 (.tree .int x20) ?_
   refine dcall (.agg ((tyA 47).av (tupA 47 y21))) [] [(.tree .int x20)] _ (caps := []) (args0 := [(.tree .int x20)]) trivial (by kernel_rfl) (ok_impl_pad h21) hb_impl_pad ?_
   refine ds0 (.bool (!(y19 == y21))) (s_cmpA (N := 47) (l := y19) (l' := y21) (by kernel_rfl) (by kernel_rfl) g22) ?_
   refine dnil (badB_spec (by kernel_rfl)) (tn_ ?_)
   refine wr_ ?_
   rcases cond_some h with ⟨q23, h⟩ | ⟨q23, h⟩
   ·refine awp_condT_ q23 ?_
    refine seqR ?_
    refine awp_ret_ (br_ (tr_ (tr_ (br_ (tr_ ?_)))))
    obtain rfl := zj h
    have h := hn11
    (try dsimp only at h)
    obtain rfl := zj h
    have h := hk8
    (try dsimp only at h)
    obtain rfl := zj h
    exact ret_ [(.bool false)] (p_one rfl zl p_nil)
   refine awp_condF_ q23 ?_
   refine awp_skip_ (bn_ (tn_ ?_))
   refine wr_ ?_
   obtain ⟨g25, h⟩ := og_some h
   refine awp_region_ 18 ?_
   refine rs0 (ai ((l11_m25 + 1 : Nat) : Int)) (za g25) ?_
   refine rsB 1 ?_
   refine rnil (tn_ ?_)
   obtain rfl := zj h
   exact ⟨l11_m25 + 1, _, (weak_ren []), rfl, hn11⟩
  have q14_ := of_decide_eq_false q14
  refine awp_condF_ q14 ?_
  refine awp_exit_ (te_ (te_ (be_ (tn_ ?_))))
  obtain rfl := zj h
  have h := hn11
  (try dsimp only at h)
  obtain rfl := zj h
  exact ⟨(), _, rfl, (weak_ren []), rfl⟩
 rintro _ _ rfl h
 (try dsimp only at h)
 refine awp_seqv_ ?_
 obtain ⟨y27, h27, h⟩ := ob_some h
 refine awp_region_ 11 ?_
 refine rz0 (ai a0) ?_
 refine rz0 (.tree (.slice .int) a1) ?_
 refine rz0 (ai a2) ?_
 refine rcallM (.own (oi 672 5) (.slice .int) 0 y27.length) [((oi 672 5), some (.mat 42 (oi 673 5) .int y27)), ((oi 673 5), some (.pool 3 .int y27))] [] [(ai a0), (.tree (.slice .int) a1), (ai a2)] (caps := []) trivial (ok_impl_reduced h27) hb_impl_reduced trivial (.cons (.ren (by kernel_rfl)) (.cons (.ren (by kernel_rfl)) (.cons (.ren (by kernel_rfl)) .nil))) (reachL_mem (by kernel_rfl) (by kernel_rfl) trivial) ?_
 refine rsB 5 ?_
 refine rnil (tn_ ?_)
 refine wr_ ?_
 refine awp_ret_ ?_
 obtain rfl := zj h
 exact ret_ [(.bool (((y27.length : Nat) : Int) == ((a1.length : Nat) : Int)))] (p_one rfl zl p_nil)
def m_impl_isRelation : AC :=
 (.seq (rg [xo 3 (.i (.box 38 (tm 1))), xo 4 (qm (cb false))])
 (.seq (rg [xo 5 (qm (tm 0)), xo 6 (qc 65 [(tm 5)] [[]]), xo 7 (qm (tm 6)), ⟨(some 8), (some (7, true)), (qf 0 (tm 3))⟩, ⟨(some 9), (some (7, true)), (ql (tm 8))⟩, ⟨(some 10), (some (7, true)), (qf 1 (tm 3))⟩, ⟨(some 11), (some (7, true)), (ql (tm 10))⟩, ⟨(some 12), (some (7, true)), (qc 76 [(tm 9), (tm 11)] [[], []])⟩, xo 13 (.i (.pick (tm 7) (tm 12) (cb false))), xo 14 (qm (tm 13)), ⟨(some 15), (some (14, true)), (qm (tm 0))⟩, ⟨(some 16), (some (14, true)), (qf 2 (tm 3))⟩, ⟨(some 17), (some (14, true)), (ql (tm 16))⟩, ⟨(some 18), (some (14, true)), (qf 0 (tm 3))⟩, ⟨(some 19), (some (14, true)), (ql (tm 18))⟩, ⟨(some 20), (some (14, true)), (qf 1 (tm 3))⟩, ⟨(some 21), (some (14, true)), (ql (tm 20))⟩, ⟨(some 22), (some (14, true)), (qb .add (tm 19) (tm 21))⟩, ⟨(some 23), (some (14, true)), (qc 77 [(tm 15), (tm 17), (tm 22)] [[], [(some (.slice .int))], []])⟩, xo 24 (.i (.pick (tm 14) (tm 23) (cb false))), xo 4 (qm (tm 24))])
 .ret))
def r_impl_isRelation : List Res := [.tmp 4]
theorem c_impl_isRelation : compiled Tryd.prog Tryd.f42 = some (m_impl_isRelation, r_impl_isRelation) := by kernel_rfl
def L_impl_isRelation (a0 : Int) (a1_0 : Int) (a1_1 : Int) (a1_2 : List (List Int)) : Option Bool :=
 Option.bind (Option.bind (L_impl_isField a0) fun y3 =>
 cond y3
  (Option.bind (L_impl_fits a1_0 a1_1) fun y5 =>
  cond y5
   (Option.bind (L_impl_isReduced a0 a1_2 (IntKind.i64.wrap (a1_0 + a1_1))) fun y7 =>
   some y7)
   (some false))
  (some false)) fun l2_m4 =>
some l2_m4
def rv_impl_isRelation (r : Bool) : RV := ⟨false, [(false, [.sc (.bool r)])]⟩
theorem ok_impl_isRelation {a0 : Int} {a1_0 : Int} {a1_1 : Int} {a1_2 : List (List Int)} {r : Bool} (h : L_impl_isRelation a0 a1_0 a1_1 a1_2 = some r) : CallOK Tryd.prog Tab 42 [(ai a0), (.agg [(ai a1_0), (ai a1_1), (.tree (.slice .int) a1_2)])] (rv_impl_isRelation r) := by
 refine call_of_ (by kernel_rfl) Tryd.func42 c_impl_isRelation (n := 25) (by kernel_rfl) (by simp) (tl := [(0, (ai a0)), (1, (.agg [(ai a1_0), (ai a1_1), (.tree (.slice .int) a1_2)]))]) rfl ?_
 unfold m_impl_isRelation
 unfold L_impl_isRelation at h
 refine seqR ?_
 refine awp_seqB h (fun (l2_m4 : Bool) S_ => S_ = ⟨mkTm [(4, (.bool l2_m4))], mkOb (someL []), 2⟩) ?_ ?_
 ·intro v_ h
  obtain ⟨y3, h3, h⟩ := ob_some h
  rcases cond_some h with ⟨q4, h⟩ | ⟨q4, h⟩
  ·obtain ⟨y5, h5, h⟩ := ob_some h
   rcases cond_some h with ⟨q6, h⟩ | ⟨q6, h⟩
   ·obtain ⟨y7, h7, h⟩ := ob_some h
    refine awp_region_ 24 ?_
    refine rz0 (ai a0) ?_
    refine zc (.bool y3) [] [(ai a0)] (ok_impl_isField h3) ?_
    refine rz0 (.bool y3) ?_
    refine rs0 (.box (oi 3 1) 0) (zg q4) ?_
    refine rsl (ai a1_0) (zg q4) ?_
    refine rs0 (.box (oi 3 1) 1) (zg q4) ?_
    refine rsl (ai a1_1) (zg q4) ?_
    refine rcall (.bool y5) [] [(ai a1_0), (ai a1_1)] _ (caps := []) (args0 := [(ai a1_0), (ai a1_1)]) (gdOK_b (by kernel_rfl) q4) (by kernel_rfl) (ok_impl_fits h5) hb_impl_fits ?_
    refine rs0 (.bool y5) (zT q4) ?_
    refine rz0 (.bool y5) ?_
    refine rs0 (ai a0) (zg q6) ?_
    refine rs0 (.box (oi 3 1) 2) (zg q6) ?_
    refine rsl (.tree (.slice .int) a1_2) (zg q6) ?_
    refine rs0 (.box (oi 3 1) 0) (zg q6) ?_
    refine rsl (ai a1_0) (zg q6) ?_
    refine rs0 (.box (oi 3 1) 1) (zg q6) ?_
    refine rsl (ai a1_1) (zg q6) ?_
    refine rs0 (ai (IntKind.i64.wrap (a1_0 + a1_1))) (zg q6) ?_
    refine rcall (.bool y7) [] [(ai a0), (.tree (.slice .int) a1_2), (ai (IntKind.i64.wrap (a1_0 + a1_1)))] _ (caps := []) (args0 := [(ai a0), (.tree (.slice .int) a1_2), (ai (IntKind.i64.wrap (a1_0 + a1_1)))]) (gdOK_b (by kernel_rfl) q6) (by kernel_rfl) (ok_impl_isReduced h7) hb_impl_isReduced ?_
    refine rs0 (.bool y7) (zT q6) ?_
    refine rsB 1 ?_
    refine rnil (tn_ ?_)
    obtain rfl := zj h
    exact ⟨_, (weak_ren []), rfl⟩
   refine awp_region_ 24 ?_
   refine rz0 (ai a0) ?_
   refine zc (.bool y3) [] [(ai a0)] (ok_impl_isField h3) ?_
   refine rz0 (.bool y3) ?_
   refine rs0 (.box (oi 3 1) 0) (zg q4) ?_
   refine rsl (ai a1_0) (zg q4) ?_
   refine rs0 (.box (oi 3 1) 1) (zg q4) ?_
   refine rsl (ai a1_1) (zg q4) ?_
   refine rcall (.bool y5) [] [(ai a1_0), (ai a1_1)] _ (caps := []) (args0 := [(ai a1_0), (ai a1_1)]) (gdOK_b (by kernel_rfl) q4) (by kernel_rfl) (ok_impl_fits h5) hb_impl_fits ?_
   refine rs0 (.bool y5) (zT q4) ?_
   refine rz0 (.bool y5) ?_
   refine zs q6 ?_
   refine zs q6 ?_
   refine zs q6 ?_
   refine zs q6 ?_
   refine zs q6 ?_
   refine zs q6 ?_
   refine zs q6 ?_
   refine zs q6 ?_
   refine zs q6 ?_
   refine rs0 (.bool false) (zF q6) ?_
   refine rsB 1 ?_
   refine rnil (tn_ ?_)
   obtain rfl := zj h
   exact ⟨_, (weak_ren []), rfl⟩
  refine awp_region_ 24 ?_
  refine rz0 (ai a0) ?_
  refine zc (.bool y3) [] [(ai a0)] (ok_impl_isField h3) ?_
  refine rz0 (.bool y3) ?_
  refine zs q4 ?_
  refine zs q4 ?_
  refine zs q4 ?_
  refine zs q4 ?_
  refine zs q4 ?_
  refine rs0 (.bool false) (zF q4) ?_
  refine rsB 12 ?_
  refine rnil (tn_ ?_)
  obtain rfl := zj h
  exact ⟨_, (weak_ren []), rfl⟩
 rintro l2_m4 _ rfl h
 (try dsimp only at h)
 refine awp_ret_ ?_
 obtain rfl := zj h
 exact ret_ [(.bool l2_m4)] (p_one rfl zl p_nil)
def m_impl_Relation_size : AC :=
 (.seq (rg [xo 1 (.i (.box 38 (tm 0))), xo 2 (qm (ci 0))])
 (.seq (rg [xo 3 (qf 0 (tm 1)), xo 4 (ql (tm 3)), xo 5 (qf 1 (tm 1)), xo 6 (ql (tm 5)), xo 7 (qb .add (tm 4) (tm 6)), xo 2 (qm (tm 7))])
 .ret))
def r_impl_Relation_size : List Res := [.tmp 2]
theorem c_impl_Relation_size : compiled Tryd.prog Tryd.f43 = some (m_impl_Relation_size, r_impl_Relation_size) := by kernel_rfl
theorem hb_impl_Relation_size : hasBody Tryd.prog 43 = true := by kernel_rfl
def L_impl_Relation_size (a0_0 : Int) (a0_1 : Int) (a0_2 : List (List Int)) : Option Int :=
 some (IntKind.i64.wrap (a0_0 + a0_1))
def rv_impl_Relation_size (r : Int) : RV := ⟨false, [(false, [.sc (.int .i64 r)])]⟩
theorem ok_impl_Relation_size {a0_0 : Int} {a0_1 : Int} {a0_2 : List (List Int)} {r : Int} (h : L_impl_Relation_size a0_0 a0_1 a0_2 = some r) : CallOK Tryd.prog Tab 43 [(.agg [(ai a0_0), (ai a0_1), (.tree (.slice .int) a0_2)])] (rv_impl_Relation_size r) := by
 refine call_of_ (by kernel_rfl) Tryd.func43 c_impl_Relation_size (n := 8) (by kernel_rfl) (by simp) (tl := [(0, (.agg [(ai a0_0), (ai a0_1), (.tree (.slice .int) a0_2)]))]) rfl ?_
 unfold m_impl_Relation_size
 unfold L_impl_Relation_size at h
 refine seqR ?_
 refine seqR ?_
 refine awp_ret_ ?_
 obtain rfl := zj h
 exact ret_ [(ai (IntKind.i64.wrap (a0_0 + a0_1)))] (p_one rfl zl p_nil)
end Go.Proofs.YtedphkkbjpcjeaaDoor
namespace Go.Proofs.YtedphkkbjpcjeaaDoor
open Go.RowKit Go.Deep
set_option maxRecDepth 4000
def m_spec_riRest_l1 : AC :=
 (.seq (.seq (rg [xo 7 (qm (tm 6)), xo 8 (qm (tm 1)), xo 9 (qb .lss (tm 7) (tm 8))])
 (.cond (tm 9)
  .skip
  (.exit 0)))
 (.seq (.block 1 (.seq (rg [xo 12 (qm (tm 0)), xo 13 (qm (tm 6)), xo 14 (qc 106 [(tm 12), (tm 13)] [[(some .int)], []]), xo 15 (.i (.not (tm 14)))])
 (.cond (tm 15)
  (rg [xo 16 (qm (tm 5)), xo 17 (qm (tm 6)), xo 18 (.mkS 3 .int [(tm 17)]), xo 19 (.append 3 .int 8 (tm 16) (tm 18)), xo 5 (qm (tm 19))])
  .skip)))
 (rg [xo 10 (qm (tm 6)), xo 11 (qb .add (tm 10) (ci 1)), xo 6 (qm (tm 11))])))
def m_spec_riRest : AC :=
 (.seq (rg [xo 4 (qm (.cst .nils))])
 (.seq (rg [xo 5 (qm (.cst .nils))])
 (.seq (.seq (rg [xo 6 (qm (ci 0))])
 (.block 0 (.loop m_spec_riRest_l1)))
 (.seq (rg [xo 20 (qm (tm 5)), xo 4 (qm (tm 20))])
 .ret))))
def r_spec_riRest : List Res := [.tmp 4]
theorem c_spec_riRest : compiled Tryd.prog Tryd.f90 = some (m_spec_riRest, r_spec_riRest) := by kernel_rfl
def L_spec_riRest_l1 (a1 : Int) (a0 : List Int) (l5_m6 : Nat) (l5_m5 : List Int) : Option (Ctl (Nat × List Int) (List Int)) :=
 cond (decide (((l5_m6 : Nat) : Int) < a1))
 (Option.bind (Option.bind (L_spec_l1Has a0 ((l5_m6 : Nat) : Int)) fun y11 =>
  cond (!y11)
   (og (l5_m5.length + 1 <= 1073741824 ∧ (l5_m5.length + 1) * 8 <= 140737488355328) <|
   some (l5_m5 ++ ([((l5_m6 : Nat) : Int)])))
   (some l5_m5)) fun l9_m5 =>
 og (l5_m6 + 1 < 4611686018427387904) <|
 some (Ctl.next (l5_m6 + 1, l9_m5)))
 (some (Ctl.out l5_m5))
def L_spec_riRest (a0 : List Int) (a1 : Int) : Option (List Int) :=
 Option.bind (loopM (fun s_ : Nat × List Int => L_spec_riRest_l1 a1 a0 s_.1 s_.2) 4611686018427387904 (0, [])) fun l3_m5 =>
some l3_m5
def rv_spec_riRest (r : List Int) : RV := ⟨false, [(false, [.new 3 .int r])]⟩
theorem ok_spec_riRest {a0 : List Int} {a1 : Int} {r : List Int} (h : L_spec_riRest a0 a1 = some r) : CallOK Tryd.prog Tab 90 [(.tree .int a0), (ai a1)] (rv_spec_riRest r) := by
 refine call_of_ (by kernel_rfl) Tryd.func90 c_spec_riRest (n := 21) (by kernel_rfl) (by simp) (tl := [(0, (.tree .int a0)), (1, (ai a1))]) rfl ?_
 unfold m_spec_riRest
 unfold L_spec_riRest at h
 refine seqR ?_
 refine seqR ?_
 refine awp_seqB h (fun (l3_m5 : List Int) S_ => S_ = ⟨mkTm [(5, (.own (oi 0 1) .int 0 l3_m5.length))], mkOb (someL [((oi 0 1), .arr 3 .int l3_m5)]), 2⟩) ?_ ?_
 ·intro v_ h
  refine seqR ?_
  refine awp_block_ ?_
  refine awp_loopL h (fun t_ S_ => ∃ (l5_m6 : Nat), ∃ (l5_m5 : List Int), t_ = (l5_m6, l5_m5) ∧ S_ = ⟨mkTm [(0, (.tree .int a0)), (1, (ai a1)), (5, (.own (oi 0 1) .int 0 l5_m5.length)), (6, (ai ((l5_m6 : Nat) : Int)))], mkOb (someL [((oi 0 1), .arr 3 .int l5_m5)]), 2⟩) ⟨_, ((weak_nil_ 5 3 .int rfl (by kernel_rfl)).trans (weak_ren [((oi 0 1), (oi 5 4))])), ⟨0, [], rfl, rfl⟩⟩ ?_
  rintro n_ _ _ c_ ⟨l5_m6, l5_m5, rfl, rfl⟩ h hn5
  (try dsimp only at h)
  unfold L_spec_riRest_l1 at h
  unfold m_spec_riRest_l1
  refine awp_seqv_ ?_
  refine seqR ?_
  rcases cond_some h with ⟨q8, h⟩ | ⟨q8, h⟩
  ·have q8_ := of_decide_eq_true q8
   refine awp_condT_ q8 ?_
   refine awp_skip_ (tn_ ?_)
   refine wr_ ?_
   refine awp_seqB h (fun (l9_m5 : List Int) S_ => S_ = ⟨mkTm [(0, (.tree .int a0)), (1, (ai a1)), (5, (.own (oi 0 1) .int 0 l9_m5.length)), (6, (ai ((l5_m6 : Nat) : Int)))], mkOb (someL [((oi 0 1), .arr 3 .int l9_m5)]), 2⟩) ?_ ?_
   ·intro v_ h
    refine awp_block_ ?_
    refine awp_seqv_ ?_
    obtain ⟨y11, h11, h⟩ := ob_some h
    refine awp_region_ 9 ?_
    refine rz0 (.tree .int a0) ?_
    refine rz0 (ai ((l5_m6 : Nat) : Int)) ?_
    refine zc (.bool y11) [] [(.tree .int a0), (ai ((l5_m6 : Nat) : Int))] (ok_spec_l1Has h11) ?_
    refine rsB 1 ?_
    refine rnil (tn_ ?_)
    refine wr_ ?_
    rcases cond_some h with ⟨q12, h⟩ | ⟨q12, h⟩
    ·refine awp_condT_ q12 ?_
     obtain ⟨g13, h⟩ := og_some h
     refine awp_region_ 14 ?_
     refine rz0 (.own (oi 0 1) .int 0 l5_m5.length) ?_
     refine rz0 (ai ((l5_m6 : Nat) : Int)) ?_
     refine rs1 (.own (oi 18 11) .int 0 1) (oi 18 11) (.arr 3 .int ([((l5_m6 : Nat) : Int)])) (by kernel_rfl) ?_
     refine rs2 (.own (oi 0 12) .int 0 ((l5_m5 ++ ([((l5_m6 : Nat) : Int)])).length)) (oi 0 1) (oi 0 12) (.arr 3 .int (l5_m5 ++ ([((l5_m6 : Nat) : Int)]))) (s_appO (t := .int) (t' := .int) (xs := l5_m5) (ys := [((l5_m6 : Nat) : Int)]) (zs := l5_m5 ++ ([((l5_m6 : Nat) : Int)])) (j := (oi 0 1)) (len := l5_m5.length) (c := (.own (oi 18 11) .int 0 1)) (by kernel_rfl) (by kernel_rfl) rfl (by kernel_rfl) (sr_own (e := 3) (by kernel_rfl) rfl) rfl g13) ?_
     refine rsB 1 ?_
     refine rnil (bn_ (tn_ ?_))
     obtain rfl := zj h
     exact ⟨_, (weak_ren [((oi 0 1), (oi 0 12))]), rfl⟩
    refine awp_condF_ q12 ?_
    refine awp_skip_ (bn_ (tn_ ?_))
    obtain rfl := zj h
    exact ⟨_, (weak_ren []), rfl⟩
   rintro l9_m5 _ rfl h
   (try dsimp only at h)
   obtain ⟨g14, h⟩ := og_some h
   refine awp_region_ 5 ?_
   refine rz0 (ai ((l5_m6 : Nat) : Int)) ?_
   refine rs0 (ai ((l5_m6 + 1 : Nat) : Int)) (za g14) ?_
   refine rsB 1 ?_
   refine rnil (tn_ ?_)
   obtain rfl := zj h
   exact ⟨(l5_m6 + 1, l9_m5), _, (weak_ren []), ⟨l5_m6 + 1, l9_m5, rfl, rfl⟩, hn5⟩
  have q8_ := of_decide_eq_false q8
  refine awp_condF_ q8 ?_
  refine awp_exit_ (te_ (te_ (be_ (tn_ ?_))))
  obtain rfl := zj h
  have h := hn5
  (try dsimp only at h)
  obtain rfl := zj h
  exact ⟨_, (weak_ren []), rfl⟩
 rintro l3_m5 _ rfl h
 (try dsimp only at h)
 refine seqR ?_
 refine awp_ret_ ?_
 obtain rfl := zj h
 exact ret_ [(.own (oi 0 1) .int 0 l3_m5.length)] (p_one rfl (l_own (by kernel_rfl) rfl) p_nil)
def m_spec_spLead_l1 : AC :=
 (.seq (.seq (rg [xo 4 (qm (tm 3)), xo 5 (qm (tm 0)), xo 6 (.i (.len (tm 5))), xo 7 (qb .lss (tm 4) (tm 6)), xo 8 (qm (tm 7)), ⟨(some 9), (some (8, true)), (qm (tm 0))⟩, ⟨(some 10), (some (8, true)), (qm (tm 3))⟩, ⟨(some 11), (some (8, true)), (qx 1 (tm 9) (tm 10))⟩, ⟨(some 12), (some (8, true)), (ql (tm 11))⟩, ⟨(some 13), (some (8, true)), (qb .eql (tm 12) (ci 0))⟩, xo 14 (.i (.pick (tm 8) (tm 13) (cb false)))])
 (.cond (tm 14)
  .skip
  (.exit 0)))
 (.block 1 (rg [xo 15 (qm (tm 3)), xo 16 (qb .add (tm 15) (ci 1)), xo 3 (qm (tm 16))])))
def m_spec_spLead : AC :=
 (.seq (rg [xo 2 (qm (ci 0))])
 (.seq (rg [xo 3 (qm (ci 0))])
 (.seq (.block 0 (.loop m_spec_spLead_l1))
 (.seq (rg [xo 17 (qm (tm 3)), xo 2 (qm (tm 17))])
 .ret))))
def r_spec_spLead : List Res := [.tmp 2]
theorem c_spec_spLead : compiled Tryd.prog Tryd.f91 = some (m_spec_spLead, r_spec_spLead) := by kernel_rfl
theorem hb_spec_spLead : hasBody Tryd.prog 91 = true := by kernel_rfl
def L_spec_spLead_l1 (a0 : List Int) (l4_m3 : Nat) : Option (Ctl Nat Nat) :=
 Option.bind (cond (decide (((l4_m3 : Nat) : Int) < ((a0.length : Nat) : Int)))
  (Option.bind (a0[l4_m3]?) fun x8 =>
  some (x8 == 0))
  (some false)) fun l6_m14 =>
cond l6_m14
 (og (l4_m3 + 1 < 4611686018427387904) <|
 some (Ctl.next (l4_m3 + 1)))
 (some (Ctl.out l4_m3))
def L_spec_spLead (a0 : List Int) : Option Int :=
 Option.bind (loopM (fun s_ : Nat => L_spec_spLead_l1 a0 s_) 4611686018427387904 0) fun l3_m3 =>
some ((l3_m3 : Nat) : Int)
def rv_spec_spLead (r : Int) : RV := ⟨false, [(false, [.sc (.int .i64 r)])]⟩
theorem ok_spec_spLead {a0 : List Int} {r : Int} (h : L_spec_spLead a0 = some r) : CallOK Tryd.prog Tab 91 [(.tree .int a0)] (rv_spec_spLead r) := by
 refine call_of_ (by kernel_rfl) Tryd.func91 c_spec_spLead (n := 18) (by kernel_rfl) (by simp) (tl := [(0, (.tree .int a0))]) rfl ?_
 unfold m_spec_spLead
 unfold L_spec_spLead at h
 refine seqR ?_
 refine seqR ?_
 refine awp_seqB h (fun (l3_m3 : Nat) S_ => S_ = ⟨mkTm [(3, (ai ((l3_m3 : Nat) : Int)))], mkOb (someL []), 2⟩) ?_ ?_
 ·intro v_ h
  refine awp_block_ ?_
  refine awp_loopL h (fun (l4_m3 : Nat) S_ => S_ = ⟨mkTm [(0, (.tree .int a0)), (3, (ai ((l4_m3 : Nat) : Int)))], mkOb (someL []), 2⟩) ⟨_, (weak_ren []), rfl⟩ ?_
  rintro n_ l4_m3 _ c_ rfl h hn4
  (try dsimp only at h)
  unfold L_spec_spLead_l1 at h
  unfold m_spec_spLead_l1
  refine awp_seqv_ ?_
  refine awp_seqB h (fun (l6_m14 : Bool) S_ => S_ = ⟨mkTm [(0, (.tree .int a0)), (3, (ai ((l4_m3 : Nat) : Int))), (14, (.bool l6_m14))], mkOb (someL []), 2⟩) ?_ ?_
  ·intro v_ h
   rcases cond_some h with ⟨q7, h⟩ | ⟨q7, h⟩
   ·have q7_ := of_decide_eq_true q7
    obtain ⟨x8, e8, h⟩ := ob_some h
    refine awp_region_ 13 ?_
    refine rz0 (ai ((l4_m3 : Nat) : Int)) ?_
    refine rz0 (.tree .int a0) ?_
    refine rz0 (ai ((a0.length : Nat) : Int)) ?_
    refine rz0 (.bool (decide (((l4_m3 : Nat) : Int) < ((a0.length : Nat) : Int)))) ?_
    refine rz0 (.bool (decide (((l4_m3 : Nat) : Int) < ((a0.length : Nat) : Int)))) ?_
    refine rs0 (.tree .int a0) (zg q7) ?_
    refine rs0 (ai ((l4_m3 : Nat) : Int)) (zg q7) ?_
    refine rs0 (.telt .int x8 0) (s_gd (by kernel_rfl) q7 (zi (t := .int) (xs := a0) (k := .i64) (m := ((l4_m3 : Nat) : Int)) (nat_nn _) e8)) ?_
    refine rs0 (ai x8) (zg q7) ?_
    refine rs0 (.bool (x8 == 0)) (zg q7) ?_
    refine rs0 (.bool (x8 == 0)) (zT q7) ?_
    refine rnil (tn_ ?_)
    obtain rfl := zj h
    exact ⟨_, (weak_ren []), rfl⟩
   have q7_ := of_decide_eq_false q7
   refine awp_region_ 13 ?_
   refine rz0 (ai ((l4_m3 : Nat) : Int)) ?_
   refine rz0 (.tree .int a0) ?_
   refine rz0 (ai ((a0.length : Nat) : Int)) ?_
   refine rz0 (.bool (decide (((l4_m3 : Nat) : Int) < ((a0.length : Nat) : Int)))) ?_
   refine rz0 (.bool (decide (((l4_m3 : Nat) : Int) < ((a0.length : Nat) : Int)))) ?_
   refine zs q7 ?_
   refine zs q7 ?_
   refine zs q7 ?_
   refine zs q7 ?_
   refine zs q7 ?_
   refine rs0 (.bool false) (zF q7) ?_
   refine rnil (tn_ ?_)
   obtain rfl := zj h
   exact ⟨_, (weak_ren []), rfl⟩
  rintro l6_m14 _ rfl h
  (try dsimp only at h)
  rcases cond_some h with ⟨q9, h⟩ | ⟨q9, h⟩
  ·refine awp_condT_ q9 ?_
   refine awp_skip_ (tn_ ?_)
   refine wr_ ?_
   refine awp_block_ ?_
   obtain ⟨g10, h⟩ := og_some h
   refine awp_region_ 5 ?_
   refine rz0 (ai ((l4_m3 : Nat) : Int)) ?_
   refine rs0 (ai ((l4_m3 + 1 : Nat) : Int)) (za g10) ?_
   refine rsB 1 ?_
   refine rnil (bn_ (tn_ ?_))
   obtain rfl := zj h
   exact ⟨l4_m3 + 1, _, (weak_ren []), rfl, hn4⟩
  refine awp_condF_ q9 ?_
  refine awp_exit_ (te_ (te_ (be_ (tn_ ?_))))
  obtain rfl := zj h
  have h := hn4
  (try dsimp only at h)
  obtain rfl := zj h
  exact ⟨_, (weak_ren []), rfl⟩
 rintro l3_m3 _ rfl h
 (try dsimp only at h)
 refine seqR ?_
 refine awp_ret_ ?_
 obtain rfl := zj h
 exact ret_ [(ai ((l3_m3 : Nat) : Int))] (p_one rfl zl p_nil)
def m_spec_riFunction_l3 : AC :=
 (.seq (rg [xo 66 (qb .lss (tm 65) (tm 64))])
 (.seq (.cond (tm 66)
  .skip
  (.exit 4))
 (.seq (.block 5 (.seq (rg [xo 67 (qm (tm 65)), xo 68 (qx 1 (tm 63) (tm 65)), xo 69 (ql (tm 68)), xo 18 (qm (tm 67)), xo 19 (qm (tm 69))])
 (.seq (.seq (rg [xo 70 (qm (tm 19)), xo 71 (qc 91 [(tm 70)] [[(some .int)]]), xo 72 (qm (tm 18)), xo 73 (qb .neq (tm 71) (tm 72))])
 (.cond (tm 73)
  (.seq (rg [xo 74 (.build [(.int .i64 0), .nils] []), xn (.st false 2 (tm 8) (tm 74)), xo 9 (qm (cb false))])
  .ret)
  .skip))
 (.region [xo 75 (qf 1 (tm 17)), xo 76 (ql (tm 75)), xo 77 (qm (tm 19)), xo 78 (qm (tm 3)), xo 79 (.i (.len (tm 78))), xo 80 (.slice 1 (tm 77) (some (tm 79)) none none), xo 81 (qc 47 [(tm 80)] [[(some .int)]]), xo 82 (.mkV 42 (.slice .int) 1 [(tm 81)]), xo 83 (.appV 42 (.slice .int) 24 (tm 76) (tm 82)), xo 84 (qf 1 (tm 17)), xn (qs (tm 84) (tm 83))] true [(1, 6), (1, 7)]))))
 (rg [xo 85 (qb .add (tm 65) (ci 1)), xo 65 (qm (tm 85))]))))
def m_spec_riFunction_l2 : AC :=
 (.seq (rg [xo 41 (qb .lss (tm 40) (tm 39))])
 (.seq (.cond (tm 41)
  .skip
  (.exit 2))
 (.seq (.block 3 (.seq (rg [xo 42 (qx 1 (tm 38) (tm 40)), xo 43 (ql (tm 42)), xo 16 (qm (tm 43))])
 (rg [xo 44 (qm (tm 14)), xo 45 (qm (tm 13)), xo 46 (qm (tm 16)), xo 47 (qx 1 (tm 45) (tm 46)), xo 48 (ql (tm 47)), xo 49 (.mkS 3 .int [(tm 48)]), xo 50 (.append 3 .int 8 (tm 44) (tm 49)), xo 14 (qm (tm 50))])))
 (rg [xo 51 (qb .add (tm 40) (ci 1)), xo 40 (qm (tm 51))]))))
def m_spec_riFunction_l1 : AC :=
 (.seq (rg [xo 32 (qb .lss (tm 31) (tm 30))])
 (.seq (.cond (tm 32)
  .skip
  (.exit 0))
 (.seq (.block 1 (.seq (rg [xo 33 (qx 1 (tm 29) (tm 31)), xo 34 (ql (tm 33)), xo 13 (qm (tm 34))])
 (.seq (rg [xo 14 (qm (.cst .nils))])
 (.seq (.seq (rg [xo 35 (qm (tm 3)), xo 36 (qc 47 [(tm 35)] [[(some .int)]]), xo 37 (qm (tm 10)), xo 38 (.append 3 .int 8 (tm 36) (tm 37)), xo 39 (.i (.len (tm 38))), xo 40 (qm (ci 0))])
 (.block 2 (.loop m_spec_riFunction_l2)))
 (rg [xo 52 (qm (tm 11)), xo 53 (qm (tm 14)), xo 54 (.mkV 42 (.slice .int) 1 [(tm 53)]), xo 55 (.appV 42 (.slice .int) 24 (tm 52) (tm 54)), xo 11 (qm (tm 55))])))))
 (rg [xo 56 (qb .add (tm 31) (ci 1)), xo 31 (qm (tm 56))]))))
def m_spec_riFunction : AC :=
 (.seq (rg [xo 8 (.i (.alloc 44 [(.int .i64 0), .nils])), xo 9 (qm (cb false))])
 (.seq (.seq (rg [xo 20 (qm (tm 3)), xo 21 (.i (.len (tm 20))), xo 22 (qm (tm 2)), xo 23 (.i (.len (tm 22))), xo 24 (qb .neq (tm 21) (tm 23))])
 (.cond (tm 24)
  (.seq (rg [xo 25 (.build [(.int .i64 0), .nils] []), xn (.st false 2 (tm 8) (tm 25)), xo 9 (qm (cb false))])
  .ret)
  .skip))
 (.seq (rg [xo 26 (qm (tm 3)), xo 27 (qm (tm 1)), xo 28 (qc 90 [(tm 26), (tm 27)] [[(some .int)], []]), xo 10 (qm (tm 28))])
 (.seq (rg [xo 11 (qm (.cst .nils))])
 (.seq (.seq (rg [xo 29 (qm (tm 2)), xo 30 (.i (.len (tm 29))), xo 31 (qm (ci 0))])
 (.block 0 (.loop m_spec_riFunction_l1)))
 (.seq (rg [xo 57 (qm (tm 10)), xo 58 (.i (.len (tm 57))), xo 59 (.build [(.int .i64 0), .nils] [(0, 1, (tm 58))]), xo 17 (.i (.alloc 44 [(.int .i64 0), .nils])), xn (.st false 2 (tm 17) (tm 59))])
 (.seq (.seq (rg [xo 60 (qm (tm 0)), xo 61 (qm (tm 1)), xo 62 (qm (tm 11)), xo 63 (qc 50 [(tm 60), (tm 61), (tm 62)] [[], [], [(some (.slice .int))]]), xo 64 (.i (.len (tm 63))), xo 65 (qm (ci 0))])
 (.block 4 (.loop m_spec_riFunction_l3)))
 (.seq (rg [xo 86 (.i (.ld false 2 (tm 17))), xn (.st false 2 (tm 8) (tm 86)), xo 9 (qm (cb true))])
 .ret))))))))
def r_spec_riFunction : List Res := [.cell 8 false 2, .tmp 9]
theorem c_spec_riFunction : compiled Tryd.prog Tryd.f57 = some (m_spec_riFunction, r_spec_riFunction) := by kernel_rfl
theorem hb_spec_riFunction : hasBody Tryd.prog 57 = true := by kernel_rfl
def L_spec_riFunction_l2 (y22 : List Int) (y8 : List Int) (x18 : List Int) (l24_m40 : Nat) (l24_m14 : List Int) : Option (Ctl (Nat × List Int) (List Int)) :=
 cond (decide (((l24_m40 : Nat) : Int) < (((y22 ++ y8).length : Nat) : Int)))
 (Option.bind ((y22 ++ y8)[l24_m40]?) fun x30 =>
 Option.bind (getI x18 x30) fun x31 =>
 og (l24_m14.length + 1 <= 1073741824 ∧ (l24_m14.length + 1) * 8 <= 140737488355328) <|
 og (l24_m40 + 1 < 4611686018427387904) <|
 some (Ctl.next (l24_m40 + 1, l24_m14 ++ ([x31]))))
 (some (Ctl.out l24_m14))
def L_spec_riFunction_l1 (a2 : List (List Int)) (a3 : List Int) (y8 : List Int) (l12_m31 : Nat) (l12_m11 : List (List Int)) : Option (Ctl (Nat × List (List Int)) (List (List Int))) :=
 cond (decide (((l12_m31 : Nat) : Int) < ((a2.length : Nat) : Int)))
 (Option.bind (Option.bind (a2[l12_m31]?) fun x18 =>
  Option.bind (Option.bind (L_spec_l1Own a3) fun y22 =>
   og (y22.length + y8.length <= 1073741824 ∧ (y22.length + y8.length) * 8 <= 140737488355328) <|
   loopM (fun s_ : Nat × List Int => L_spec_riFunction_l2 y22 y8 x18 s_.1 s_.2) 4611686018427387904 (0, [])) fun l20_m14 =>
  og (l12_m11.length + 1 <= 1073741824 ∧ (l12_m11.length + 1) * 24 <= 140737488355328) <|
  some (l12_m11 ++ [l20_m14])) fun l16_m11 =>
 og (l12_m31 + 1 < 4611686018427387904) <|
 some (Ctl.next (l12_m31 + 1, l16_m11)))
 (some (Ctl.out l12_m11))
def L_spec_riFunction_l3 (y39 : List (List Int)) (a3 : List Int) (l40_m65 : Nat) (l40_m17_1 : List (List Int)) : Option (Ctl (Nat × List (List Int)) (Ctl (List (List Int)) (Bool × Nat × List (List Int)))) :=
 cond (decide (((l40_m65 : Nat) : Int) < ((y39.length : Nat) : Int)))
 (Option.bind (y39[l40_m65]?) fun x46 =>
 Option.bind (L_spec_spLead x46) fun y49 =>
 cond (y49 != ((l40_m65 : Nat) : Int))
  (some (Ctl.out (Ctl.out (false, 0, ([] : List (List Int))))))
  (og ((0 : Int) <= ((a3.length : Nat) : Int) ∧ ((a3.length : Nat) : Int) <= ((x46.length : Nat) : Int) ∧ ((x46.length : Nat) : Int) <= ((x46.length : Nat) : Int)) <|
  Option.bind (L_spec_l1Own (x46.drop a3.length)) fun y53 =>
  og (l40_m17_1.length + 1 <= 1073741824 ∧ (l40_m17_1.length + 1) * 24 <= 140737488355328) <|
  og (l40_m65 + 1 < 4611686018427387904) <|
  some (Ctl.next (l40_m65 + 1, l40_m17_1 ++ [y53]))))
 (some (Ctl.out (Ctl.next l40_m17_1)))
def L_spec_riFunction (a0 : Int) (a1 : Int) (a2 : List (List Int)) (a3 : List Int) : Option (Bool × Nat × List (List Int)) :=
 cond (((a3.length : Nat) : Int) != ((a2.length : Nat) : Int))
 (some (false, 0, ([] : List (List Int))))
 (Option.bind (L_spec_riRest a3 a1) fun y8 =>
 Option.bind (loopM (fun s_ : Nat × List (List Int) => L_spec_riFunction_l1 a2 a3 y8 s_.1 s_.2) 4611686018427387904 (0, ([] : List (List Int)))) fun l10_m11 =>
 seqC (Option.bind (L_spec_spReduce a0 a1 l10_m11) fun y39 =>
  loopM (fun s_ : Nat × List (List Int) => L_spec_riFunction_l3 y39 a3 s_.1 s_.2) 4611686018427387904 (0, ([] : List (List Int)))) fun l37_m17_1 =>
 some (true, y8.length, l37_m17_1))
theorem ok_spec_riFunction {a0 : Int} {a1 : Int} {a2 : List (List Int)} {a3 : List Int} {r : Bool × Nat × List (List Int)} (h : L_spec_riFunction a0 a1 a2 a3 = some r) : CallM Tryd.prog Tab 57 [(ai a0), (ai a1), (.tree (.slice .int) a2), (.tree .int a3)] [] (.tup [(.agg [(ai ((r.2.1 : Nat) : Int)), (.own (oi 1 1) (.slice .int) 0 r.2.2.length)]), (.bool r.1)]) [((oi 0 1), .cells 44 [(ai ((r.2.1 : Nat) : Int)), (.own (oi 1 1) (.slice .int) 0 r.2.2.length)]), ((oi 1 1), .mat 42 (oi 2 1) .int r.2.2), ((oi 2 1), .pool 3 .int r.2.2)] := by
 refine callM_of_ (by kernel_rfl) Tryd.func57 c_spec_riFunction (n := 87) (by kernel_rfl) (by simp) (tl := [(0, (ai a0)), (1, (ai a1)), (2, (.tree (.slice .int) a2)), (3, (.tree .int a3))]) rfl (by kernel_rfl) trivial ⟨trivial, ⟨⟨3, (.tail _ (.tail _ (.head _)))⟩, ⟨trivial, trivial⟩⟩⟩ ?_
 unfold m_spec_riFunction
 unfold L_spec_riFunction at h
 refine seqR ?_
 refine awp_seqv_ ?_
 refine seqR ?_
 rcases cond_some h with ⟨q5, h⟩ | ⟨q5, h⟩
 ·refine awp_condT_ q5 ?_
  refine seqR ?_
  refine awp_ret_ (tr_ ?_)
  obtain rfl := zj h
  exact retM_ [(.agg [(ai ((0 : Nat) : Int)), (.own (oi 1 1) (.slice .int) 0 ((([] : List (List Int))).length))]), (.bool false)] ((weak_nil_cellV_ 9000 (oi 8 1) 1 44 [(ai 0), .nils] [(ai 0), (.own (oi 9000 11) (.slice .int) 0 0)] 42 (.slice .int) (by kernel_rfl) (by kernel_rfl) (by kernel_rfl)).trans ((weak_none_ (e1 := 42) (n := 0) 9000 (oi 9000 11) 3 .int (by kernel_rfl) (by kernel_rfl) rfl (by kernel_rfl) (by kernel_rfl)).trans (weak_ren (tl := [(8, (.box (oi 0 1) 0)), (9, (.bool false))]) (g := 2) [((oi 0 1), (oi 8 1)), ((oi 1 1), (oi 9000 11)), ((oi 2 1), (oi 9000 12))])))
 refine awp_condF_ q5 ?_
 refine awp_skip_ (tn_ ?_)
 refine wr_ ?_
 refine awp_seqv_ ?_
 obtain ⟨y8, h8, h⟩ := ob_some h
 refine awp_region_ 12 ?_
 refine rz0 (.tree .int a3) ?_
 refine rz0 (ai a1) ?_
 refine zc (.own (oi 448 10) .int 0 y8.length) [((oi 448 10), some (.arr 3 .int y8))] [(.tree .int a3), (ai a1)] (ok_spec_riRest h8) ?_
 refine rsB 1 ?_
 refine rnil (tn_ ?_)
 refine wr_ ?_
 refine seqR ?_
 refine awp_seqB h (fun (l10_m11 : List (List Int)) S_ => S_ = ⟨mkTm [(0, (ai a0)), (1, (ai a1)), (3, (.tree .int a3)), (8, (.box (oi 0 1) 0)), (10, (.own (oi 1 1) .int 0 y8.length)), (11, (.own (oi 2 1) (.slice .int) 0 l10_m11.length))], mkOb (someL [((oi 0 1), .cells 44 [(ai 0), .nils]), ((oi 1 1), .arr 3 .int y8), ((oi 2 1), .mat 42 (oi 3 1) .int l10_m11), ((oi 3 1), .pool 3 .int l10_m11)]), 2⟩) ?_ ?_
 ·intro v_ h
  refine seqR ?_
  refine awp_block_ ?_
  refine awp_loopL h (fun t_ S_ => ∃ (l12_m31 : Nat), ∃ (l12_m11 : List (List Int)), t_ = (l12_m31, l12_m11) ∧ S_ = ⟨mkTm [(0, (ai a0)), (1, (ai a1)), (3, (.tree .int a3)), (8, (.box (oi 0 1) 0)), (10, (.own (oi 1 1) .int 0 y8.length)), (11, (.own (oi 2 1) (.slice .int) 0 l12_m11.length)), (29, (.tree (.slice .int) a2)), (30, (ai ((a2.length : Nat) : Int))), (31, (ai ((l12_m31 : Nat) : Int)))], mkOb (someL [((oi 0 1), .cells 44 [(ai 0), .nils]), ((oi 1 1), .arr 3 .int y8), ((oi 2 1), .mat 42 (oi 3 1) .int l12_m11), ((oi 3 1), .pool 3 .int l12_m11)]), 2⟩) ⟨_, ((weak_nilV_ 11 42 (.slice .int) (by kernel_rfl)).trans ((weak_none_ (e1 := 42) (n := 0) 9000 (oi 11 16) 3 .int (by kernel_rfl) (by kernel_rfl) rfl (by kernel_rfl) (by kernel_rfl)).trans (weak_ren [((oi 0 1), (oi 8 1)), ((oi 1 1), (oi 448 10)), ((oi 2 1), (oi 11 16)), ((oi 3 1), (oi 9000 17))]))), ⟨0, ([] : List (List Int)), rfl, rfl⟩⟩ ?_
  rintro n_ _ _ c_ ⟨l12_m31, l12_m11, rfl, rfl⟩ h hn12
  (try dsimp only at h)
  unfold L_spec_riFunction_l1 at h
  unfold m_spec_riFunction_l1
  refine seqR ?_
  refine awp_seqv_ ?_
  rcases cond_some h with ⟨q15, h⟩ | ⟨q15, h⟩
  ·have q15_ := of_decide_eq_true q15
   refine awp_condT_ q15 ?_
   refine awp_skip_ (tn_ ?_)
   refine wr_ ?_
   refine awp_seqB h (fun (l16_m11 : List (List Int)) S_ => S_ = ⟨mkTm [(0, (ai a0)), (1, (ai a1)), (3, (.tree .int a3)), (8, (.box (oi 0 1) 0)), (10, (.own (oi 1 1) .int 0 y8.length)), (11, (.own (oi 2 1) (.slice .int) 0 l16_m11.length)), (29, (.tree (.slice .int) a2)), (30, (ai ((a2.length : Nat) : Int))), (31, (ai ((l12_m31 : Nat) : Int)))], mkOb (someL [((oi 0 1), .cells 44 [(ai 0), .nils]), ((oi 1 1), .arr 3 .int y8), ((oi 2 1), .mat 42 (oi 3 1) .int l16_m11), ((oi 3 1), .pool 3 .int l16_m11)]), 2⟩) ?_ ?_
   ·intro v_ h
    refine awp_block_ ?_
    refine awp_seqv_ ?_
    obtain ⟨x18, e18, h⟩ := ob_some h
    refine awp_region_ 6 ?_
    refine rs0 (.telt (.slice .int) x18 0) (zi (t := (.slice .int)) (xs := a2) (k := .i64) (m := ((l12_m31 : Nat) : Int)) (nat_nn _) e18) ?_
    refine rsB 2 ?_
    refine rnil (tn_ ?_)
    refine wr_ ?_
    refine seqR ?_
    refine awp_seqB h (fun (l20_m14 : List Int) S_ => S_ = ⟨mkTm [(0, (ai a0)), (1, (ai a1)), (3, (.tree .int a3)), (8, (.box (oi 0 1) 0)), (10, (.own (oi 1 1) .int 0 y8.length)), (11, (.own (oi 2 1) (.slice .int) 0 l12_m11.length)), (14, (.own (oi 4 1) .int 0 l20_m14.length)), (29, (.tree (.slice .int) a2)), (30, (ai ((a2.length : Nat) : Int))), (31, (ai ((l12_m31 : Nat) : Int)))], mkOb (someL [((oi 0 1), .cells 44 [(ai 0), .nils]), ((oi 1 1), .arr 3 .int y8), ((oi 2 1), .mat 42 (oi 3 1) .int l12_m11), ((oi 3 1), .pool 3 .int l12_m11), ((oi 4 1), .arr 3 .int l20_m14)]), 2⟩) ?_ ?_
    ·intro v_ h
     refine awp_seqv_ ?_
     obtain ⟨y22, h22, h⟩ := ob_some h
     obtain ⟨g23, h⟩ := og_some h
     refine awp_region_ 13 ?_
     refine rz0 (.tree .int a3) ?_
     refine zc (.own (oi 576 8) .int 0 y22.length) [((oi 576 8), some (.arr 3 .int y22))] [(.tree .int a3)] (ok_spec_l1Own h22) ?_
     refine rz0 (.own (oi 1 1) .int 0 y8.length) ?_
     refine rs2 (.own (oi 576 10) .int 0 ((y22 ++ y8).length)) (oi 576 8) (oi 576 10) (.arr 3 .int (y22 ++ y8)) (s_appO (t := .int) (t' := .int) (xs := y22) (ys := y8) (zs := y22 ++ y8) (j := (oi 576 8)) (len := y22.length) (c := (.own (oi 1 1) .int 0 y8.length)) (by kernel_rfl) (by kernel_rfl) rfl (by kernel_rfl) (sr_own (e := 3) (by kernel_rfl) rfl) rfl g23) ?_
     refine rsB 2 ?_
     refine rnil (tn_ ?_)
     refine wr_ ?_
     refine awp_block_ ?_
     refine awp_loopL h (fun t_ S_ => ∃ (l24_m40 : Nat), ∃ (l24_m14 : List Int), t_ = (l24_m40, l24_m14) ∧ S_ = ⟨mkTm [(0, (ai a0)), (1, (ai a1)), (3, (.tree .int a3)), (8, (.box (oi 0 1) 0)), (10, (.own (oi 1 1) .int 0 y8.length)), (11, (.own (oi 2 1) (.slice .int) 0 l12_m11.length)), (13, (.tree .int x18)), (14, (.own (oi 4 1) .int 0 l24_m14.length)), (29, (.tree (.slice .int) a2)), (30, (ai ((a2.length : Nat) : Int))), (31, (ai ((l12_m31 : Nat) : Int))), (38, (.own (oi 5 1) .int 0 ((y22 ++ y8).length))), (39, (ai (((y22 ++ y8).length : Nat) : Int))), (40, (ai ((l24_m40 : Nat) : Int)))], mkOb (someL [((oi 0 1), .cells 44 [(ai 0), .nils]), ((oi 1 1), .arr 3 .int y8), ((oi 2 1), .mat 42 (oi 3 1) .int l12_m11), ((oi 3 1), .pool 3 .int l12_m11), ((oi 4 1), .arr 3 .int l24_m14), ((oi 5 1), .arr 3 .int (y22 ++ y8))]), 2⟩) ⟨_, ((weak_nil_ 14 3 .int rfl (by kernel_rfl)).trans (weak_ren [((oi 4 1), (oi 14 13)), ((oi 5 1), (oi 576 10))])), ⟨0, [], rfl, rfl⟩⟩ ?_
     rintro n_ _ _ c_ ⟨l24_m40, l24_m14, rfl, rfl⟩ h hn24
     (try dsimp only at h)
     unfold L_spec_riFunction_l2 at h
     unfold m_spec_riFunction_l2
     refine seqR ?_
     refine awp_seqv_ ?_
     rcases cond_some h with ⟨q27, h⟩ | ⟨q27, h⟩
     ·have q27_ := of_decide_eq_true q27
      refine awp_condT_ q27 ?_
      refine awp_skip_ (tn_ ?_)
      refine wr_ ?_
      refine awp_seqv_ ?_
      refine awp_block_ ?_
      refine awp_seqv_ ?_
      obtain ⟨x30, e30, h⟩ := ob_some h
      refine awp_region_ 6 ?_
      refine rs0 (.elt (oi 5 1) l24_m40 0) (zo (t := .int) (o := (oi 5 1)) (len := (y22 ++ y8).length) (k := .i64) (m := ((l24_m40 : Nat) : Int)) (nat_nn _) (getN_lt e30)) ?_
      refine rsl (ai x30) (s_ldE (i := (oi 5 1)) (j := l24_m40) (k := 0) (e := 3) (t := .int) (xs := y22 ++ y8) (by kernel_rfl) (by kernel_rfl) e30 (by kernel_rfl)) ?_
      refine rsB 1 ?_
      refine rnil (tn_ ?_)
      refine wr_ ?_
      obtain ⟨x31, f31, h⟩ := ob_some h
      obtain ⟨p31, b31, e31⟩ := getI_some f31
      obtain ⟨g32, h⟩ := og_some h
      refine awp_region_ 14 ?_
      refine rz0 (.own (oi 4 1) .int 0 l24_m14.length) ?_
      refine rz0 (.tree .int x18) ?_
      refine rz0 (ai x30) ?_
      refine rs0 (.telt .int x31 0) (zi (t := .int) (xs := x18) (k := .i64) (m := x30) p31 e31) ?_
      refine rz0 (ai x31) ?_
      refine rs1 (.own (oi 49 11) .int 0 1) (oi 49 11) (.arr 3 .int ([x31])) (by kernel_rfl) ?_
      refine rs2 (.own (oi 4 12) .int 0 ((l24_m14 ++ ([x31])).length)) (oi 4 1) (oi 4 12) (.arr 3 .int (l24_m14 ++ ([x31]))) (s_appO (t := .int) (t' := .int) (xs := l24_m14) (ys := [x31]) (zs := l24_m14 ++ ([x31])) (j := (oi 4 1)) (len := l24_m14.length) (c := (.own (oi 49 11) .int 0 1)) (by kernel_rfl) (by kernel_rfl) rfl (by kernel_rfl) (sr_own (e := 3) (by kernel_rfl) rfl) rfl g32) ?_
      refine rsB 1 ?_
      refine rnil (bn_ (tn_ ?_))
      refine wr_ ?_
      obtain ⟨g33, h⟩ := og_some h
      refine awp_region_ 16 ?_
      refine rs0 (ai ((l24_m40 + 1 : Nat) : Int)) (za g33) ?_
      refine rsB 1 ?_
      refine rnil (tn_ ?_)
      obtain rfl := zj h
      exact ⟨(l24_m40 + 1, l24_m14 ++ ([x31])), _, (weak_ren [((oi 4 1), (oi 4 12))]), ⟨l24_m40 + 1, l24_m14 ++ ([x31]), rfl, rfl⟩, hn24⟩
     have q27_ := of_decide_eq_false q27
     refine awp_condF_ q27 ?_
     refine awp_exit_ (te_ (te_ (be_ (tn_ ?_))))
     obtain rfl := zj h
     have h := hn24
     (try dsimp only at h)
     obtain rfl := zj h
     exact ⟨_, (weak_ren []), rfl⟩
    rintro l20_m14 _ rfl h
    (try dsimp only at h)
    obtain ⟨g34, h⟩ := og_some h
    refine awp_region_ 7 ?_
    refine rz0 (.own (oi 2 1) (.slice .int) 0 l12_m11.length) ?_
    refine rz0 (.own (oi 4 1) .int 0 l20_m14.length) ?_
    refine rmkV (.own (oi 54 4) (.slice .int) 0 1) (oi 54 4) (.vec 42 1 1 ([(.own (oi 4 1) .int 0 l20_m14.length)])) trivial (s_mkV (by kernel_rfl)) ?_
    refine rs2 (.own (oi 2 5) (.slice .int) 0 (l12_m11.length + 1)) (oi 2 1) (oi 2 5) (.vec 42 1 (l12_m11.length + 1) (hdL (oi 3 1) .int l12_m11 ++ [(.own (oi 4 1) .int 0 l20_m14.length)])) (s_appVO (u := .int) (t' := (.slice .int)) (t2 := (.slice .int)) (o := (oi 2 1)) (q := (oi 54 4)) (e2 := 42) (p := (oi 3 1)) (xss := l12_m11) (cs := [(.own (oi 4 1) .int 0 l20_m14.length)]) (len := l12_m11.length) (by kernel_rfl) (by kernel_rfl) rfl (by kernel_rfl) (by kernel_rfl) rfl g34) ?_
    refine rsB 1 ?_
    refine rnil (bn_ (tn_ ?_))
    obtain rfl := zj h
    exact ⟨_, ((weak_app_ (e1 := 42) (e := 3) (u := .int) (n := l12_m11.length + 1) (len := l20_m14.length) (row := l20_m14) (ys := l20_m14) (xss := l12_m11) 9000 (oi 2 5) (oi 3 1) (oi 4 1) (by kernel_rfl) (by kernel_rfl) rfl (by kernel_rfl) (by kernel_rfl) (tw_le rfl) (tw_eq rfl) (by kernel_rfl) (by kernel_rfl) (by kernel_rfl)).trans ((weak_tm_ 11 (.own (oi 2 5) (.slice .int) 0 (l12_m11.length + 1)) (.own (oi 2 5) (.slice .int) 0 ((l12_m11 ++ [l20_m14]).length)) (by kernel_rfl) (congrArg (fun z_ => ((.own (oi 2 5) (.slice .int) 0 z_) : AV)) ((by simp) : l12_m11.length + 1 = (l12_m11 ++ [l20_m14]).length))).trans (weak_ren [((oi 2 1), (oi 2 5)), ((oi 3 1), (oi 9000 7))]))), rfl⟩
   rintro l16_m11 _ rfl h
   (try dsimp only at h)
   obtain ⟨g35, h⟩ := og_some h
   refine awp_region_ 4 ?_
   refine rs0 (ai ((l12_m31 + 1 : Nat) : Int)) (za g35) ?_
   refine rsB 1 ?_
   refine rnil (tn_ ?_)
   obtain rfl := zj h
   exact ⟨(l12_m31 + 1, l16_m11), _, (weak_ren []), ⟨l12_m31 + 1, l16_m11, rfl, rfl⟩, hn12⟩
  have q15_ := of_decide_eq_false q15
  refine awp_condF_ q15 ?_
  refine awp_exit_ (te_ (te_ (be_ (tn_ ?_))))
  obtain rfl := zj h
  have h := hn12
  (try dsimp only at h)
  obtain rfl := zj h
  exact ⟨_, (weak_ren []), rfl⟩
 rintro l10_m11 _ rfl h
 (try dsimp only at h)
 refine seqR ?_
 refine awp_seqC h (fun (l37_m17_1 : List (List Int)) S_ => S_ = ⟨mkTm [(8, (.box (oi 0 1) 0)), (17, (.box (oi 1 1) 0))], mkOb (someL [((oi 0 1), .cells 44 [(ai 0), .nils]), ((oi 1 1), .cells 44 [(ai ((y8.length : Nat) : Int)), (.own (oi 2 1) (.slice .int) 0 l37_m17_1.length)]), ((oi 2 1), .mat 42 (oi 3 1) .int l37_m17_1), ((oi 3 1), .pool 3 .int l37_m17_1)]), 2⟩) ?_ ?_
 ·intro v_ h hk37
  refine awp_seqv_ ?_
  obtain ⟨y39, h39, h⟩ := ob_some h
  refine awp_region_ 13 ?_
  refine rz0 (ai a0) ?_
  refine rz0 (ai a1) ?_
  refine rz0 (.own (oi 2 1) (.slice .int) 0 l10_m11.length) ?_
  refine rcallM (.own (oi 1008 10) (.slice .int) 0 y39.length) [((oi 1008 10), some (.mat 42 (oi 1009 10) .int y39)), ((oi 1009 10), some (.pool 3 .int y39))] [] [(ai a0), (ai a1), (.own (oi 2 1) (.slice .int) 0 l10_m11.length)] (caps := []) trivial (ok_spec_spReduce h39) hb_spec_spReduce trivial (.cons (.ren (by kernel_rfl)) (.cons (.ren (by kernel_rfl)) (.cons (.gnd (by kernel_rfl) (gd_mat (p := (oi 3 1)) (e1 := 42) (e := 3) (u := .int) (xss := l10_m11) ((less_at (by kernel_rfl) (by kernel_rfl) (by kernel_rfl)).trans (by kernel_rfl)) (less_pool (by kernel_rfl) (by kernel_rfl) (pool_rows (by kernel_rfl)) (by kernel_rfl)) rfl)) .nil))) (reachL_mem (by kernel_rfl) (by kernel_rfl) trivial) ?_
  refine rsB 2 ?_
  refine rnil (tn_ ?_)
  refine wr_ ?_
  refine awp_block_ ?_
  refine awp_loopL h (fun t_ S_ => ∃ (l40_m65 : Nat), ∃ (l40_m17_1 : List (List Int)), t_ = (l40_m65, l40_m17_1) ∧ S_ = ⟨mkTm [(3, (.tree .int a3)), (8, (.box (oi 0 1) 0)), (17, (.box (oi 1 1) 0)), (63, (.own (oi 2 1) (.slice .int) 0 y39.length)), (64, (ai ((y39.length : Nat) : Int))), (65, (ai ((l40_m65 : Nat) : Int)))], mkOb (someL [((oi 0 1), .cells 44 [(ai 0), .nils]), ((oi 1 1), .cells 44 [(ai ((y8.length : Nat) : Int)), (.own (oi 4 1) (.slice .int) 0 l40_m17_1.length)]), ((oi 2 1), .mat 42 (oi 3 1) .int y39), ((oi 3 1), .pool 3 .int y39), ((oi 4 1), .mat 42 (oi 5 1) .int l40_m17_1), ((oi 5 1), .pool 3 .int l40_m17_1)]), 2⟩) ⟨_, ((weak_nil_cellV_ 9000 (oi 17 5) 1 44 [(ai ((y8.length : Nat) : Int)), .nils] [(ai ((y8.length : Nat) : Int)), (.own (oi 9000 13) (.slice .int) 0 0)] 42 (.slice .int) (by kernel_rfl) (by kernel_rfl) (by kernel_rfl)).trans ((weak_none_ (e1 := 42) (n := 0) 9000 (oi 9000 13) 3 .int (by kernel_rfl) (by kernel_rfl) rfl (by kernel_rfl) (by kernel_rfl)).trans (weak_ren [((oi 1 1), (oi 17 5)), ((oi 4 1), (oi 9000 13)), ((oi 5 1), (oi 9000 14)), ((oi 2 1), (oi 1008 10)), ((oi 3 1), (oi 1009 10))]))), ⟨0, ([] : List (List Int)), rfl, rfl⟩⟩ ?_
  rintro n_ _ _ c_ ⟨l40_m65, l40_m17_1, rfl, rfl⟩ h hn40
  (try dsimp only at h)
  unfold L_spec_riFunction_l3 at h
  unfold m_spec_riFunction_l3
  refine seqR ?_
  refine awp_seqv_ ?_
  rcases cond_some h with ⟨q43, h⟩ | ⟨q43, h⟩
  ·have q43_ := of_decide_eq_true q43
   refine awp_condT_ q43 ?_
   refine awp_skip_ (tn_ ?_)
   refine wr_ ?_
   refine awp_seqv_ ?_
   refine awp_block_ ?_
   refine awp_seqv_ ?_
   obtain ⟨x46, e46, h⟩ := ob_some h
   refine awp_region_ 8 ?_
   refine rz0 (ai ((l40_m65 : Nat) : Int)) ?_
   refine rs0 (.elt (oi 2 1) l40_m65 0) (zo (t := (.slice .int)) (o := (oi 2 1)) (len := y39.length) (k := .i64) (m := ((l40_m65 : Nat) : Int)) (nat_nn _) (getN_lt e46)) ?_
   refine rsl (.own (kid (oi 3 1) l40_m65) .int 0 x46.length) (s_ldM (o := (oi 2 1)) (p := (oi 3 1)) (e1 := 42) (u := .int) (xss := y39) (row := x46) (j := l40_m65) (by kernel_rfl) (by kernel_rfl) e46) ?_
   refine rsB 2 ?_
   refine rnil (tn_ ?_)
   refine wr_ ?_
   refine awp_seqv_ ?_
   refine awp_seqv_ ?_
   obtain ⟨y49, h49, h⟩ := ob_some h
   refine awp_region_ 12 ?_
   refine rz0 (.own (kid (oi 3 1) l40_m65) .int 0 x46.length) ?_
   refine rcall (ai y49) [] [(.own (kid (oi 3 1) l40_m65) .int 0 x46.length)] _ (caps := []) (args0 := [(.tree .int x46)]) trivial (gm_cons (gd_own (e := 3) (u := .int) (xs := x46) (mkOb_kid (by kernel_rfl) e46) rfl) gm_nil) (ok_spec_spLead h49) hb_spec_spLead ?_
   refine rsB 2 ?_
   refine rnil (tn_ ?_)
   refine wr_ ?_
   rcases cond_some h with ⟨q50, h⟩ | ⟨q50, h⟩
   ·refine awp_condT_ q50 ?_
    refine seqR ?_
    refine awp_ret_ (tr_ (br_ (tr_ (tr_ (br_ (tr_ ?_))))))
    obtain rfl := zj h
    have h := hn40
    (try dsimp only at h)
    obtain rfl := zj h
    have h := hk37
    (try dsimp only at h)
    obtain rfl := zj h
    exact retM_ [(.agg [(ai ((0 : Nat) : Int)), (.own (oi 1 1) (.slice .int) 0 ((([] : List (List Int))).length))]), (.bool false)] ((weak_nil_cellV_ 9000 (oi 0 1) 1 44 [(ai 0), .nils] [(ai 0), (.own (oi 9000 15) (.slice .int) 0 0)] 42 (.slice .int) (by kernel_rfl) (by kernel_rfl) (by kernel_rfl)).trans ((weak_none_ (e1 := 42) (n := 0) 9000 (oi 9000 15) 3 .int (by kernel_rfl) (by kernel_rfl) rfl (by kernel_rfl) (by kernel_rfl)).trans (weak_ren (tl := [(8, (.box (oi 0 1) 0)), (9, (.bool false))]) (g := 2) [((oi 1 1), (oi 9000 15)), ((oi 2 1), (oi 9000 16))])))
   refine awp_condF_ q50 ?_
   refine awp_skip_ (tn_ ?_)
   refine wr_ ?_
   obtain ⟨g52, h⟩ := og_some h
   obtain ⟨y53, h53, h⟩ := ob_some h
   obtain ⟨g54, h⟩ := og_some h
   refine awp_regionD_ 23 ?_
   refine dz0 (.box (oi 1 1) 1) ?_
   refine dzl (.own (oi 4 1) (.slice .int) 0 l40_m17_1.length) ?_
   refine dz0 (.own (kid (oi 3 1) l40_m65) .int 0 x46.length) ?_
   refine dz0 (.tree .int a3) ?_
   refine dz0 (ai ((a3.length : Nat) : Int)) ?_
   refine ds0 (.own (kid (oi 3 1) l40_m65) .int a3.length (x46.length - a3.length)) (s_sliceO (t := .int) (i := (kid (oi 3 1) l40_m65)) (off := 0) (len := x46.length) (l := ((a3.length : Nat) : Int)) (h := ((x46.length : Nat) : Int)) (by kernel_rfl) (by kernel_rfl) (by kernel_rfl) rfl g52 (Nat.zero_add _) (by omega)) ?_
   refine dcall (.own (oi 1296 18) .int 0 y53.length) [((oi 1296 18), some (.arr 3 .int y53))] [(.own (kid (oi 3 1) l40_m65) .int a3.length (x46.length - a3.length))] _ (caps := []) (args0 := [(.tree .int (x46.drop a3.length))]) trivial (gm_cons (gd_sub (e := 3) (u := .int) (xs := x46) ((only_in (rd_own (t := .int) (off := a3.length) (len := x46.length - a3.length) 0 rfl (by kernel_rfl))).trans (mkOb_kid (by kernel_rfl) e46)) (by omega) (by rw [List.take_of_length_le (by rw [List.length_drop]; omega)])) gm_nil) (ok_spec_l1Own h53) hb_spec_l1Own ?_
   refine dmkV (.own (oi 82 19) (.slice .int) 0 1) (oi 82 19) (.vec 42 1 1 ([(.own (oi 1296 18) .int 0 y53.length)])) trivial (s_mkV (by kernel_rfl)) ?_
   refine ds2 (.own (oi 4 20) (.slice .int) 0 (l40_m17_1.length + 1)) (oi 4 1) (oi 4 20) (.vec 42 1 (l40_m17_1.length + 1) (hdL (oi 5 1) .int l40_m17_1 ++ [(.own (oi 1296 18) .int 0 y53.length)])) (s_appVO (u := .int) (t' := (.slice .int)) (t2 := (.slice .int)) (o := (oi 4 1)) (q := (oi 82 19)) (e2 := 42) (p := (oi 5 1)) (xss := l40_m17_1) (cs := [(.own (oi 1296 18) .int 0 y53.length)]) (len := l40_m17_1.length) (by kernel_rfl) (by kernel_rfl) rfl (by kernel_rfl) (by kernel_rfl) rfl g54) ?_
   refine dz0 (.box (oi 1 1) 1) ?_
   refine dsn2 (oi 1 1) (oi 1 1) (.cells 44 [(ai ((y8.length : Nat) : Int)), (.own (oi 4 20) (.slice .int) 0 (l40_m17_1.length + 1))]) (by kernel_rfl) ?_
   refine dnil (badB_spec (by kernel_rfl)) (bn_ (tn_ ?_))
   refine ⟨_, weak_app_ (e1 := 42) (e := 3) (u := .int) (n := l40_m17_1.length + 1) (len := y53.length) (row := y53) (ys := y53) (xss := l40_m17_1) 9000 (oi 4 20) (oi 5 1) (oi 1296 18) (by kernel_rfl) (by kernel_rfl) rfl (by kernel_rfl) (by kernel_rfl) (tw_le rfl) (tw_eq rfl) (by kernel_rfl) (by kernel_rfl) (by kernel_rfl), ?_⟩
   obtain ⟨g55, h⟩ := og_some h
   refine awp_region_ 26 ?_
   refine rs0 (ai ((l40_m65 + 1 : Nat) : Int)) (za g55) ?_
   refine rsB 1 ?_
   refine rnil (tn_ ?_)
   obtain rfl := zj h
   exact ⟨(l40_m65 + 1, l40_m17_1 ++ [y53]), _, ((weak_ob_ (oi 1 1) (.cells 44 [(ai ((y8.length : Nat) : Int)), (.own (oi 4 20) (.slice .int) 0 (l40_m17_1.length + 1))]) (.cells 44 [(ai ((y8.length : Nat) : Int)), (.own (oi 4 20) (.slice .int) 0 ((l40_m17_1 ++ [y53]).length))]) (by kernel_rfl) (congrArg (fun z_ => (.cells 44 [(ai ((y8.length : Nat) : Int)), (.own (oi 4 20) (.slice .int) 0 z_)] : Ob)) ((by simp) : l40_m17_1.length + 1 = (l40_m17_1 ++ [y53]).length))).trans (weak_ren [((oi 4 1), (oi 4 20)), ((oi 5 1), (oi 9000 23))])), ⟨l40_m65 + 1, l40_m17_1 ++ [y53], rfl, rfl⟩, hn40⟩
  have q43_ := of_decide_eq_false q43
  refine awp_condF_ q43 ?_
  refine awp_exit_ (te_ (te_ (be_ (tn_ ?_))))
  obtain rfl := zj h
  have h := hn40
  (try dsimp only at h)
  obtain rfl := zj h
  exact ⟨l40_m17_1, _, rfl, (weak_ren [((oi 2 1), (oi 4 1)), ((oi 3 1), (oi 5 1))]), rfl⟩
 rintro l37_m17_1 _ rfl h
 (try dsimp only at h)
 refine seqR ?_
 refine awp_ret_ ?_
 obtain rfl := zj h
 exact retM_ [(.agg [(ai ((y8.length : Nat) : Int)), (.own (oi 1 1) (.slice .int) 0 l37_m17_1.length)]), (.bool true)] (weak_ren (tl := [(8, (.box (oi 0 1) 0)), (9, (.bool true))]) (g := 2) [((oi 1 1), (oi 2 1)), ((oi 2 1), (oi 3 1))])
def m_impl_chosenAll_l1 : AC :=
 (.seq (rg [xo 12 (qb .lss (tm 11) (tm 10))])
 (.seq (.cond (tm 12)
  .skip
  (.exit 0))
 (.seq (.block 1 (.seq (rg [xo 13 (qx 1 (tm 9) (tm 11)), xo 14 (ql (tm 13)), xo 7 (qm (tm 14))])
 (rg [xo 15 (qm (tm 5)), xo 16 (qm (tm 7)), xo 17 (qm (tm 1)), xo 18 (qc 107 [(tm 16), (tm 17)] [[(some .int)], [(some .int)]]), xo 19 (.mkV 42 (.slice .int) 1 [(tm 18)]), xo 20 (.appV 42 (.slice .int) 24 (tm 15) (tm 19)), xo 5 (qm (tm 20))])))
 (rg [xo 21 (qb .add (tm 11) (ci 1)), xo 11 (qm (tm 21))]))))
def m_impl_chosenAll : AC :=
 (.seq (rg [xo 4 (qm (.cst .nils))])
 (.seq (rg [xo 8 (.mkV 42 (.slice .int) 1 []), xo 5 (qm (tm 8))])
 (.seq (.seq (rg [xo 9 (qm (tm 0)), xo 10 (.i (.len (tm 9))), xo 11 (qm (ci 0))])
 (.block 0 (.loop m_impl_chosenAll_l1)))
 (.seq (rg [xo 22 (qm (tm 5)), xo 4 (qm (tm 22))])
 .ret))))
def r_impl_chosenAll : List Res := [.tmp 4]
theorem c_impl_chosenAll : compiled Tryd.prog Tryd.f93 = some (m_impl_chosenAll, r_impl_chosenAll) := by kernel_rfl
theorem hb_impl_chosenAll : hasBody Tryd.prog 93 = true := by kernel_rfl
def L_impl_chosenAll_l1 (a0 : List (List Int)) (a1 : List Int) (l6_m11 : Nat) (l6_m5 : List (List Int)) : Option (Ctl (Nat × List (List Int)) (List (List Int))) :=
 cond (decide (((l6_m11 : Nat) : Int) < ((a0.length : Nat) : Int)))
 (Option.bind (a0[l6_m11]?) fun x12 =>
 Option.bind (L_impl_chosen x12 a1) fun y13 =>
 og (l6_m5.length + 1 <= 1073741824 ∧ (l6_m5.length + 1) * 24 <= 140737488355328) <|
 og (l6_m11 + 1 < 4611686018427387904) <|
 some (Ctl.next (l6_m11 + 1, l6_m5 ++ [y13])))
 (some (Ctl.out l6_m5))
def L_impl_chosenAll (a0 : List (List Int)) (a1 : List Int) : Option (List (List Int)) :=
 Option.bind (loopM (fun s_ : Nat × List (List Int) => L_impl_chosenAll_l1 a0 a1 s_.1 s_.2) 4611686018427387904 (0, ([] : List (List Int)))) fun l4_m5 =>
some l4_m5
theorem ok_impl_chosenAll {a0 : List (List Int)} {a1 : List Int} {r : List (List Int)} (h : L_impl_chosenAll a0 a1 = some r) : CallM Tryd.prog Tab 93 [(.tree (.slice .int) a0), (.tree .int a1)] [] (.own (oi 0 1) (.slice .int) 0 r.length) [((oi 0 1), .mat 42 (oi 1 1) .int r), ((oi 1 1), .pool 3 .int r)] := by
 refine callM_of_ (by kernel_rfl) Tryd.func93 c_impl_chosenAll (n := 23) (by kernel_rfl) (by simp) (tl := [(0, (.tree (.slice .int) a0)), (1, (.tree .int a1))]) rfl (by kernel_rfl) trivial ⟨⟨3, (.tail _ (.head _))⟩, ⟨trivial, trivial⟩⟩ ?_
 unfold m_impl_chosenAll
 unfold L_impl_chosenAll at h
 refine seqR ?_
 refine awp_seqv_ ?_
 refine awp_region_ 4 ?_
 refine rmkV (.own (oi 8 2) (.slice .int) 0 0) (oi 8 2) (.vec 42 1 0 []) trivial (s_mkV (by kernel_rfl)) ?_
 refine rsB 1 ?_
 refine rnil (tn_ ?_)
 refine ⟨_, weak_none_ (e1 := 42) (n := 0) 9000 (oi 8 2) 3 .int (by kernel_rfl) (by kernel_rfl) rfl (by kernel_rfl) (by kernel_rfl), ?_⟩
 refine awp_seqB h (fun (l4_m5 : List (List Int)) S_ => S_ = ⟨mkTm [(5, (.own (oi 0 1) (.slice .int) 0 l4_m5.length))], mkOb (someL [((oi 0 1), .mat 42 (oi 1 1) .int l4_m5), ((oi 1 1), .pool 3 .int l4_m5)]), 2⟩) ?_ ?_
 ·intro v_ h
  refine seqR ?_
  refine awp_block_ ?_
  refine awp_loopL h (fun t_ S_ => ∃ (l6_m11 : Nat), ∃ (l6_m5 : List (List Int)), t_ = (l6_m11, l6_m5) ∧ S_ = ⟨mkTm [(1, (.tree .int a1)), (5, (.own (oi 0 1) (.slice .int) 0 l6_m5.length)), (9, (.tree (.slice .int) a0)), (10, (ai ((a0.length : Nat) : Int))), (11, (ai ((l6_m11 : Nat) : Int)))], mkOb (someL [((oi 0 1), .mat 42 (oi 1 1) .int l6_m5), ((oi 1 1), .pool 3 .int l6_m5)]), 2⟩) ⟨_, (weak_ren [((oi 0 1), (oi 8 2)), ((oi 1 1), (oi 9000 4))]), ⟨0, ([] : List (List Int)), rfl, rfl⟩⟩ ?_
  rintro n_ _ _ c_ ⟨l6_m11, l6_m5, rfl, rfl⟩ h hn6
  (try dsimp only at h)
  unfold L_impl_chosenAll_l1 at h
  unfold m_impl_chosenAll_l1
  refine seqR ?_
  refine awp_seqv_ ?_
  rcases cond_some h with ⟨q9, h⟩ | ⟨q9, h⟩
  ·have q9_ := of_decide_eq_true q9
   refine awp_condT_ q9 ?_
   refine awp_skip_ (tn_ ?_)
   refine wr_ ?_
   refine awp_seqv_ ?_
   refine awp_block_ ?_
   refine awp_seqv_ ?_
   obtain ⟨x12, e12, h⟩ := ob_some h
   refine awp_region_ 6 ?_
   refine rs0 (.telt (.slice .int) x12 0) (zi (t := (.slice .int)) (xs := a0) (k := .i64) (m := ((l6_m11 : Nat) : Int)) (nat_nn _) e12) ?_
   refine rsB 2 ?_
   refine rnil (tn_ ?_)
   refine wr_ ?_
   obtain ⟨y13, h13, h⟩ := ob_some h
   obtain ⟨g14, h⟩ := og_some h
   refine awp_region_ 13 ?_
   refine rz0 (.own (oi 0 1) (.slice .int) 0 l6_m5.length) ?_
   refine rz0 (.tree .int x12) ?_
   refine rz0 (.tree .int a1) ?_
   refine zc (.own (oi 288 9) .int 0 y13.length) [((oi 288 9), some (.arr 3 .int y13))] [(.tree .int x12), (.tree .int a1)] (ok_impl_chosen h13) ?_
   refine rmkV (.own (oi 19 10) (.slice .int) 0 1) (oi 19 10) (.vec 42 1 1 ([(.own (oi 288 9) .int 0 y13.length)])) trivial (s_mkV (by kernel_rfl)) ?_
   refine rs2 (.own (oi 0 11) (.slice .int) 0 (l6_m5.length + 1)) (oi 0 1) (oi 0 11) (.vec 42 1 (l6_m5.length + 1) (hdL (oi 1 1) .int l6_m5 ++ [(.own (oi 288 9) .int 0 y13.length)])) (s_appVO (u := .int) (t' := (.slice .int)) (t2 := (.slice .int)) (o := (oi 0 1)) (q := (oi 19 10)) (e2 := 42) (p := (oi 1 1)) (xss := l6_m5) (cs := [(.own (oi 288 9) .int 0 y13.length)]) (len := l6_m5.length) (by kernel_rfl) (by kernel_rfl) rfl (by kernel_rfl) (by kernel_rfl) rfl g14) ?_
   refine rsB 1 ?_
   refine rnil (bn_ (tn_ ?_))
   refine ⟨_, weak_app_ (e1 := 42) (e := 3) (u := .int) (n := l6_m5.length + 1) (len := y13.length) (row := y13) (ys := y13) (xss := l6_m5) 9000 (oi 0 11) (oi 1 1) (oi 288 9) (by kernel_rfl) (by kernel_rfl) rfl (by kernel_rfl) (by kernel_rfl) (tw_le rfl) (tw_eq rfl) (by kernel_rfl) (by kernel_rfl) (by kernel_rfl), ?_⟩
   obtain ⟨g15, h⟩ := og_some h
   refine awp_region_ 16 ?_
   refine rs0 (ai ((l6_m11 + 1 : Nat) : Int)) (za g15) ?_
   refine rsB 1 ?_
   refine rnil (tn_ ?_)
   obtain rfl := zj h
   exact ⟨(l6_m11 + 1, l6_m5 ++ [y13]), _, ((weak_tm_ 5 (.own (oi 0 11) (.slice .int) 0 (l6_m5.length + 1)) (.own (oi 0 11) (.slice .int) 0 ((l6_m5 ++ [y13]).length)) (by kernel_rfl) (congrArg (fun z_ => ((.own (oi 0 11) (.slice .int) 0 z_) : AV)) ((by simp) : l6_m5.length + 1 = (l6_m5 ++ [y13]).length))).trans (weak_ren [((oi 0 1), (oi 0 11)), ((oi 1 1), (oi 9000 13))])), ⟨l6_m11 + 1, l6_m5 ++ [y13], rfl, rfl⟩, hn6⟩
  have q9_ := of_decide_eq_false q9
  refine awp_condF_ q9 ?_
  refine awp_exit_ (te_ (te_ (be_ (tn_ ?_))))
  obtain rfl := zj h
  have h := hn6
  (try dsimp only at h)
  obtain rfl := zj h
  exact ⟨_, (weak_ren []), rfl⟩
 rintro l4_m5 _ rfl h
 (try dsimp only at h)
 refine seqR ?_
 refine awp_ret_ ?_
 obtain rfl := zj h
 exact retM_ [(.own (oi 0 1) (.slice .int) 0 l4_m5.length)] (weak_ren (tl := [(4, (.own (oi 0 1) (.slice .int) 0 l4_m5.length))]) (g := 2) [])
def m_slices_Index_int_int_l1 : AC :=
 (.seq (rg [xo 9 (qb .lss (tm 8) (tm 7))])
 (.seq (.cond (tm 9)
  .skip
  (.exit 0))
 (.seq (.block 1 (.seq (rg [xo 10 (qm (tm 8)), xo 5 (qm (tm 10))])
 (.seq (rg [xo 11 (qm (tm 1)), xo 12 (qm (tm 0)), xo 13 (qm (tm 5)), xo 14 (qx 1 (tm 12) (tm 13)), xo 15 (ql (tm 14)), xo 16 (qb .eql (tm 11) (tm 15))])
 (.cond (tm 16)
  (.seq (rg [xo 17 (qm (tm 5)), xo 4 (qm (tm 17))])
  .ret)
  .skip))))
 (rg [xo 18 (qb .add (tm 8) (ci 1)), xo 8 (qm (tm 18))]))))
def m_slices_Index_int_int : AC :=
 (.seq (rg [xo 4 (qm (ci 0))])
 (.seq (.seq (rg [xo 6 (qm (tm 0)), xo 7 (.i (.len (tm 6))), xo 8 (qm (ci 0))])
 (.block 0 (.loop m_slices_Index_int_int_l1)))
 (.seq (rg [xo 4 (qm (ci (-1)))])
 .ret)))
def r_slices_Index_int_int : List Res := [.tmp 4]
theorem c_slices_Index_int_int : compiled Tryd.prog Tryd.f112 = some (m_slices_Index_int_int, r_slices_Index_int_int) := by kernel_rfl
def L_slices_Index_int_int_l1 (a0 : List Int) (a1 : Int) (l4_m8 : Nat) : Option (Ctl Nat (Ctl Unit Int)) :=
 cond (decide (((l4_m8 : Nat) : Int) < ((a0.length : Nat) : Int)))
 (Option.bind (a0[l4_m8]?) fun x11 =>
 cond (a1 == x11)
  (some (Ctl.out (Ctl.out ((l4_m8 : Nat) : Int))))
  (og (l4_m8 + 1 < 4611686018427387904) <|
  some (Ctl.next (l4_m8 + 1))))
 (some (Ctl.out (Ctl.next ())))
def L_slices_Index_int_int (a0 : List Int) (a1 : Int) : Option Int :=
 seqC (loopM (fun s_ : Nat => L_slices_Index_int_int_l1 a0 a1 s_) 4611686018427387904 0) fun _ =>
some (-1)
def rv_slices_Index_int_int (r : Int) : RV := ⟨false, [(false, [.sc (.int .i64 r)])]⟩
theorem ok_slices_Index_int_int {a0 : List Int} {a1 : Int} {r : Int} (h : L_slices_Index_int_int a0 a1 = some r) : CallOK Tryd.prog Tab 112 [(.tree .int a0), (ai a1)] (rv_slices_Index_int_int r) := by
 refine call_of_ (by kernel_rfl) Tryd.func112 c_slices_Index_int_int (n := 19) (by kernel_rfl) (by simp) (tl := [(0, (.tree .int a0)), (1, (ai a1))]) rfl ?_
 unfold m_slices_Index_int_int
 unfold L_slices_Index_int_int at h
 refine seqR ?_
 refine awp_seqC h (fun (_ : Unit) S_ => S_ = ⟨mkTm [], mkOb (someL []), 2⟩) ?_ ?_
 ·intro v_ h hk2
  refine seqR ?_
  refine awp_block_ ?_
  refine awp_loopL h (fun (l4_m8 : Nat) S_ => S_ = ⟨mkTm [(0, (.tree .int a0)), (1, (ai a1)), (7, (ai ((a0.length : Nat) : Int))), (8, (ai ((l4_m8 : Nat) : Int)))], mkOb (someL []), 2⟩) ⟨_, (weak_ren []), rfl⟩ ?_
  rintro n_ l4_m8 _ c_ rfl h hn4
  (try dsimp only at h)
  unfold L_slices_Index_int_int_l1 at h
  unfold m_slices_Index_int_int_l1
  refine seqR ?_
  refine awp_seqv_ ?_
  rcases cond_some h with ⟨q7, h⟩ | ⟨q7, h⟩
  ·have q7_ := of_decide_eq_true q7
   refine awp_condT_ q7 ?_
   refine awp_skip_ (tn_ ?_)
   refine wr_ ?_
   refine awp_seqv_ ?_
   refine awp_block_ ?_
   refine seqR ?_
   refine awp_seqv_ ?_
   obtain ⟨x11, e11, h⟩ := ob_some h
   refine awp_region_ 11 ?_
   refine rz0 (ai a1) ?_
   refine rz0 (.tree .int a0) ?_
   refine rz0 (ai ((l4_m8 : Nat) : Int)) ?_
   refine rs0 (.telt .int x11 0) (zi (t := .int) (xs := a0) (k := .i64) (m := ((l4_m8 : Nat) : Int)) (nat_nn _) e11) ?_
   refine rsB 2 ?_
   refine rnil (tn_ ?_)
   refine wr_ ?_
   rcases cond_some h with ⟨q12, h⟩ | ⟨q12, h⟩
   ·refine awp_condT_ q12 ?_
    refine seqR ?_
    refine awp_ret_ (br_ (tr_ (tr_ (br_ (tr_ ?_)))))
    obtain rfl := zj h
    have h := hn4
    (try dsimp only at h)
    obtain rfl := zj h
    have h := hk2
    (try dsimp only at h)
    obtain rfl := zj h
    exact ret_ [(ai ((l4_m8 : Nat) : Int))] (p_one rfl zl p_nil)
   refine awp_condF_ q12 ?_
   refine awp_skip_ (bn_ (tn_ ?_))
   refine wr_ ?_
   obtain ⟨g14, h⟩ := og_some h
   refine awp_region_ 13 ?_
   refine rs0 (ai ((l4_m8 + 1 : Nat) : Int)) (za g14) ?_
   refine rsB 1 ?_
   refine rnil (tn_ ?_)
   obtain rfl := zj h
   exact ⟨l4_m8 + 1, _, (weak_ren []), rfl, hn4⟩
  have q7_ := of_decide_eq_false q7
  refine awp_condF_ q7 ?_
  refine awp_exit_ (te_ (te_ (be_ (tn_ ?_))))
  obtain rfl := zj h
  have h := hn4
  (try dsimp only at h)
  obtain rfl := zj h
  exact ⟨(), _, rfl, (weak_ren []), rfl⟩
 rintro _ _ rfl h
 (try dsimp only at h)
 refine seqR ?_
 refine awp_ret_ ?_
 obtain rfl := zj h
 exact ret_ [(ai (-1))] (p_one rfl zl p_nil)
def m_slices_Contains_int_int : AC :=
 (.seq (rg [xo 4 (qm (cb false))])
 (.seq (rg [xo 5 (qm (tm 0)), xo 6 (qm (tm 1)), xo 7 (qc 112 [(tm 5), (tm 6)] [[(some .int)], []]), xo 8 (qb .geq (tm 7) (ci 0)), xo 4 (qm (tm 8))])
 .ret))
def r_slices_Contains_int_int : List Res := [.tmp 4]
theorem c_slices_Contains_int_int : compiled Tryd.prog Tryd.f108 = some (m_slices_Contains_int_int, r_slices_Contains_int_int) := by kernel_rfl
def L_slices_Contains_int_int (a0 : List Int) (a1 : Int) : Option Bool :=
 Option.bind (L_slices_Index_int_int a0 a1) fun y3 =>
some (decide (0 <= y3))
def rv_slices_Contains_int_int (r : Bool) : RV := ⟨false, [(false, [.sc (.bool r)])]⟩
theorem ok_slices_Contains_int_int {a0 : List Int} {a1 : Int} {r : Bool} (h : L_slices_Contains_int_int a0 a1 = some r) : CallOK Tryd.prog Tab 108 [(.tree .int a0), (ai a1)] (rv_slices_Contains_int_int r) := by
 refine call_of_ (by kernel_rfl) Tryd.func108 c_slices_Contains_int_int (n := 9) (by kernel_rfl) (by simp) (tl := [(0, (.tree .int a0)), (1, (ai a1))]) rfl ?_
 unfold m_slices_Contains_int_int
 unfold L_slices_Contains_int_int at h
 refine seqR ?_
 refine awp_seqv_ ?_
 obtain ⟨y3, h3, h⟩ := ob_some h
 refine awp_region_ 7 ?_
 refine rz0 (.tree .int a0) ?_
 refine rz0 (ai a1) ?_
 refine zc (ai y3) [] [(.tree .int a0), (ai a1)] (ok_slices_Index_int_int h3) ?_
 refine rsB 2 ?_
 refine rnil (tn_ ?_)
 refine wr_ ?_
 refine awp_ret_ ?_
 obtain rfl := zj h
 exact ret_ [(.bool (decide (0 <= y3)))] (p_one rfl zl p_nil)
def m_impl_others_l1 : AC :=
 (.seq (rg [xo 12 (qb .lss (tm 11) (tm 10))])
 (.seq (.cond (tm 12)
  .skip
  (.exit 0))
 (.seq (.block 1 (.seq (rg [xo 13 (qx 1 (tm 9) (tm 11)), xo 14 (ql (tm 13)), xo 7 (qm (tm 14))])
 (.seq (rg [xo 15 (qm (tm 1)), xo 16 (qm (tm 7)), xo 17 (qc 108 [(tm 15), (tm 16)] [[(some .int)], []]), xo 18 (.i (.not (tm 17)))])
 (.cond (tm 18)
  (rg [xo 19 (qm (tm 5)), xo 20 (qm (tm 7)), xo 21 (.mkS 3 .int [(tm 20)]), xo 22 (.append 3 .int 8 (tm 19) (tm 21)), xo 5 (qm (tm 22))])
  .skip))))
 (rg [xo 23 (qb .add (tm 11) (ci 1)), xo 11 (qm (tm 23))]))))
def m_impl_others : AC :=
 (.seq (rg [xo 4 (qm (.cst .nils))])
 (.seq (rg [xo 8 (.mkS 3 .int []), xo 5 (qm (tm 8))])
 (.seq (.seq (rg [xo 9 (qm (tm 0)), xo 10 (.i (.len (tm 9))), xo 11 (qm (ci 0))])
 (.block 0 (.loop m_impl_others_l1)))
 (.seq (rg [xo 24 (qm (tm 5)), xo 4 (qm (tm 24))])
 .ret))))
def r_impl_others : List Res := [.tmp 4]
theorem c_impl_others : compiled Tryd.prog Tryd.f94 = some (m_impl_others, r_impl_others) := by kernel_rfl
theorem hb_impl_others : hasBody Tryd.prog 94 = true := by kernel_rfl
def L_impl_others_l1 (a0 : List Int) (a1 : List Int) (l5_m11 : Nat) (l5_m5 : List Int) : Option (Ctl (Nat × List Int) (List Int)) :=
 cond (decide (((l5_m11 : Nat) : Int) < ((a0.length : Nat) : Int)))
 (Option.bind (Option.bind (a0[l5_m11]?) fun x11 =>
  Option.bind (L_slices_Contains_int_int a1 x11) fun y13 =>
  cond (!y13)
   (og (l5_m5.length + 1 <= 1073741824 ∧ (l5_m5.length + 1) * 8 <= 140737488355328) <|
   some (l5_m5 ++ ([x11])))
   (some l5_m5)) fun l9_m5 =>
 og (l5_m11 + 1 < 4611686018427387904) <|
 some (Ctl.next (l5_m11 + 1, l9_m5)))
 (some (Ctl.out l5_m5))
def L_impl_others (a0 : List Int) (a1 : List Int) : Option (List Int) :=
 Option.bind (loopM (fun s_ : Nat × List Int => L_impl_others_l1 a0 a1 s_.1 s_.2) 4611686018427387904 (0, [])) fun l3_m5 =>
some l3_m5
def rv_impl_others (r : List Int) : RV := ⟨false, [(false, [.new 3 .int r])]⟩
theorem ok_impl_others {a0 : List Int} {a1 : List Int} {r : List Int} (h : L_impl_others a0 a1 = some r) : CallOK Tryd.prog Tab 94 [(.tree .int a0), (.tree .int a1)] (rv_impl_others r) := by
 refine call_of_ (by kernel_rfl) Tryd.func94 c_impl_others (n := 25) (by kernel_rfl) (by simp) (tl := [(0, (.tree .int a0)), (1, (.tree .int a1))]) rfl ?_
 unfold m_impl_others
 unfold L_impl_others at h
 refine seqR ?_
 refine seqR ?_
 refine awp_seqB h (fun (l3_m5 : List Int) S_ => S_ = ⟨mkTm [(5, (.own (oi 0 1) .int 0 l3_m5.length))], mkOb (someL [((oi 0 1), .arr 3 .int l3_m5)]), 2⟩) ?_ ?_
 ·intro v_ h
  refine seqR ?_
  refine awp_block_ ?_
  refine awp_loopL h (fun t_ S_ => ∃ (l5_m11 : Nat), ∃ (l5_m5 : List Int), t_ = (l5_m11, l5_m5) ∧ S_ = ⟨mkTm [(1, (.tree .int a1)), (5, (.own (oi 0 1) .int 0 l5_m5.length)), (9, (.tree .int a0)), (10, (ai ((a0.length : Nat) : Int))), (11, (ai ((l5_m11 : Nat) : Int)))], mkOb (someL [((oi 0 1), .arr 3 .int l5_m5)]), 2⟩) ⟨_, (weak_ren [((oi 0 1), (oi 8 2))]), ⟨0, [], rfl, rfl⟩⟩ ?_
  rintro n_ _ _ c_ ⟨l5_m11, l5_m5, rfl, rfl⟩ h hn5
  (try dsimp only at h)
  unfold L_impl_others_l1 at h
  unfold m_impl_others_l1
  refine seqR ?_
  refine awp_seqv_ ?_
  rcases cond_some h with ⟨q8, h⟩ | ⟨q8, h⟩
  ·have q8_ := of_decide_eq_true q8
   refine awp_condT_ q8 ?_
   refine awp_skip_ (tn_ ?_)
   refine wr_ ?_
   refine awp_seqB h (fun (l9_m5 : List Int) S_ => S_ = ⟨mkTm [(1, (.tree .int a1)), (5, (.own (oi 0 1) .int 0 l9_m5.length)), (9, (.tree .int a0)), (10, (ai ((a0.length : Nat) : Int))), (11, (ai ((l5_m11 : Nat) : Int)))], mkOb (someL [((oi 0 1), .arr 3 .int l9_m5)]), 2⟩) ?_ ?_
   ·intro v_ h
    refine awp_block_ ?_
    refine awp_seqv_ ?_
    obtain ⟨x11, e11, h⟩ := ob_some h
    refine awp_region_ 6 ?_
    refine rs0 (.telt .int x11 0) (zi (t := .int) (xs := a0) (k := .i64) (m := ((l5_m11 : Nat) : Int)) (nat_nn _) e11) ?_
    refine rsB 2 ?_
    refine rnil (tn_ ?_)
    refine wr_ ?_
    refine awp_seqv_ ?_
    obtain ⟨y13, h13, h⟩ := ob_some h
    refine awp_region_ 10 ?_
    refine rz0 (.tree .int a1) ?_
    refine rz0 (ai x11) ?_
    refine zc (.bool y13) [] [(.tree .int a1), (ai x11)] (ok_slices_Contains_int_int h13) ?_
    refine rsB 1 ?_
    refine rnil (tn_ ?_)
    refine wr_ ?_
    rcases cond_some h with ⟨q14, h⟩ | ⟨q14, h⟩
    ·refine awp_condT_ q14 ?_
     obtain ⟨g15, h⟩ := og_some h
     refine awp_region_ 15 ?_
     refine rz0 (.own (oi 0 1) .int 0 l5_m5.length) ?_
     refine rz0 (ai x11) ?_
     refine rs1 (.own (oi 21 12) .int 0 1) (oi 21 12) (.arr 3 .int ([x11])) (by kernel_rfl) ?_
     refine rs2 (.own (oi 0 13) .int 0 ((l5_m5 ++ ([x11])).length)) (oi 0 1) (oi 0 13) (.arr 3 .int (l5_m5 ++ ([x11]))) (s_appO (t := .int) (t' := .int) (xs := l5_m5) (ys := [x11]) (zs := l5_m5 ++ ([x11])) (j := (oi 0 1)) (len := l5_m5.length) (c := (.own (oi 21 12) .int 0 1)) (by kernel_rfl) (by kernel_rfl) rfl (by kernel_rfl) (sr_own (e := 3) (by kernel_rfl) rfl) rfl g15) ?_
     refine rsB 1 ?_
     refine rnil (bn_ (tn_ ?_))
     obtain rfl := zj h
     exact ⟨_, (weak_ren [((oi 0 1), (oi 0 13))]), rfl⟩
    refine awp_condF_ q14 ?_
    refine awp_skip_ (bn_ (tn_ ?_))
    obtain rfl := zj h
    exact ⟨_, (weak_ren []), rfl⟩
   rintro l9_m5 _ rfl h
   (try dsimp only at h)
   obtain ⟨g16, h⟩ := og_some h
   refine awp_region_ 4 ?_
   refine rs0 (ai ((l5_m11 + 1 : Nat) : Int)) (za g16) ?_
   refine rsB 1 ?_
   refine rnil (tn_ ?_)
   obtain rfl := zj h
   exact ⟨(l5_m11 + 1, l9_m5), _, (weak_ren []), ⟨l5_m11 + 1, l9_m5, rfl, rfl⟩, hn5⟩
  have q8_ := of_decide_eq_false q8
  refine awp_condF_ q8 ?_
  refine awp_exit_ (te_ (te_ (be_ (tn_ ?_))))
  obtain rfl := zj h
  have h := hn5
  (try dsimp only at h)
  obtain rfl := zj h
  exact ⟨_, (weak_ren []), rfl⟩
 rintro l3_m5 _ rfl h
 (try dsimp only at h)
 refine seqR ?_
 refine awp_ret_ ?_
 obtain rfl := zj h
 exact ret_ [(.own (oi 0 1) .int 0 l3_m5.length)] (p_one rfl (l_own (by kernel_rfl) rfl) p_nil)
def m_impl_choiceFunction : AC :=
 (.seq (rg [xo 8 (qm (.cst .nils)), xo 9 (qm (cb false))])
 (.seq (.seq (rg [xo 12 (qm (tm 3)), xo 13 (.i (.len (tm 12))), xo 14 (qm (tm 1)), xo 15 (.i (.len (tm 14))), xo 16 (qb .neq (tm 13) (tm 15))])
 (.cond (tm 16)
  (.seq (rg [xo 8 (qm (.cst .nils)), xo 9 (qm (cb false))])
  .ret)
  .skip))
 (.seq (rg [xo 17 (qm (tm 1)), xo 18 (qm (tm 3)), xo 19 (qc 93 [(tm 17), (tm 18)] [[(some (.slice .int))], [(some .int)]]), xo 20 (qm (tm 1)), xo 21 (qm (tm 2)), xo 22 (qc 95 [(tm 21)] [[]]), xo 23 (qm (tm 3)), xo 24 (qc 94 [(tm 22), (tm 23)] [[(some .int)], [(some .int)]]), xo 25 (qc 93 [(tm 20), (tm 24)] [[(some (.slice .int))], [(some .int)]]), xo 10 (qm (tm 19)), xo 11 (qm (tm 25))])
 (.seq (.seq (rg [xo 26 (qm (tm 0)), xo 27 (qm (tm 10)), xo 28 (qm (tm 3)), xo 29 (.i (.len (tm 28))), xo 30 (qm (tm 11)), xo 31 (qc 88 [(tm 26), (tm 27), (tm 29), (tm 30)] [[], [(some (.slice .int))], [], [(some (.slice .int))]]), xo 32 (qm (tm 3)), xo 33 (.i (.len (tm 32))), xo 34 (qb .lss (tm 31) (tm 33))])
 (.cond (tm 34)
  (.seq (rg [xo 8 (qm (.cst .nils)), xo 9 (qm (cb false))])
  .ret)
  .skip))
 (.seq (rg [xo 35 (qm (tm 11)), xo 8 (qm (tm 35)), xo 9 (qm (cb true))])
 .ret)))))
def r_impl_choiceFunction : List Res := [.tmp 8, .tmp 9]
theorem c_impl_choiceFunction : compiled Tryd.prog Tryd.f59 = some (m_impl_choiceFunction, r_impl_choiceFunction) := by kernel_rfl
theorem hb_impl_choiceFunction : hasBody Tryd.prog 59 = true := by kernel_rfl
def L_impl_choiceFunction (a0 : Int) (a1 : List (List Int)) (a2 : Int) (a3 : List Int) : Option (Bool × List (List Int)) :=
 cond (((a3.length : Nat) : Int) != ((a1.length : Nat) : Int))
 (some (false, ([] : List (List Int))))
 (Option.bind (L_impl_chosenAll a1 a3) fun y8 =>
 Option.bind (L_impl_upTo a2) fun y9 =>
 Option.bind (L_impl_others y9 a3) fun y10 =>
 Option.bind (L_impl_chosenAll a1 y10) fun y11 =>
 Option.bind (L_impl_reduction a0 y8 ((a3.length : Nat) : Int) y11) fun y14 =>
 og (y14.1.length = y8.length) <|
 og (y14.2.1.length = y11.length) <|
 cond (decide (((y14.2.2 : Nat) : Int) < ((a3.length : Nat) : Int)))
  (some (false, ([] : List (List Int))))
  (some (true, y14.2.1)))
theorem ok_impl_choiceFunction {a0 : Int} {a1 : List (List Int)} {a2 : Int} {a3 : List Int} {r : Bool × List (List Int)} (h : L_impl_choiceFunction a0 a1 a2 a3 = some r) : CallM Tryd.prog Tab 59 [(ai a0), (.tree (.slice .int) a1), (ai a2), (.tree .int a3)] [] (.tup [(.own (oi 0 1) (.slice .int) 0 r.2.length), (.bool r.1)]) [((oi 0 1), .mat 42 (oi 1 1) .int r.2), ((oi 1 1), .pool 3 .int r.2)] := by
 refine callM_of_ (by kernel_rfl) Tryd.func59 c_impl_choiceFunction (n := 36) (by kernel_rfl) (by simp) (tl := [(0, (ai a0)), (1, (.tree (.slice .int) a1)), (2, (ai a2)), (3, (.tree .int a3))]) rfl (by kernel_rfl) trivial ⟨⟨3, (.tail _ (.head _))⟩, ⟨trivial, trivial⟩⟩ ?_
 unfold m_impl_choiceFunction
 unfold L_impl_choiceFunction at h
 refine seqR ?_
 refine awp_seqv_ ?_
 refine seqR ?_
 rcases cond_some h with ⟨q5, h⟩ | ⟨q5, h⟩
 ·refine awp_condT_ q5 ?_
  refine seqR ?_
  refine awp_ret_ (tr_ ?_)
  obtain rfl := zj h
  exact retM_ [(.own (oi 0 1) (.slice .int) 0 ((([] : List (List Int))).length)), (.bool false)] ((weak_nilV_ 8 42 (.slice .int) (by kernel_rfl)).trans ((weak_none_ (e1 := 42) (n := 0) 9000 (oi 8 10) 3 .int (by kernel_rfl) (by kernel_rfl) rfl (by kernel_rfl) (by kernel_rfl)).trans (weak_ren (tl := [(8, (.own (oi 0 1) (.slice .int) 0 (([] : List (List Int))).length)), (9, (.bool false))]) (g := 2) [((oi 0 1), (oi 8 10)), ((oi 1 1), (oi 9000 11))])))
 refine awp_condF_ q5 ?_
 refine awp_skip_ (tn_ ?_)
 refine wr_ ?_
 refine awp_seqv_ ?_
 obtain ⟨y8, h8, h⟩ := ob_some h
 obtain ⟨y9, h9, h⟩ := ob_some h
 obtain ⟨y10, h10, h⟩ := ob_some h
 obtain ⟨y11, h11, h⟩ := ob_some h
 refine awp_region_ 19 ?_
 refine rz0 (.tree (.slice .int) a1) ?_
 refine rz0 (.tree .int a3) ?_
 refine rcallM (.own (oi 304 10) (.slice .int) 0 y8.length) [((oi 304 10), some (.mat 42 (oi 305 10) .int y8)), ((oi 305 10), some (.pool 3 .int y8))] [] [(.tree (.slice .int) a1), (.tree .int a3)] (caps := []) trivial (ok_impl_chosenAll h8) hb_impl_chosenAll trivial (.cons (.ren (by kernel_rfl)) (.cons (.ren (by kernel_rfl)) .nil)) (reachL_mem (by kernel_rfl) (by kernel_rfl) trivial) ?_
 refine rz0 (.tree (.slice .int) a1) ?_
 refine rz0 (ai a2) ?_
 refine zc (.own (oi 352 13) .int 0 y9.length) [((oi 352 13), some (.arr 3 .int y9))] [(ai a2)] (ok_impl_upTo h9) ?_
 refine rz0 (.tree .int a3) ?_
 refine rcall (.own (oi 384 15) .int 0 y10.length) [((oi 384 15), some (.arr 3 .int y10))] [(.own (oi 352 13) .int 0 y9.length), (.tree .int a3)] _ (caps := []) (args0 := [(.tree .int y9), (.tree .int a3)]) trivial (gm_cons (gd_own (e := 3) (by kernel_rfl) rfl) (gm_cons (by kernel_rfl) gm_nil)) (ok_impl_others h10) hb_impl_others ?_
 refine rcallM (.own (oi 400 16) (.slice .int) 0 y11.length) [((oi 400 16), some (.mat 42 (oi 401 16) .int y11)), ((oi 401 16), some (.pool 3 .int y11))] [] [(.tree (.slice .int) a1), (.own (oi 384 15) .int 0 y10.length)] (caps := []) trivial (ok_impl_chosenAll h11) hb_impl_chosenAll trivial (.cons (.ren (by kernel_rfl)) (.cons (.gnd (by kernel_rfl) (gd_own (e := 3) ((less_at (by kernel_rfl) (by kernel_rfl) (by kernel_rfl)).trans (by kernel_rfl)) rfl)) .nil)) (reachL_mem (by kernel_rfl) (by kernel_rfl) trivial) ?_
 refine rsB 2 ?_
 refine rnil (tn_ ?_)
 refine wr_ ?_
 refine awp_seqv_ ?_
 refine awp_seqv_ ?_
 obtain ⟨y14, h14, h⟩ := ob_some h
 obtain ⟨g15, h⟩ := og_some h
 obtain ⟨g16, h⟩ := og_some h
 refine awp_region_ 28 ?_
 refine rz0 (ai a0) ?_
 refine rz0 (.own (oi 304 10) (.slice .int) 0 y8.length) ?_
 refine rz0 (.tree .int a3) ?_
 refine rz0 (ai ((a3.length : Nat) : Int)) ?_
 refine rz0 (.own (oi 400 16) (.slice .int) 0 y11.length) ?_
 refine rcallM (ai ((y14.2.2 : Nat) : Int)) [((oi 304 10), some (.mat 42 (oi 496 24) .int y14.1)), ((oi 496 24), some (.pool 3 .int y14.1)), ((oi 400 16), some (.mat 42 (oi 497 24) .int y14.2.1)), ((oi 497 24), some (.pool 3 .int y14.2.1)), ((oi 304 10), none), ((oi 305 10), some (.pool 3 .int [])), ((oi 400 16), none), ((oi 401 16), some (.pool 3 .int []))] [((oi 0 0), (oi 304 10)), ((oi 1 0), (oi 305 10)), ((oi 2 0), (oi 400 16)), ((oi 3 0), (oi 401 16))] [(ai a0), (.own (oi 304 10) (.slice .int) 0 y8.length), (ai ((a3.length : Nat) : Int)), (.own (oi 400 16) (.slice .int) 0 y11.length)] (caps := []) trivial (ok_impl_reduction h14 rfl rfl) hb_impl_reduction ⟨(by kernel_rfl), ⟨(by kernel_rfl), ⟨(by kernel_rfl), ⟨(by kernel_rfl), trivial⟩⟩⟩⟩ (.cons (.ren (by kernel_rfl)) (.cons (.ren (by kernel_rfl)) (.cons (.ren (by kernel_rfl)) (.cons (.ren (by kernel_rfl)) .nil)))) (reachL_mem (by kernel_rfl) (by kernel_rfl) ⟨(re_arg (by kernel_rfl)), ⟨re_rows (o := (oi 304 10)) (p := (oi 305 10)) (e1 := 42) (m := y8.length) (u := .int) (xss := y8) (re_arg (by kernel_rfl)) (by kernel_rfl), ⟨(re_arg (by kernel_rfl)), ⟨re_rows (o := (oi 400 16)) (p := (oi 401 16)) (e1 := 42) (m := y11.length) (u := .int) (xss := y11) (re_arg (by kernel_rfl)) (by kernel_rfl), trivial⟩⟩⟩⟩) ?_
 refine rsB 3 ?_
 refine rnil (tn_ ?_)
 refine wr_ ?_
 rcases cond_some h with ⟨q17, h⟩ | ⟨q17, h⟩
 ·have q17_ := of_decide_eq_true q17
  refine awp_condT_ q17 ?_
  refine seqR ?_
  refine awp_ret_ (tr_ ?_)
  obtain rfl := zj h
  exact retM_ [(.own (oi 0 1) (.slice .int) 0 ((([] : List (List Int))).length)), (.bool false)] ((weak_nilV_ 8 42 (.slice .int) (by kernel_rfl)).trans ((weak_none_ (e1 := 42) (n := 0) 9000 (oi 8 30) 3 .int (by kernel_rfl) (by kernel_rfl) rfl (by kernel_rfl) (by kernel_rfl)).trans (weak_ren (tl := [(8, (.own (oi 0 1) (.slice .int) 0 (([] : List (List Int))).length)), (9, (.bool false))]) (g := 2) [((oi 0 1), (oi 8 30)), ((oi 1 1), (oi 9000 31))])))
 have q17_ := of_decide_eq_false q17
 refine awp_condF_ q17 ?_
 refine awp_skip_ (tn_ ?_)
 refine wr_ ?_
 refine seqR ?_
 refine awp_ret_ ?_
 obtain rfl := zj h
 exact retM_ [(.own (oi 0 1) (.slice .int) 0 y14.2.1.length), (.bool true)] ((weak_tm_ 8 (.own (oi 400 16) (.slice .int) 0 y11.length) (.own (oi 400 16) (.slice .int) 0 y14.2.1.length) (by kernel_rfl) (congrArg (fun z_ => ((.own (oi 400 16) (.slice .int) 0 z_) : AV)) (g16.symm : y11.length = y14.2.1.length))).trans (weak_ren (tl := [(8, (.own (oi 0 1) (.slice .int) 0 y14.2.1.length)), (9, (.bool true))]) (g := 2) [((oi 0 1), (oi 400 16)), ((oi 1 1), (oi 497 24))]))
end Go.Proofs.YtedphkkbjpcjeaaDoor
