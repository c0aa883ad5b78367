/- Partial functions in place of code, and that the code does what they say: MB. No condition. -/
import Derived.Test.YtefolocdfgelcaaDoorNB
namespace Go.Proofs.YtefolocdfgelcaaDoor
open Go.RowKit Go.Deep
set_option maxRecDepth 4000
def m_laws_eqIntSS_l1 : AC :=
  (.seq (.seq (.region [⟨(some 11), none, (.i (.mov (.tmp 5)))⟩, ⟨(some 12), none, (.i (.mov (.tmp 0)))⟩, ⟨(some 13), none, (.i (.len (.tmp 12)))⟩, ⟨(some 14), none, (.i (.bin .lss (.tmp 11) (.tmp 13)))⟩] false [])
  (.cond (.tmp 14)
    .skip
    (.exit 0)))
  (.seq (.block 1 (.seq (.region [⟨(some 17), none, (.i (.mov (.tmp 0)))⟩, ⟨(some 18), none, (.i (.mov (.tmp 5)))⟩, ⟨(some 19), none, (.i (.idx 1 (.tmp 17) (.tmp 18)))⟩, ⟨(some 20), none, (.i (.ld true 1 (.tmp 19)))⟩, ⟨(some 21), none, (.i (.mov (.tmp 1)))⟩, ⟨(some 22), none, (.i (.mov (.tmp 5)))⟩, ⟨(some 23), none, (.i (.idx 1 (.tmp 21) (.tmp 22)))⟩, ⟨(some 24), none, (.i (.ld true 1 (.tmp 23)))⟩, ⟨(some 25), none, (.call (.cst (.fn 20 [])) [(.tmp 20), (.tmp 24)] [[(some .int)], [(some .int)]])⟩, ⟨(some 26), none, (.i (.not (.tmp 25)))⟩] true [])
  (.cond (.tmp 26)
    (.seq (.region [⟨(some 4), none, (.i (.mov (.cst (.bool false))))⟩] false [])
    .ret)
    .skip)))
  (.region [⟨(some 15), none, (.i (.mov (.tmp 5)))⟩, ⟨(some 16), none, (.i (.bin .add (.tmp 15) (.cst (.int .i64 1))))⟩, ⟨(some 5), none, (.i (.mov (.tmp 16)))⟩] false [])))
def m_laws_eqIntSS : AC :=
  (.seq (.region [⟨(some 4), none, (.i (.mov (.cst (.bool false))))⟩] false [])
  (.seq (.seq (.region [⟨(some 6), none, (.i (.mov (.tmp 0)))⟩, ⟨(some 7), none, (.i (.len (.tmp 6)))⟩, ⟨(some 8), none, (.i (.mov (.tmp 1)))⟩, ⟨(some 9), none, (.i (.len (.tmp 8)))⟩, ⟨(some 10), none, (.i (.bin .neq (.tmp 7) (.tmp 9)))⟩] false [])
  (.cond (.tmp 10)
    (.seq (.region [⟨(some 4), none, (.i (.mov (.cst (.bool false))))⟩] false [])
    .ret)
    .skip))
  (.seq (.seq (.region [⟨(some 5), none, (.i (.mov (.cst (.int .i64 0))))⟩] false [])
  (.block 0 (.loop m_laws_eqIntSS_l1)))
  (.seq (.region [⟨(some 4), none, (.i (.mov (.cst (.bool true))))⟩] false [])
  .ret))))
def r_laws_eqIntSS : List Res := [.tmp 4]
theorem c_laws_eqIntSS : compiled Tryd.prog Tryd.f61 = some (m_laws_eqIntSS, r_laws_eqIntSS) := by kernel_rfl
theorem hb_laws_eqIntSS : hasBody Tryd.prog 61 = true := by kernel_rfl
def L_laws_eqIntSS_l1 (a0 : List (List Int)) (a1 : List (List Int)) (l8_m5 : Nat) : Option (Ctl Nat (Ctl Unit Bool)) :=
  cond (decide (((l8_m5 : Nat) : Int) < ((a0.length : Nat) : Int)))
  (Option.bind (a0[l8_m5]?) fun x14 =>
  Option.bind (a1[l8_m5]?) fun x15 =>
  Option.bind (L_laws_eqIntS x14 x15) fun y16 =>
  cond (!y16)
    (some (Ctl.out (Ctl.out false)))
    (og (l8_m5 + 1 < 4611686018427387904) <|
    some (Ctl.next (l8_m5 + 1))))
  (some (Ctl.out (Ctl.next ())))
def L_laws_eqIntSS (a0 : List (List Int)) (a1 : List (List Int)) : Option Bool :=
  cond (((a0.length : Nat) : Int) != ((a1.length : Nat) : Int))
  (some false)
  (seqC (loopM (fun s_ : Nat => L_laws_eqIntSS_l1 a0 a1 s_) 4611686018427387904 0) fun _ =>
  some true)
def rv_laws_eqIntSS (r : Bool) : RV := ⟨false, [(false, [.sc (.bool r)])]⟩
theorem ok_laws_eqIntSS {a0 : List (List Int)} {a1 : List (List Int)} {r : Bool} (h : L_laws_eqIntSS a0 a1 = some r) : CallOK Tryd.prog Tab 61 [(.tree (.slice .int) a0), (.tree (.slice .int) a1)] (rv_laws_eqIntSS r) := by
  refine call_of_ (by kernel_rfl) Tryd.func61 c_laws_eqIntSS (n := 27) (by kernel_rfl) (by simp) (tl := [(0, (.tree (.slice .int) a0)), (1, (.tree (.slice .int) a1))]) rfl ?_
  unfold m_laws_eqIntSS
  unfold L_laws_eqIntSS at h
  refine awp_seqv_ ?_
  refine awp_region_ 2 (by kernel_rfl) ?_
  refine rs0 (.bool false) (by kernel_rfl) ?_
  refine rnil (tn_ ?_)
  refine ⟨_, Weak.refl _, ?_⟩
  refine awp_seqv_ ?_
  refine awp_seqv_ ?_
  refine awp_region_ 7 (by kernel_rfl) ?_
  refine rs0 (.tree (.slice .int) a0) (by kernel_rfl) ?_
  refine rs0 (.int .i64 ((a0.length : Nat) : Int)) (by kernel_rfl) ?_
  refine rs0 (.tree (.slice .int) a1) (by kernel_rfl) ?_
  refine rs0 (.int .i64 ((a1.length : Nat) : Int)) (by kernel_rfl) ?_
  refine rs0 (.bool (((a0.length : Nat) : Int) != ((a1.length : Nat) : Int))) (by kernel_rfl) ?_
  refine rnil (tn_ ?_)
  refine ⟨_, Weak.refl _, ?_⟩
  rcases cond_some h with ⟨q4, h⟩ | ⟨q4, h⟩
  · refine awp_condT_ q4 (by kernel_rfl) ?_
    refine awp_seqv_ ?_
    refine awp_region_ 8 (by kernel_rfl) ?_
    refine rs0 (.bool false) (by kernel_rfl) ?_
    refine rnil (tn_ ?_)
    refine ⟨_, Weak.refl _, ?_⟩
    refine awp_ret_ (tr_ ?_)
    obtain rfl := Option.some.inj h
    exact ret_ [(.bool false)] (by simp) (by kernel_rfl) (p_one rfl (l_sc (by kernel_rfl)) p_nil) (by kernel_rfl) (by kernel_rfl)
  · refine awp_condF_ q4 (by kernel_rfl) ?_
    refine awp_skip_ (tn_ ?_)
    refine ⟨_, Weak.refl _, ?_⟩
    refine awp_seqC h (fun (_ : Unit) S_ => S_ = ⟨mkTm [], mkOb (someL []), 2⟩) ?_ ?_
    · intro v_ h hk6
      refine awp_seqv_ ?_
      refine awp_region_ 8 (by kernel_rfl) ?_
      refine rs0 (.int .i64 0) (by kernel_rfl) ?_
      refine rnil (tn_ ?_)
      refine ⟨_, Weak.refl _, ?_⟩
      refine awp_block_ ?_
      refine awp_loopL h (fun (l8_m5 : Nat) S_ => S_ = ⟨mkTm [(0, (.tree (.slice .int) a0)), (1, (.tree (.slice .int) a1)), (5, (.int .i64 ((l8_m5 : Nat) : Int)))], mkOb (someL []), 2⟩) ⟨_, (weak_ren [] (by kernel_rfl) (obsR_of (by kernel_rfl)) (by kernel_rfl)), rfl⟩ ?_
      · rintro n_ l8_m5 _ c_ rfl h hn8
        (try dsimp only at h)
        unfold L_laws_eqIntSS_l1 at h
        unfold m_laws_eqIntSS_l1
        refine awp_seqv_ ?_
        refine awp_seqv_ ?_
        refine awp_region_ 6 (by kernel_rfl) ?_
        refine rs0 (.int .i64 ((l8_m5 : Nat) : Int)) (by kernel_rfl) ?_
        refine rs0 (.tree (.slice .int) a0) (by kernel_rfl) ?_
        refine rs0 (.int .i64 ((a0.length : Nat) : Int)) (by kernel_rfl) ?_
        refine rs0 (.bool (decide (((l8_m5 : Nat) : Int) < ((a0.length : Nat) : Int)))) (by kernel_rfl) ?_
        refine rnil (tn_ ?_)
        refine ⟨_, Weak.refl _, ?_⟩
        rcases cond_some h with ⟨q11, h⟩ | ⟨q11, h⟩
        · have q11_ := of_decide_eq_true q11
          refine awp_condT_ q11 (by kernel_rfl) ?_
          refine awp_skip_ (tn_ ?_)
          refine ⟨_, Weak.refl _, ?_⟩
          refine awp_seqv_ ?_
          refine awp_block_ ?_
          refine awp_seqv_ ?_
          obtain ⟨x14, e14, h⟩ := ob_some h
          obtain ⟨x15, e15, h⟩ := ob_some h
          obtain ⟨y16, h16, h⟩ := ob_some h
          refine awp_regionD_ 16 (by kernel_rfl) ?_
          refine ds0 (.tree (.slice .int) a0) (by kernel_rfl) ?_
          refine ds0 (.int .i64 ((l8_m5 : Nat) : Int)) (by kernel_rfl) ?_
          refine ds0 (.telt (.slice .int) x14 0) (s_idxT (t := (.slice .int)) (xs := a0) (k := .i64) (m := ((l8_m5 : Nat) : Int)) (by kernel_rfl) (by kernel_rfl) rfl (nat_nn _) rfl e14) ?_
          refine ds0 (.tree .int x14) (by kernel_rfl) ?_
          refine ds0 (.tree (.slice .int) a1) (by kernel_rfl) ?_
          refine ds0 (.int .i64 ((l8_m5 : Nat) : Int)) (by kernel_rfl) ?_
          refine ds0 (.telt (.slice .int) x15 0) (s_idxT (t := (.slice .int)) (xs := a1) (k := .i64) (m := ((l8_m5 : Nat) : Int)) (by kernel_rfl) (by kernel_rfl) rfl (nat_nn _) rfl e15) ?_
          refine ds0 (.tree .int x15) (by kernel_rfl) ?_
          refine dcall (.bool y16) [] [(.tree .int x14), (.tree .int x15)] _ (caps := []) (args0 := [(.tree .int x14), (.tree .int x15)]) trivial (by kernel_rfl) (by kernel_rfl) (by kernel_rfl) (by kernel_rfl) (ok_laws_eqIntS h16) hb_laws_eqIntS (by kernel_rfl) ?_
          refine ds0 (.bool (!y16)) (by kernel_rfl) ?_
          refine dnil (badB_spec (by kernel_rfl)) (tn_ ?_)
          refine ⟨_, Weak.refl _, ?_⟩
          rcases cond_some h with ⟨q17, h⟩ | ⟨q17, h⟩
          · refine awp_condT_ q17 (by kernel_rfl) ?_
            refine awp_seqv_ ?_
            refine awp_region_ 17 (by kernel_rfl) ?_
            refine rs0 (.bool false) (by kernel_rfl) ?_
            refine rnil (tn_ ?_)
            refine ⟨_, Weak.refl _, ?_⟩
            refine awp_ret_ (br_ (tr_ (tr_ (br_ (tr_ ?_)))))
            obtain rfl := Option.some.inj h
            have h := hn8
            (try dsimp only at h)
            obtain rfl := Option.some.inj h
            have h := hk6
            (try dsimp only at h)
            obtain rfl := Option.some.inj h
            exact ret_ [(.bool false)] (by simp) (by kernel_rfl) (p_one rfl (l_sc (by kernel_rfl)) p_nil) (by kernel_rfl) (by kernel_rfl)
          · refine awp_condF_ q17 (by kernel_rfl) ?_
            refine awp_skip_ (bn_ (tn_ ?_))
            refine ⟨_, Weak.refl _, ?_⟩
            obtain ⟨g19, h⟩ := og_some h
            refine awp_region_ 19 (by kernel_rfl) ?_
            refine rs0 (.int .i64 ((l8_m5 : Nat) : Int)) (by kernel_rfl) ?_
            refine rs0 (.int .i64 ((l8_m5 + 1 : Nat) : Int)) (s_add1 (j := l8_m5) (by kernel_rfl) (by kernel_rfl) g19) ?_
            refine rs0 (.int .i64 ((l8_m5 + 1 : Nat) : Int)) (by kernel_rfl) ?_
            refine rnil (tn_ ?_)
            obtain rfl := Option.some.inj h
            exact ⟨l8_m5 + 1, _, (weak_ren [] (by kernel_rfl) (obsR_of (by kernel_rfl)) (by kernel_rfl)), rfl, hn8⟩
        · have q11_ := of_decide_eq_false q11
          refine awp_condF_ q11 (by kernel_rfl) ?_
          refine awp_exit_ (te_ (te_ (be_ (tn_ ?_))))
          obtain rfl := Option.some.inj h
          have h := hn8
          (try dsimp only at h)
          obtain rfl := Option.some.inj h
          exact ⟨(), _, rfl, (weak_ren [] (by kernel_rfl) (obsR_of (by kernel_rfl)) (by kernel_rfl)), rfl⟩
    · rintro _ _ rfl h
      (try dsimp only at h)
      refine awp_seqv_ ?_
      refine awp_region_ 3 (by kernel_rfl) ?_
      refine rs0 (.bool true) (by kernel_rfl) ?_
      refine rnil (tn_ ?_)
      refine ⟨_, Weak.refl _, ?_⟩
      refine awp_ret_ ?_
      obtain rfl := Option.some.inj h
      exact ret_ [(.bool true)] (by simp) (by kernel_rfl) (p_one rfl (l_sc (by kernel_rfl)) p_nil) (by kernel_rfl) (by kernel_rfl)
def m_laws_eqMatrix : AC :=
  (.seq (.region [⟨(some 2), none, (.i (.box 44 (.tmp 0)))⟩, ⟨(some 3), none, (.i (.box 44 (.tmp 1)))⟩, ⟨(some 4), none, (.i (.mov (.cst (.bool false))))⟩] false [])
  (.seq (.seq (.region [⟨(some 5), none, (.i (.fld 0 (.tmp 2)))⟩, ⟨(some 6), none, (.i (.ld true 1 (.tmp 5)))⟩, ⟨(some 7), none, (.i (.fld 0 (.tmp 3)))⟩, ⟨(some 8), none, (.i (.ld true 1 (.tmp 7)))⟩, ⟨(some 9), none, (.i (.bin .neq (.tmp 6) (.tmp 8)))⟩] false [])
  (.cond (.tmp 9)
    (.seq (.region [⟨(some 4), none, (.i (.mov (.cst (.bool false))))⟩] false [])
    .ret)
    .skip))
  (.seq (.seq (.region [⟨(some 10), none, (.i (.fld 1 (.tmp 2)))⟩, ⟨(some 11), none, (.i (.ld true 1 (.tmp 10)))⟩, ⟨(some 12), none, (.i (.fld 1 (.tmp 3)))⟩, ⟨(some 13), none, (.i (.ld true 1 (.tmp 12)))⟩, ⟨(some 14), none, (.call (.cst (.fn 61 [])) [(.tmp 11), (.tmp 13)] [[(some (.slice .int))], [(some (.slice .int))]])⟩, ⟨(some 15), none, (.i (.not (.tmp 14)))⟩] false [])
  (.cond (.tmp 15)
    (.seq (.region [⟨(some 4), none, (.i (.mov (.cst (.bool false))))⟩] false [])
    .ret)
    .skip))
  (.seq (.region [⟨(some 4), none, (.i (.mov (.cst (.bool true))))⟩] false [])
  .ret))))
def r_laws_eqMatrix : List Res := [.tmp 4]
theorem c_laws_eqMatrix : compiled Tryd.prog Tryd.f27 = some (m_laws_eqMatrix, r_laws_eqMatrix) := by kernel_rfl
theorem hb_laws_eqMatrix : hasBody Tryd.prog 27 = true := by kernel_rfl
def L_laws_eqMatrix (a0_0 : Int) (a0_1 : List (List Int)) (a1_0 : Int) (a1_1 : List (List Int)) : Option Bool :=
  cond (a0_0 != a1_0)
  (some false)
  (Option.bind (L_laws_eqIntSS a0_1 a1_1) fun y8 =>
  cond (!y8)
    (some false)
    (some true))
def rv_laws_eqMatrix (r : Bool) : RV := ⟨false, [(false, [.sc (.bool r)])]⟩
theorem ok_laws_eqMatrix {a0_0 : Int} {a0_1 : List (List Int)} {a1_0 : Int} {a1_1 : List (List Int)} {r : Bool} (h : L_laws_eqMatrix a0_0 a0_1 a1_0 a1_1 = some r) : CallOK Tryd.prog Tab 27 [(.agg [(.int .i64 a0_0), (.tree (.slice .int) a0_1)]), (.agg [(.int .i64 a1_0), (.tree (.slice .int) a1_1)])] (rv_laws_eqMatrix r) := by
  refine call_of_ (by kernel_rfl) Tryd.func27 c_laws_eqMatrix (n := 16) (by kernel_rfl) (by simp) (tl := [(0, (.agg [(.int .i64 a0_0), (.tree (.slice .int) a0_1)])), (1, (.agg [(.int .i64 a1_0), (.tree (.slice .int) a1_1)]))]) rfl ?_
  unfold m_laws_eqMatrix
  unfold L_laws_eqMatrix at h
  refine awp_seqv_ ?_
  refine awp_region_ 4 (by kernel_rfl) ?_
  refine rs1 (.box ((2, 0), 1) 0) ((2, 0), 1) (.cells 44 [(.int .i64 a0_0), (.tree (.slice .int) a0_1)]) (by kernel_rfl) ?_
  refine rs1 (.box ((3, 0), 2) 0) ((3, 0), 2) (.cells 44 [(.int .i64 a1_0), (.tree (.slice .int) a1_1)]) (by kernel_rfl) ?_
  refine rs0 (.bool false) (by kernel_rfl) ?_
  refine rnil (tn_ ?_)
  refine ⟨_, Weak.refl _, ?_⟩
  refine awp_seqv_ ?_
  refine awp_seqv_ ?_
  refine awp_region_ 9 (by kernel_rfl) ?_
  refine rs0 (.box ((2, 0), 1) 0) (by kernel_rfl) ?_
  refine rsl (.int .i64 a0_0) (by kernel_rfl) ?_
  refine rs0 (.box ((3, 0), 2) 0) (by kernel_rfl) ?_
  refine rsl (.int .i64 a1_0) (by kernel_rfl) ?_
  refine rs0 (.bool (a0_0 != a1_0)) (by kernel_rfl) ?_
  refine rnil (tn_ ?_)
  refine ⟨_, Weak.refl _, ?_⟩
  rcases cond_some h with ⟨q4, h⟩ | ⟨q4, h⟩
  · refine awp_condT_ q4 (by kernel_rfl) ?_
    refine awp_seqv_ ?_
    refine awp_region_ 10 (by kernel_rfl) ?_
    refine rs0 (.bool false) (by kernel_rfl) ?_
    refine rnil (tn_ ?_)
    refine ⟨_, Weak.refl _, ?_⟩
    refine awp_ret_ (tr_ ?_)
    obtain rfl := Option.some.inj h
    exact ret_ [(.bool false)] (by simp) (by kernel_rfl) (p_one rfl (l_sc (by kernel_rfl)) p_nil) (by kernel_rfl) (by kernel_rfl)
  · refine awp_condF_ q4 (by kernel_rfl) ?_
    refine awp_skip_ (tn_ ?_)
    refine ⟨_, Weak.refl _, ?_⟩
    refine awp_seqv_ ?_
    refine awp_seqv_ ?_
    obtain ⟨y8, h8, h⟩ := ob_some h
    refine awp_region_ 15 (by kernel_rfl) ?_
    refine rs0 (.box ((2, 0), 1) 1) (by kernel_rfl) ?_
    refine rsl (.tree (.slice .int) a0_1) (by kernel_rfl) ?_
    refine rs0 (.box ((3, 0), 2) 1) (by kernel_rfl) ?_
    refine rsl (.tree (.slice .int) a1_1) (by kernel_rfl) ?_
    refine rcall (.bool y8) [] [(.tree (.slice .int) a0_1), (.tree (.slice .int) a1_1)] _ (caps := []) (args0 := [(.tree (.slice .int) a0_1), (.tree (.slice .int) a1_1)]) trivial (by kernel_rfl) (by kernel_rfl) (by kernel_rfl) (by kernel_rfl) (ok_laws_eqIntSS h8) hb_laws_eqIntSS (by kernel_rfl) ?_
    refine rs0 (.bool (!y8)) (by kernel_rfl) ?_
    refine rnil (tn_ ?_)
    refine ⟨_, Weak.refl _, ?_⟩
    rcases cond_some h with ⟨q9, h⟩ | ⟨q9, h⟩
    · refine awp_condT_ q9 (by kernel_rfl) ?_
      refine awp_seqv_ ?_
      refine awp_region_ 16 (by kernel_rfl) ?_
      refine rs0 (.bool false) (by kernel_rfl) ?_
      refine rnil (tn_ ?_)
      refine ⟨_, Weak.refl _, ?_⟩
      refine awp_ret_ (tr_ ?_)
      obtain rfl := Option.some.inj h
      exact ret_ [(.bool false)] (by simp) (by kernel_rfl) (p_one rfl (l_sc (by kernel_rfl)) p_nil) (by kernel_rfl) (by kernel_rfl)
    · refine awp_condF_ q9 (by kernel_rfl) ?_
      refine awp_skip_ (tn_ ?_)
      refine ⟨_, Weak.refl _, ?_⟩
      refine awp_seqv_ ?_
      refine awp_region_ 16 (by kernel_rfl) ?_
      refine rs0 (.bool true) (by kernel_rfl) ?_
      refine rnil (tn_ ?_)
      refine ⟨_, Weak.refl _, ?_⟩
      refine awp_ret_ ?_
      obtain rfl := Option.some.inj h
      exact ret_ [(.bool true)] (by simp) (by kernel_rfl) (p_one rfl (l_sc (by kernel_rfl)) p_nil) (by kernel_rfl) (by kernel_rfl)
def m_laws_markIntSS_l1 : AC :=
  (.seq (.seq (.region [⟨(some 6), none, (.i (.mov (.tmp 5)))⟩, ⟨(some 7), none, (.i (.mov (.tmp 0)))⟩, ⟨(some 8), none, (.i (.len (.tmp 7)))⟩, ⟨(some 9), none, (.i (.bin .lss (.tmp 6) (.tmp 8)))⟩] false [])
  (.cond (.tmp 9)
    .skip
    (.exit 0)))
  (.seq (.block 1 (.region [⟨(some 12), none, (.i (.mov (.tmp 0)))⟩, ⟨(some 13), none, (.i (.mov (.tmp 5)))⟩, ⟨(some 14), none, (.i (.idx 1 (.tmp 12) (.tmp 13)))⟩, ⟨(some 15), none, (.i (.ld true 1 (.tmp 14)))⟩, ⟨(some 16), none, (.i (.mov (.tmp 1)))⟩, ⟨(some 17), none, (.call (.cst (.fn 56 [])) [(.tmp 15), (.tmp 16)] [[(some .int)], []])⟩, ⟨(some 1), none, (.i (.mov (.tmp 17)))⟩] false []))
  (.region [⟨(some 10), none, (.i (.mov (.tmp 5)))⟩, ⟨(some 11), none, (.i (.bin .add (.tmp 10) (.cst (.int .i64 1))))⟩, ⟨(some 5), none, (.i (.mov (.tmp 11)))⟩] false [])))
def m_laws_markIntSS : AC :=
  (.seq (.region [⟨(some 4), none, (.i (.mov (.cst (.int .i64 0))))⟩] false [])
  (.seq (.seq (.region [⟨(some 5), none, (.i (.mov (.cst (.int .i64 0))))⟩] false [])
  (.block 0 (.loop m_laws_markIntSS_l1)))
  (.seq (.region [⟨(some 18), none, (.i (.mov (.tmp 1)))⟩, ⟨(some 4), none, (.i (.mov (.tmp 18)))⟩] false [])
  .ret)))
def r_laws_markIntSS : List Res := [.tmp 4]
theorem c_laws_markIntSS : compiled Tryd.prog Tryd.f62 = some (m_laws_markIntSS, r_laws_markIntSS) := by kernel_rfl
theorem hb_laws_markIntSS : hasBody Tryd.prog 62 = true := by kernel_rfl
def L_laws_markIntSS_l1  (l5_m1 : Int) (l5_m5 : Nat) (l5_m0 : List (List Int)) : Option (Ctl (Int × Nat × List (List Int)) (Int × List (List Int))) :=
  cond (decide (((l5_m5 : Nat) : Int) < ((l5_m0.length : Nat) : Int)))
  (Option.bind (l5_m0[l5_m5]?) fun x10 =>
  Option.bind (L_laws_markIntS x10 l5_m1) fun y11 =>
  og (y11.1.length = x10.length) <|
  og (l5_m5 + 1 < 4611686018427387904) <|
  some (Ctl.next (y11.2, l5_m5 + 1, l5_m0.set l5_m5 y11.1)))
  (some (Ctl.out (l5_m1, l5_m0)))
def L_laws_markIntSS (a0 : List (List Int)) (a1 : Int) : Option (List (List Int) × Int) :=
  Option.bind (loopM (fun s_ : Int × Nat × List (List Int) => L_laws_markIntSS_l1 s_.1 s_.2.1 s_.2.2) 4611686018427387904 (a1, 0, a0)) fun (l3_m1, l3_p0) =>
some (l3_p0, l3_m1)
theorem ok_laws_markIntSS {a0 : List (List Int)} {a1 : Int} {r : List (List Int) × Int} (h : L_laws_markIntSS a0 a1 = some r) {n_a0 : Nat} (hn_a0 : n_a0 = a0.length) : CallM Tryd.prog Tab 62 [(.own ((0, 0), 0) (.slice .int) 0 n_a0), (.int .i64 a1)] [(((0, 0), 0), .mat 23 ((1, 0), 0) .int a0), (((1, 0), 0), .pool 3 .int a0)] (.int .i64 r.2) [(((0, 0), 0), .mat 23 ((0, 0), 1) .int r.1), (((0, 0), 1), .pool 3 .int r.1)] := by
  refine callM_of_ (by kernel_rfl) Tryd.func62 c_laws_markIntSS (n := 19) (by kernel_rfl) (by simp) (tl := [(0, (.own ((0, 0), 0) (.slice .int) 0 n_a0)), (1, (.int .i64 a1))]) rfl (by kernel_rfl) ⟨⟨3, (.tail _ (.head _))⟩, ⟨trivial, trivial⟩⟩ ⟨⟨3, (.tail _ (.head _))⟩, ⟨trivial, trivial⟩⟩ ?_
  unfold m_laws_markIntSS
  unfold L_laws_markIntSS at h
  refine awp_seqv_ ?_
  refine awp_region_ 2 (by kernel_rfl) ?_
  refine rs0 (.int .i64 0) (by kernel_rfl) ?_
  refine rnil (tn_ ?_)
  refine ⟨_, Weak.refl _, ?_⟩
  refine awp_seqB h (fun t_ S_ => ∃ (l3_m1 : Int), ∃ (l3_p0 : List (List Int)), t_ = (l3_m1, l3_p0) ∧ S_ = ⟨mkTm [(1, (.int .i64 l3_m1))], mkOb (someL [(((0, 0), 0), .mat 23 ((0, 0), 1) .int l3_p0), (((0, 0), 1), .pool 3 .int l3_p0)]), 2⟩) ?_ ?_
  · intro v_ h
    refine awp_seqv_ ?_
    refine awp_region_ 3 (by kernel_rfl) ?_
    refine rs0 (.int .i64 0) (by kernel_rfl) ?_
    refine rnil (tn_ ?_)
    refine ⟨_, Weak.refl _, ?_⟩
    refine awp_block_ ?_
    refine awp_loopL h (fun t_ S_ => ∃ (l5_m1 : Int), ∃ (l5_m5 : Nat), ∃ (l5_m0 : List (List Int)), t_ = (l5_m1, l5_m5, l5_m0) ∧ S_ = ⟨mkTm [(0, (.own ((0, 0), 0) (.slice .int) 0 l5_m0.length)), (1, (.int .i64 l5_m1)), (5, (.int .i64 ((l5_m5 : Nat) : Int)))], mkOb (someL [(((0, 0), 0), .mat 23 ((0, 0), 1) .int l5_m0), (((0, 0), 1), .pool 3 .int l5_m0)]), 2⟩) ⟨_, ((weak_tm_ 0 (.own ((0, 0), 0) (.slice .int) 0 n_a0) (.own ((0, 0), 0) (.slice .int) 0 a0.length) (by kernel_rfl) (congrArg (fun z_ => ((.own ((0, 0), 0) (.slice .int) 0 z_) : AV)) (hn_a0 : n_a0 = a0.length))).trans (weak_ren [(((0, 0), 1), ((1, 0), 0))] (by kernel_rfl) (obsR_of (by kernel_rfl)) (by kernel_rfl))), ⟨a1, 0, a0, rfl, rfl⟩⟩ ?_
    · rintro n_ _ _ c_ ⟨l5_m1, l5_m5, l5_m0, rfl, rfl⟩ h hn5
      (try dsimp only at h)
      unfold L_laws_markIntSS_l1 at h
      unfold m_laws_markIntSS_l1
      refine awp_seqv_ ?_
      refine awp_seqv_ ?_
      refine awp_region_ 6 (by kernel_rfl) ?_
      refine rs0 (.int .i64 ((l5_m5 : Nat) : Int)) (by kernel_rfl) ?_
      refine rs0 (.own ((0, 0), 0) (.slice .int) 0 l5_m0.length) (by kernel_rfl) ?_
      refine rs0 (.int .i64 ((l5_m0.length : Nat) : Int)) (by kernel_rfl) ?_
      refine rs0 (.bool (decide (((l5_m5 : Nat) : Int) < ((l5_m0.length : Nat) : Int)))) (by kernel_rfl) ?_
      refine rnil (tn_ ?_)
      refine ⟨_, Weak.refl _, ?_⟩
      rcases cond_some h with ⟨q8, h⟩ | ⟨q8, h⟩
      · have q8_ := of_decide_eq_true q8
        refine awp_condT_ q8 (by kernel_rfl) ?_
        refine awp_skip_ (tn_ ?_)
        refine ⟨_, Weak.refl _, ?_⟩
        refine awp_seqv_ ?_
        refine awp_block_ ?_
        obtain ⟨x10, e10, h⟩ := ob_some h
        obtain ⟨y11, h11, h⟩ := ob_some h
        obtain ⟨g12, h⟩ := og_some h
        refine awp_region_ 13 (by kernel_rfl) ?_
        refine rs0 (.own ((0, 0), 0) (.slice .int) 0 l5_m0.length) (by kernel_rfl) ?_
        refine rs0 (.int .i64 ((l5_m5 : Nat) : Int)) (by kernel_rfl) ?_
        refine rs0 (.elt ((0, 0), 0) l5_m5 0) (s_idxO (t := (.slice .int)) (o := ((0, 0), 0)) (len := l5_m0.length) (k := .i64) (m := ((l5_m5 : Nat) : Int)) (by kernel_rfl) (by kernel_rfl) rfl (nat_nn _) rfl (getN_lt e10)) ?_
        refine rsl (.own (kid ((0, 0), 1) l5_m5) .int 0 x10.length) (s_ldM (o := ((0, 0), 0)) (p := ((0, 0), 1)) (e1 := 23) (u := .int) (xss := l5_m0) (row := x10) (j := l5_m5) (by kernel_rfl) (by kernel_rfl) e10) ?_
        refine rs0 (.int .i64 l5_m1) (by kernel_rfl) ?_
        refine rcallM (.int .i64 y11.2) [((kid ((0, 0), 1) l5_m5), some (.arr 3 .int y11.1)), ((kid ((0, 0), 1) l5_m5), none)] [(((0, 0), 0), (kid ((0, 0), 1) l5_m5))] [(.own (kid ((0, 0), 1) l5_m5) .int 0 x10.length), (.int .i64 l5_m1)] (caps := []) trivial (by kernel_rfl) (by kernel_rfl) (ok_laws_markIntS h11 rfl) hb_laws_markIntS (by kernel_rfl) ⟨(entAt_kid (by kernel_rfl) e10), trivial⟩ (.cons (.ren (by kernel_rfl)) (.cons (.ren (by kernel_rfl)) .nil)) (reachL_mem (by kernel_rfl) (by kernel_rfl) ⟨(.arg (by simp [AV.nmsL, AV.nms, renF])), trivial⟩) (by kernel_rfl) (by kernel_rfl) ?_
        refine xw_ob (ob_row (o := ((0, 0), 0)) (p := ((0, 0), 1)) (e1 := 23) (e := 3) (u := .int) (xss := l5_m0) (k := l5_m5) (row := x10) (row' := y11.1) (by kernel_rfl) rfl (by kernel_rfl) e10 g12) ?_
        refine rs0 (.int .i64 y11.2) (by kernel_rfl) ?_
        refine rnil (bn_ (tn_ ?_))
        refine ⟨_, Weak.refl _, ?_⟩
        obtain ⟨g13, h⟩ := og_some h
        refine awp_region_ 16 (by kernel_rfl) ?_
        refine rs0 (.int .i64 ((l5_m5 : Nat) : Int)) (by kernel_rfl) ?_
        refine rs0 (.int .i64 ((l5_m5 + 1 : Nat) : Int)) (s_add1 (j := l5_m5) (by kernel_rfl) (by kernel_rfl) g13) ?_
        refine rs0 (.int .i64 ((l5_m5 + 1 : Nat) : Int)) (by kernel_rfl) ?_
        refine rnil (tn_ ?_)
        obtain rfl := Option.some.inj h
        exact ⟨(y11.2, l5_m5 + 1, l5_m0.set l5_m5 y11.1), _, ((weak_tm_ 0 (.own ((0, 0), 0) (.slice .int) 0 l5_m0.length) (.own ((0, 0), 0) (.slice .int) 0 ((l5_m0.set l5_m5 y11.1).length)) (by kernel_rfl) (congrArg (fun z_ => ((.own ((0, 0), 0) (.slice .int) 0 z_) : AV)) ((Eq.trans (b := l5_m0.length) rfl List.length_set.symm) : l5_m0.length = (l5_m0.set l5_m5 y11.1).length))).trans (weak_ren [] (by kernel_rfl) (obsR_of (by kernel_rfl)) (by kernel_rfl))), ⟨y11.2, l5_m5 + 1, l5_m0.set l5_m5 y11.1, rfl, rfl⟩, hn5⟩
      · have q8_ := of_decide_eq_false q8
        refine awp_condF_ q8 (by kernel_rfl) ?_
        refine awp_exit_ (te_ (te_ (be_ (tn_ ?_))))
        obtain rfl := Option.some.inj h
        have h := hn5
        (try dsimp only at h)
        obtain rfl := Option.some.inj h
        exact ⟨_, (weak_ren [] (by kernel_rfl) (obsR_of (by kernel_rfl)) (by kernel_rfl)), ⟨l5_m1, l5_m0, rfl, rfl⟩⟩
  · rintro _ _ ⟨l3_m1, l3_p0, rfl, rfl⟩ h
    (try dsimp only at h)
    refine awp_seqv_ ?_
    refine awp_region_ 4 (by kernel_rfl) ?_
    refine rs0 (.int .i64 l3_m1) (by kernel_rfl) ?_
    refine rs0 (.int .i64 l3_m1) (by kernel_rfl) ?_
    refine rnil (tn_ ?_)
    refine ⟨_, Weak.refl _, ?_⟩
    refine awp_ret_ ?_
    obtain rfl := Option.some.inj h
    exact retM_ [(.int .i64 l3_m1)] (by simp) (weak_ren (tl := [(4, (.int .i64 l3_m1))]) (g := 2) [] (by kernel_rfl) (obsR_of (by kernel_rfl)) (by kernel_rfl)) (by kernel_rfl) (by kernel_rfl) (by kernel_rfl)
def m_laws_markMatrix : AC :=
  (.seq (.region [⟨(some 2), none, (.i (.box 44 (.tmp 0)))⟩, ⟨(some 4), none, (.i (.mov (.cst (.int .i64 0))))⟩] false [])
  (.seq (.region [⟨(some 5), none, (.i (.fld 1 (.tmp 2)))⟩, ⟨(some 6), none, (.i (.ld true 1 (.tmp 5)))⟩, ⟨(some 7), none, (.i (.mov (.tmp 1)))⟩, ⟨(some 8), none, (.call (.cst (.fn 62 [])) [(.tmp 6), (.tmp 7)] [[(some (.slice .int))], []])⟩, ⟨(some 1), none, (.i (.mov (.tmp 8)))⟩] false [])
  (.seq (.region [⟨(some 9), none, (.i (.mov (.tmp 1)))⟩, ⟨(some 4), none, (.i (.mov (.tmp 9)))⟩] false [])
  .ret)))
def r_laws_markMatrix : List Res := [.tmp 4]
theorem c_laws_markMatrix : compiled Tryd.prog Tryd.f28 = some (m_laws_markMatrix, r_laws_markMatrix) := by kernel_rfl
theorem hb_laws_markMatrix : hasBody Tryd.prog 28 = true := by kernel_rfl
def L_laws_markMatrix (a0_0 : Int) (a0_1 : List (List Int)) (a1 : Int) : Option (List (List Int) × Int) :=
  Option.bind (L_laws_markIntSS a0_1 a1) fun y4 =>
og (y4.1.length = (a0_1.length)) <|
some (y4.1, y4.2)
theorem ok_laws_markMatrix {a0_0 : Int} {a0_1 : List (List Int)} {a1 : Int} {r : List (List Int) × Int} (h : L_laws_markMatrix a0_0 a0_1 a1 = some r) {n_a0_1 : Nat} (hn_a0_1 : n_a0_1 = a0_1.length) : CallM Tryd.prog Tab 28 [(.agg [(.int .i64 a0_0), (.own ((0, 0), 0) (.slice .int) 0 n_a0_1)]), (.int .i64 a1)] [(((0, 0), 0), .mat 23 ((1, 0), 0) .int a0_1), (((1, 0), 0), .pool 3 .int a0_1)] (.int .i64 r.2) [(((0, 0), 0), .mat 23 ((0, 0), 1) .int r.1), (((0, 0), 1), .pool 3 .int r.1)] := by
  refine callM_of_ (by kernel_rfl) Tryd.func28 c_laws_markMatrix (n := 10) (by kernel_rfl) (by simp) (tl := [(0, (.agg [(.int .i64 a0_0), (.own ((0, 0), 0) (.slice .int) 0 n_a0_1)])), (1, (.int .i64 a1))]) rfl (by kernel_rfl) ⟨⟨3, (.tail _ (.head _))⟩, ⟨trivial, trivial⟩⟩ ⟨⟨3, (.tail _ (.head _))⟩, ⟨trivial, trivial⟩⟩ ?_
  unfold m_laws_markMatrix
  unfold L_laws_markMatrix at h
  (try rw [← hn_a0_1] at h)
  refine awp_seqv_ ?_
  refine awp_region_ 3 (by kernel_rfl) ?_
  refine rs1 (.box ((2, 0), 1) 0) ((2, 0), 1) (.cells 44 [(.int .i64 a0_0), (.own ((0, 0), 0) (.slice .int) 0 n_a0_1)]) (by kernel_rfl) ?_
  refine rs0 (.int .i64 0) (by kernel_rfl) ?_
  refine rnil (tn_ ?_)
  refine ⟨_, Weak.refl _, ?_⟩
  refine awp_seqv_ ?_
  obtain ⟨y4, h4, h⟩ := ob_some h
  obtain ⟨g5, h⟩ := og_some h
  refine awp_region_ 8 (by kernel_rfl) ?_
  refine rs0 (.box ((2, 0), 1) 1) (by kernel_rfl) ?_
  refine rsl (.own ((0, 0), 0) (.slice .int) 0 n_a0_1) (by kernel_rfl) ?_
  refine rs0 (.int .i64 a1) (by kernel_rfl) ?_
  refine rcallM (.int .i64 y4.2) [(((0, 0), 0), some (.mat 23 ((128, 0), 6) .int y4.1)), (((128, 0), 6), some (.pool 3 .int y4.1)), (((0, 0), 0), none), (((1, 0), 0), some (.pool 3 .int []))] [] [(.own ((0, 0), 0) (.slice .int) 0 n_a0_1), (.int .i64 a1)] (caps := []) trivial (by kernel_rfl) (by kernel_rfl) (ok_laws_markIntSS h4 hn_a0_1) hb_laws_markIntSS (by kernel_rfl) ⟨(by kernel_rfl), ⟨(by kernel_rfl), trivial⟩⟩ (.cons (.ren (by kernel_rfl)) (.cons (.ren (by kernel_rfl)) .nil)) (reachL_mem (by kernel_rfl) (by kernel_rfl) ⟨(re_arg (by kernel_rfl)), ⟨re_rows (o := ((0, 0), 0)) (p := ((1, 0), 0)) (e1 := 23) (m := a0_1.length) (u := .int) (xss := a0_1) (re_arg (by kernel_rfl)) (by kernel_rfl), trivial⟩⟩) (by kernel_rfl) (by kernel_rfl) ?_
  refine rs0 (.int .i64 y4.2) (by kernel_rfl) ?_
  refine rnil (tn_ ?_)
  refine ⟨_, Weak.refl _, ?_⟩
  refine awp_seqv_ ?_
  refine awp_region_ 10 (by kernel_rfl) ?_
  refine rs0 (.int .i64 y4.2) (by kernel_rfl) ?_
  refine rs0 (.int .i64 y4.2) (by kernel_rfl) ?_
  refine rnil (tn_ ?_)
  refine ⟨_, Weak.refl _, ?_⟩
  refine awp_ret_ ?_
  obtain rfl := Option.some.inj h
  exact retM_ [(.int .i64 y4.2)] (by simp) (weak_ren (tl := [(4, (.int .i64 y4.2))]) (g := 2) [(((0, 0), 1), ((128, 0), 6))] (by kernel_rfl) (obsR_of (by kernel_rfl)) (by kernel_rfl)) (by kernel_rfl) (by kernel_rfl) (by kernel_rfl)
def m_laws_heldIntSS_l1 : AC :=
  (.seq (.seq (.region [⟨(some 6), none, (.i (.mov (.tmp 5)))⟩, ⟨(some 7), none, (.i (.mov (.tmp 0)))⟩, ⟨(some 8), none, (.i (.len (.tmp 7)))⟩, ⟨(some 9), none, (.i (.bin .lss (.tmp 6) (.tmp 8)))⟩] false [])
  (.cond (.tmp 9)
    .skip
    (.exit 0)))
  (.seq (.block 1 (.seq (.region [⟨(some 12), none, (.i (.mov (.tmp 0)))⟩, ⟨(some 13), none, (.i (.mov (.tmp 5)))⟩, ⟨(some 14), none, (.i (.idx 1 (.tmp 12) (.tmp 13)))⟩, ⟨(some 15), none, (.i (.ld true 1 (.tmp 14)))⟩, ⟨(some 16), none, (.i (.mov (.tmp 1)))⟩, ⟨(some 17), none, (.call (.cst (.fn 58 [])) [(.tmp 15), (.tmp 16)] [[(some .int)], []])⟩, ⟨(some 1), none, (.i (.mov (.tmp 17)))⟩] false [])
  (.seq (.region [⟨(some 18), none, (.i (.mov (.tmp 1)))⟩, ⟨(some 19), none, (.i (.bin .lss (.tmp 18) (.cst (.int .i64 0))))⟩] false [])
  (.cond (.tmp 19)
    (.seq (.region [⟨(some 4), none, (.i (.mov (.cst (.int .i64 (-1)))))⟩] false [])
    .ret)
    .skip))))
  (.region [⟨(some 10), none, (.i (.mov (.tmp 5)))⟩, ⟨(some 11), none, (.i (.bin .add (.tmp 10) (.cst (.int .i64 1))))⟩, ⟨(some 5), none, (.i (.mov (.tmp 11)))⟩] false [])))
def m_laws_heldIntSS : AC :=
  (.seq (.region [⟨(some 4), none, (.i (.mov (.cst (.int .i64 0))))⟩] false [])
  (.seq (.seq (.region [⟨(some 5), none, (.i (.mov (.cst (.int .i64 0))))⟩] false [])
  (.block 0 (.loop m_laws_heldIntSS_l1)))
  (.seq (.region [⟨(some 20), none, (.i (.mov (.tmp 1)))⟩, ⟨(some 4), none, (.i (.mov (.tmp 20)))⟩] false [])
  .ret)))
def r_laws_heldIntSS : List Res := [.tmp 4]
theorem c_laws_heldIntSS : compiled Tryd.prog Tryd.f63 = some (m_laws_heldIntSS, r_laws_heldIntSS) := by kernel_rfl
theorem hb_laws_heldIntSS : hasBody Tryd.prog 63 = true := by kernel_rfl
def L_laws_heldIntSS_l1 (a0 : List (List Int)) (l4_m1 : Int) (l4_m5 : Nat) : Option (Ctl (Int × Nat) (Ctl Int Int)) :=
  cond (decide (((l4_m5 : Nat) : Int) < ((a0.length : Nat) : Int)))
  (Option.bind (a0[l4_m5]?) fun x10 =>
  Option.bind (L_laws_heldIntS x10 l4_m1) fun y11 =>
  cond (decide (y11 < 0))
    (some (Ctl.out (Ctl.out (-1))))
    (og (l4_m5 + 1 < 4611686018427387904) <|
    some (Ctl.next (y11, l4_m5 + 1))))
  (some (Ctl.out (Ctl.next l4_m1)))
def L_laws_heldIntSS (a0 : List (List Int)) (a1 : Int) : Option Int :=
  seqC (loopM (fun s_ : Int × Nat => L_laws_heldIntSS_l1 a0 s_.1 s_.2) 4611686018427387904 (a1, 0)) fun l2_m1 =>
some l2_m1
def rv_laws_heldIntSS (r : Int) : RV := ⟨false, [(false, [.sc (.int .i64 r)])]⟩
theorem ok_laws_heldIntSS {a0 : List (List Int)} {a1 : Int} {r : Int} (h : L_laws_heldIntSS a0 a1 = some r) : CallOK Tryd.prog Tab 63 [(.tree (.slice .int) a0), (.int .i64 a1)] (rv_laws_heldIntSS r) := by
  refine call_of_ (by kernel_rfl) Tryd.func63 c_laws_heldIntSS (n := 21) (by kernel_rfl) (by simp) (tl := [(0, (.tree (.slice .int) a0)), (1, (.int .i64 a1))]) rfl ?_
  unfold m_laws_heldIntSS
  unfold L_laws_heldIntSS at h
  refine awp_seqv_ ?_
  refine awp_region_ 2 (by kernel_rfl) ?_
  refine rs0 (.int .i64 0) (by kernel_rfl) ?_
  refine rnil (tn_ ?_)
  refine ⟨_, Weak.refl _, ?_⟩
  refine awp_seqC h (fun (l2_m1 : Int) S_ => S_ = ⟨mkTm [(1, (.int .i64 l2_m1))], mkOb (someL []), 2⟩) ?_ ?_
  · intro v_ h hk2
    refine awp_seqv_ ?_
    refine awp_region_ 3 (by kernel_rfl) ?_
    refine rs0 (.int .i64 0) (by kernel_rfl) ?_
    refine rnil (tn_ ?_)
    refine ⟨_, Weak.refl _, ?_⟩
    refine awp_block_ ?_
    refine awp_loopL h (fun t_ S_ => ∃ (l4_m1 : Int), ∃ (l4_m5 : Nat), t_ = (l4_m1, l4_m5) ∧ S_ = ⟨mkTm [(0, (.tree (.slice .int) a0)), (1, (.int .i64 l4_m1)), (5, (.int .i64 ((l4_m5 : Nat) : Int)))], mkOb (someL []), 2⟩) ⟨_, (weak_ren [] (by kernel_rfl) (obsR_of (by kernel_rfl)) (by kernel_rfl)), ⟨a1, 0, rfl, rfl⟩⟩ ?_
    · rintro n_ _ _ c_ ⟨l4_m1, l4_m5, rfl, rfl⟩ h hn4
      (try dsimp only at h)
      unfold L_laws_heldIntSS_l1 at h
      unfold m_laws_heldIntSS_l1
      refine awp_seqv_ ?_
      refine awp_seqv_ ?_
      refine awp_region_ 6 (by kernel_rfl) ?_
      refine rs0 (.int .i64 ((l4_m5 : Nat) : Int)) (by kernel_rfl) ?_
      refine rs0 (.tree (.slice .int) a0) (by kernel_rfl) ?_
      refine rs0 (.int .i64 ((a0.length : Nat) : Int)) (by kernel_rfl) ?_
      refine rs0 (.bool (decide (((l4_m5 : Nat) : Int) < ((a0.length : Nat) : Int)))) (by kernel_rfl) ?_
      refine rnil (tn_ ?_)
      refine ⟨_, Weak.refl _, ?_⟩
      rcases cond_some h with ⟨q7, h⟩ | ⟨q7, h⟩
      · have q7_ := of_decide_eq_true q7
        refine awp_condT_ q7 (by kernel_rfl) ?_
        refine awp_skip_ (tn_ ?_)
        refine ⟨_, Weak.refl _, ?_⟩
        refine awp_seqv_ ?_
        refine awp_block_ ?_
        refine awp_seqv_ ?_
        obtain ⟨x10, e10, h⟩ := ob_some h
        obtain ⟨y11, h11, h⟩ := ob_some h
        refine awp_region_ 13 (by kernel_rfl) ?_
        refine rs0 (.tree (.slice .int) a0) (by kernel_rfl) ?_
        refine rs0 (.int .i64 ((l4_m5 : Nat) : Int)) (by kernel_rfl) ?_
        refine rs0 (.telt (.slice .int) x10 0) (s_idxT (t := (.slice .int)) (xs := a0) (k := .i64) (m := ((l4_m5 : Nat) : Int)) (by kernel_rfl) (by kernel_rfl) rfl (nat_nn _) rfl e10) ?_
        refine rs0 (.tree .int x10) (by kernel_rfl) ?_
        refine rs0 (.int .i64 l4_m1) (by kernel_rfl) ?_
        refine rcall (.int .i64 y11) [] [(.tree .int x10), (.int .i64 l4_m1)] _ (caps := []) (args0 := [(.tree .int x10), (.int .i64 l4_m1)]) trivial (by kernel_rfl) (by kernel_rfl) (by kernel_rfl) (by kernel_rfl) (ok_laws_heldIntS h11) hb_laws_heldIntS (by kernel_rfl) ?_
        refine rs0 (.int .i64 y11) (by kernel_rfl) ?_
        refine rnil (tn_ ?_)
        refine ⟨_, Weak.refl _, ?_⟩
        refine awp_seqv_ ?_
        refine awp_region_ 15 (by kernel_rfl) ?_
        refine rs0 (.int .i64 y11) (by kernel_rfl) ?_
        refine rs0 (.bool (decide (y11 < 0))) (by kernel_rfl) ?_
        refine rnil (tn_ ?_)
        refine ⟨_, Weak.refl _, ?_⟩
        rcases cond_some h with ⟨q13, h⟩ | ⟨q13, h⟩
        · have q13_ := of_decide_eq_true q13
          refine awp_condT_ q13 (by kernel_rfl) ?_
          refine awp_seqv_ ?_
          refine awp_region_ 16 (by kernel_rfl) ?_
          refine rs0 (.int .i64 (-1)) (by kernel_rfl) ?_
          refine rnil (tn_ ?_)
          refine ⟨_, Weak.refl _, ?_⟩
          refine awp_ret_ (br_ (tr_ (tr_ (br_ (tr_ ?_)))))
          obtain rfl := Option.some.inj h
          have h := hn4
          (try dsimp only at h)
          obtain rfl := Option.some.inj h
          have h := hk2
          (try dsimp only at h)
          obtain rfl := Option.some.inj h
          exact ret_ [(.int .i64 (-1))] (by simp) (by kernel_rfl) (p_one rfl (l_sc (by kernel_rfl)) p_nil) (by kernel_rfl) (by kernel_rfl)
        · have q13_ := of_decide_eq_false q13
          refine awp_condF_ q13 (by kernel_rfl) ?_
          refine awp_skip_ (bn_ (tn_ ?_))
          refine ⟨_, Weak.refl _, ?_⟩
          obtain ⟨g15, h⟩ := og_some h
          refine awp_region_ 18 (by kernel_rfl) ?_
          refine rs0 (.int .i64 ((l4_m5 : Nat) : Int)) (by kernel_rfl) ?_
          refine rs0 (.int .i64 ((l4_m5 + 1 : Nat) : Int)) (s_add1 (j := l4_m5) (by kernel_rfl) (by kernel_rfl) g15) ?_
          refine rs0 (.int .i64 ((l4_m5 + 1 : Nat) : Int)) (by kernel_rfl) ?_
          refine rnil (tn_ ?_)
          obtain rfl := Option.some.inj h
          exact ⟨(y11, l4_m5 + 1), _, (weak_ren [] (by kernel_rfl) (obsR_of (by kernel_rfl)) (by kernel_rfl)), ⟨y11, l4_m5 + 1, rfl, rfl⟩, hn4⟩
      · have q7_ := of_decide_eq_false q7
        refine awp_condF_ q7 (by kernel_rfl) ?_
        refine awp_exit_ (te_ (te_ (be_ (tn_ ?_))))
        obtain rfl := Option.some.inj h
        have h := hn4
        (try dsimp only at h)
        obtain rfl := Option.some.inj h
        exact ⟨l4_m1, _, rfl, (weak_ren [] (by kernel_rfl) (obsR_of (by kernel_rfl)) (by kernel_rfl)), rfl⟩
  · rintro l2_m1 _ rfl h
    (try dsimp only at h)
    refine awp_seqv_ ?_
    refine awp_region_ 4 (by kernel_rfl) ?_
    refine rs0 (.int .i64 l2_m1) (by kernel_rfl) ?_
    refine rs0 (.int .i64 l2_m1) (by kernel_rfl) ?_
    refine rnil (tn_ ?_)
    refine ⟨_, Weak.refl _, ?_⟩
    refine awp_ret_ ?_
    obtain rfl := Option.some.inj h
    exact ret_ [(.int .i64 l2_m1)] (by simp) (by kernel_rfl) (p_one rfl (l_sc (by kernel_rfl)) p_nil) (by kernel_rfl) (by kernel_rfl)
def m_laws_heldMatrix : AC :=
  (.seq (.region [⟨(some 2), none, (.i (.box 44 (.tmp 0)))⟩, ⟨(some 4), none, (.i (.mov (.cst (.int .i64 0))))⟩] false [])
  (.seq (.region [⟨(some 5), none, (.i (.fld 1 (.tmp 2)))⟩, ⟨(some 6), none, (.i (.ld true 1 (.tmp 5)))⟩, ⟨(some 7), none, (.i (.mov (.tmp 1)))⟩, ⟨(some 8), none, (.call (.cst (.fn 63 [])) [(.tmp 6), (.tmp 7)] [[(some (.slice .int))], []])⟩, ⟨(some 1), none, (.i (.mov (.tmp 8)))⟩] false [])
  (.seq (.seq (.region [⟨(some 9), none, (.i (.mov (.tmp 1)))⟩, ⟨(some 10), none, (.i (.bin .lss (.tmp 9) (.cst (.int .i64 0))))⟩] false [])
  (.cond (.tmp 10)
    (.seq (.region [⟨(some 4), none, (.i (.mov (.cst (.int .i64 (-1)))))⟩] false [])
    .ret)
    .skip))
  (.seq (.region [⟨(some 11), none, (.i (.mov (.tmp 1)))⟩, ⟨(some 4), none, (.i (.mov (.tmp 11)))⟩] false [])
  .ret))))
def r_laws_heldMatrix : List Res := [.tmp 4]
theorem c_laws_heldMatrix : compiled Tryd.prog Tryd.f29 = some (m_laws_heldMatrix, r_laws_heldMatrix) := by kernel_rfl
theorem hb_laws_heldMatrix : hasBody Tryd.prog 29 = true := by kernel_rfl
def L_laws_heldMatrix (a0_0 : Int) (a0_1 : List (List Int)) (a1 : Int) : Option Int :=
  Option.bind (L_laws_heldIntSS a0_1 a1) fun y3 =>
cond (decide (y3 < 0))
  (some (-1))
  (some y3)
def rv_laws_heldMatrix (r : Int) : RV := ⟨false, [(false, [.sc (.int .i64 r)])]⟩
theorem ok_laws_heldMatrix {a0_0 : Int} {a0_1 : List (List Int)} {a1 : Int} {r : Int} (h : L_laws_heldMatrix a0_0 a0_1 a1 = some r) : CallOK Tryd.prog Tab 29 [(.agg [(.int .i64 a0_0), (.tree (.slice .int) a0_1)]), (.int .i64 a1)] (rv_laws_heldMatrix r) := by
  refine call_of_ (by kernel_rfl) Tryd.func29 c_laws_heldMatrix (n := 12) (by kernel_rfl) (by simp) (tl := [(0, (.agg [(.int .i64 a0_0), (.tree (.slice .int) a0_1)])), (1, (.int .i64 a1))]) rfl ?_
  unfold m_laws_heldMatrix
  unfold L_laws_heldMatrix at h
  refine awp_seqv_ ?_
  refine awp_region_ 3 (by kernel_rfl) ?_
  refine rs1 (.box ((2, 0), 1) 0) ((2, 0), 1) (.cells 44 [(.int .i64 a0_0), (.tree (.slice .int) a0_1)]) (by kernel_rfl) ?_
  refine rs0 (.int .i64 0) (by kernel_rfl) ?_
  refine rnil (tn_ ?_)
  refine ⟨_, Weak.refl _, ?_⟩
  refine awp_seqv_ ?_
  obtain ⟨y3, h3, h⟩ := ob_some h
  refine awp_region_ 8 (by kernel_rfl) ?_
  refine rs0 (.box ((2, 0), 1) 1) (by kernel_rfl) ?_
  refine rsl (.tree (.slice .int) a0_1) (by kernel_rfl) ?_
  refine rs0 (.int .i64 a1) (by kernel_rfl) ?_
  refine rcall (.int .i64 y3) [] [(.tree (.slice .int) a0_1), (.int .i64 a1)] _ (caps := []) (args0 := [(.tree (.slice .int) a0_1), (.int .i64 a1)]) trivial (by kernel_rfl) (by kernel_rfl) (by kernel_rfl) (by kernel_rfl) (ok_laws_heldIntSS h3) hb_laws_heldIntSS (by kernel_rfl) ?_
  refine rs0 (.int .i64 y3) (by kernel_rfl) ?_
  refine rnil (tn_ ?_)
  refine ⟨_, Weak.refl _, ?_⟩
  refine awp_seqv_ ?_
  refine awp_seqv_ ?_
  refine awp_region_ 10 (by kernel_rfl) ?_
  refine rs0 (.int .i64 y3) (by kernel_rfl) ?_
  refine rs0 (.bool (decide (y3 < 0))) (by kernel_rfl) ?_
  refine rnil (tn_ ?_)
  refine ⟨_, Weak.refl _, ?_⟩
  rcases cond_some h with ⟨q6, h⟩ | ⟨q6, h⟩
  · have q6_ := of_decide_eq_true q6
    refine awp_condT_ q6 (by kernel_rfl) ?_
    refine awp_seqv_ ?_
    refine awp_region_ 11 (by kernel_rfl) ?_
    refine rs0 (.int .i64 (-1)) (by kernel_rfl) ?_
    refine rnil (tn_ ?_)
    refine ⟨_, Weak.refl _, ?_⟩
    refine awp_ret_ (tr_ ?_)
    obtain rfl := Option.some.inj h
    exact ret_ [(.int .i64 (-1))] (by simp) (by kernel_rfl) (p_one rfl (l_sc (by kernel_rfl)) p_nil) (by kernel_rfl) (by kernel_rfl)
  · have q6_ := of_decide_eq_false q6
    refine awp_condF_ q6 (by kernel_rfl) ?_
    refine awp_skip_ (tn_ ?_)
    refine ⟨_, Weak.refl _, ?_⟩
    refine awp_seqv_ ?_
    refine awp_region_ 12 (by kernel_rfl) ?_
    refine rs0 (.int .i64 y3) (by kernel_rfl) ?_
    refine rs0 (.int .i64 y3) (by kernel_rfl) ?_
    refine rnil (tn_ ?_)
    refine ⟨_, Weak.refl _, ?_⟩
    refine awp_ret_ ?_
    obtain rfl := Option.some.inj h
    exact ret_ [(.int .i64 y3)] (by simp) (by kernel_rfl) (p_one rfl (l_sc (by kernel_rfl)) p_nil) (by kernel_rfl) (by kernel_rfl)
def m_spec_mxZero_l1 : AC :=
  (.seq (.region [⟨(some 15), none, (.i (.bin .lss (.tmp 14) (.tmp 13)))⟩] false [])
  (.seq (.cond (.tmp 15)
    .skip
    (.exit 0))
  (.seq (.block 1 (.seq (.region [⟨(some 16), none, (.i (.mov (.tmp 14)))⟩, ⟨(some 6), none, (.i (.mov (.tmp 16)))⟩] false [])
  (.region [⟨(some 17), none, (.i (.fld 1 (.tmp 5)))⟩, ⟨(some 18), none, (.i (.ld true 1 (.tmp 17)))⟩, ⟨(some 19), none, (.i (.mov (.tmp 6)))⟩, ⟨(some 20), none, (.i (.mov (.tmp 1)))⟩, ⟨(some 21), none, (.make 3 .int 8 (.tmp 20) (.tmp 20))⟩, ⟨(some 22), none, (.i (.idx 1 (.tmp 18) (.tmp 19)))⟩, ⟨none, none, (.st true 1 (.tmp 22) (.tmp 21))⟩] true [])))
  (.region [⟨(some 23), none, (.i (.bin .add (.tmp 14) (.cst (.int .i64 1))))⟩, ⟨(some 14), none, (.i (.mov (.tmp 23)))⟩] false []))))
def m_spec_mxZero : AC :=
  (.seq (.region [⟨(some 4), none, (.i (.alloc 44 [(.int .i64 0), .nils]))⟩] false [])
  (.seq (.region [⟨(some 7), none, (.i (.mov (.tmp 1)))⟩, ⟨(some 8), none, (.i (.mov (.tmp 0)))⟩, ⟨(some 9), none, (.makeV 23 (.slice .int) 24 [.nils] (.tmp 8) (.tmp 8))⟩, ⟨(some 10), none, (.build [(.int .i64 0), .nils] [(0, 1, (.tmp 7)), (1, 1, (.tmp 9))])⟩, ⟨(some 5), none, (.i (.alloc 44 [(.int .i64 0), .nils]))⟩, ⟨none, none, (.st false 2 (.tmp 5) (.tmp 10))⟩] false [])
  (.seq (.seq (.region [⟨(some 11), none, (.i (.fld 1 (.tmp 5)))⟩, ⟨(some 12), none, (.i (.ld true 1 (.tmp 11)))⟩, ⟨(some 13), none, (.i (.len (.tmp 12)))⟩, ⟨(some 14), none, (.i (.mov (.cst (.int .i64 0))))⟩] false [])
  (.block 0 (.loop m_spec_mxZero_l1)))
  (.seq (.region [⟨(some 24), none, (.i (.ld false 2 (.tmp 5)))⟩, ⟨none, none, (.st false 2 (.tmp 4) (.tmp 24))⟩] false [])
  .ret))))
def r_spec_mxZero : List Res := [.cell 4 false 2]
theorem c_spec_mxZero : compiled Tryd.prog Tryd.f96 = some (m_spec_mxZero, r_spec_mxZero) := by kernel_rfl
theorem hb_spec_mxZero : hasBody Tryd.prog 96 = true := by kernel_rfl
def L_spec_mxZero_l1 (a0 : Int) (a1 : Int) (l7_m14 : Nat) (l7_m5_1 : List (List Int)) : Option (Ctl (Nat × List (List Int)) (List (List Int))) :=
  cond (decide (((l7_m14 : Nat) : Int) < ((a0.toNat : Nat) : Int)))
  (og (0 ≤ a1 ∧ a1 ≤ a1 ∧ a1 ≤ 1073741824 ∧ (8 : Int) * a1 ≤ 140737488355328) <|
  Option.bind (l7_m5_1[l7_m14]?) fun x14 =>
  og (l7_m14 + 1 < 4611686018427387904) <|
  some (Ctl.next (l7_m14 + 1, l7_m5_1.set l7_m14 (List.replicate a1.toNat (0 : Int)))))
  (some (Ctl.out l7_m5_1))
def L_spec_mxZero (a0 : Int) (a1 : Int) : Option (List (List Int)) :=
  og (0 ≤ a0 ∧ a0 ≤ a0 ∧ a0 ≤ 1073741824 ∧ (24 : Int) * a0 ≤ 140737488355328) <|
Option.bind (loopM (fun s_ : Nat × List (List Int) => L_spec_mxZero_l1 a0 a1 s_.1 s_.2) 4611686018427387904 (0, List.replicate a0.toNat ([] : List Int))) fun l5_m5_1 =>
some l5_m5_1
theorem ok_spec_mxZero {a0 : Int} {a1 : Int} {r : List (List Int)} (h : L_spec_mxZero a0 a1 = some r) : CallM Tryd.prog Tab 96 [(.int .i64 a0), (.int .i64 a1)] [] (.agg [(.int .i64 a1), (.own ((1, 0), 1) (.slice .int) 0 r.length)]) [(((0, 0), 1), .cells 44 [(.int .i64 a1), (.own ((1, 0), 1) (.slice .int) 0 r.length)]), (((1, 0), 1), .mat 23 ((2, 0), 1) .int r), (((2, 0), 1), .pool 3 .int r)] := by
  refine callM_of_ (by kernel_rfl) Tryd.func96 c_spec_mxZero (n := 25) (by kernel_rfl) (by simp) (tl := [(0, (.int .i64 a0)), (1, (.int .i64 a1))]) rfl (by kernel_rfl) trivial ⟨trivial, ⟨⟨3, (.tail _ (.tail _ (.head _)))⟩, ⟨trivial, trivial⟩⟩⟩ ?_
  unfold m_spec_mxZero
  unfold L_spec_mxZero at h
  refine awp_seqv_ ?_
  refine awp_region_ 2 (by kernel_rfl) ?_
  refine rs1 (.box ((4, 0), 1) 0) ((4, 0), 1) (.cells 44 [(.int .i64 0), .nils]) (by kernel_rfl) ?_
  refine rnil (tn_ ?_)
  refine ⟨_, Weak.refl _, ?_⟩
  refine awp_seqv_ ?_
  obtain ⟨g4, h⟩ := og_some h
  refine awp_region_ 8 (by kernel_rfl) ?_
  refine rs0 (.int .i64 a1) (by kernel_rfl) ?_
  refine rs0 (.int .i64 a0) (by kernel_rfl) ?_
  refine rmakeM (.own ((144, 0), 4) (.slice .int) 0 a0.toNat) ((144, 0), 4) 23 3 .int (List.replicate a0.toNat ([] : List Int)) trivial (s_makeM (j := a0.toNat) (k := .i64) (k' := .i64) (m := a0) (c := a0) 3 (by kernel_rfl) (by kernel_rfl) g4 (by kernel_rfl) rfl) (by kernel_rfl) (by rw [List.length_replicate]) (by kernel_rfl) ?_
  refine rs0 (.agg [(.int .i64 a1), (.own ((144, 0), 4) (.slice .int) 0 a0.toNat)]) (by kernel_rfl) ?_
  refine rs1 (.box ((5, 0), 6) 0) ((5, 0), 6) (.cells 44 [(.int .i64 0), .nils]) (by kernel_rfl) ?_
  refine rsn2 ((5, 0), 6) ((5, 0), 6) (.cells 44 [(.int .i64 a1), (.own ((144, 0), 4) (.slice .int) 0 a0.toNat)]) (by kernel_rfl) ?_
  refine rnil (tn_ ?_)
  refine ⟨_, Weak.refl _, ?_⟩
  refine awp_seqB h (fun (l5_m5_1 : List (List Int)) S_ => S_ = ⟨mkTm [(4, (.box ((0, 0), 1) 0)), (5, (.box ((1, 0), 1) 0))], mkOb (someL [(((0, 0), 1), .cells 44 [(.int .i64 0), .nils]), (((1, 0), 1), .cells 44 [(.int .i64 a1), (.own ((2, 0), 1) (.slice .int) 0 l5_m5_1.length)]), (((2, 0), 1), .mat 23 ((3, 0), 1) .int l5_m5_1), (((3, 0), 1), .pool 3 .int l5_m5_1)]), 2⟩) ?_ ?_
  · intro v_ h
    refine awp_seqv_ ?_
    refine awp_region_ 12 (by kernel_rfl) ?_
    refine rs0 (.box ((5, 0), 6) 1) (by kernel_rfl) ?_
    refine rsl (.own ((144, 0), 4) (.slice .int) 0 a0.toNat) (by kernel_rfl) ?_
    refine rs0 (.int .i64 ((a0.toNat : Nat) : Int)) (by kernel_rfl) ?_
    refine rs0 (.int .i64 0) (by kernel_rfl) ?_
    refine rnil (tn_ ?_)
    refine ⟨_, Weak.refl _, ?_⟩
    refine awp_block_ ?_
    refine awp_loopL h (fun t_ S_ => ∃ (l7_m14 : Nat), ∃ (l7_m5_1 : List (List Int)), t_ = (l7_m14, l7_m5_1) ∧ S_ = ⟨mkTm [(1, (.int .i64 a1)), (4, (.box ((0, 0), 1) 0)), (5, (.box ((1, 0), 1) 0)), (13, (.int .i64 ((a0.toNat : Nat) : Int))), (14, (.int .i64 ((l7_m14 : Nat) : Int)))], mkOb (someL [(((0, 0), 1), .cells 44 [(.int .i64 0), .nils]), (((1, 0), 1), .cells 44 [(.int .i64 a1), (.own ((2, 0), 1) (.slice .int) 0 l7_m5_1.length)]), (((2, 0), 1), .mat 23 ((3, 0), 1) .int l7_m5_1), (((3, 0), 1), .pool 3 .int l7_m5_1)]), 2⟩) ⟨_, ((weak_ob_ ((5, 0), 6) (.cells 44 [(.int .i64 a1), (.own ((144, 0), 4) (.slice .int) 0 a0.toNat)]) (.cells 44 [(.int .i64 a1), (.own ((144, 0), 4) (.slice .int) 0 ((List.replicate a0.toNat ([] : List Int)).length))]) (by kernel_rfl) (congrArg (fun z_ => (.cells 44 [(.int .i64 a1), (.own ((144, 0), 4) (.slice .int) 0 z_)] : Ob)) (List.length_replicate.symm : a0.toNat = (List.replicate a0.toNat ([] : List Int)).length))).trans (weak_ren [(((0, 0), 1), ((4, 0), 1)), (((1, 0), 1), ((5, 0), 6)), (((2, 0), 1), ((144, 0), 4)), (((3, 0), 1), ((144, 0), 4))] (by kernel_rfl) (obsR_of (by kernel_rfl)) (by kernel_rfl))), ⟨0, List.replicate a0.toNat ([] : List Int), rfl, rfl⟩⟩ ?_
    · rintro n_ _ _ c_ ⟨l7_m14, l7_m5_1, rfl, rfl⟩ h hn7
      (try dsimp only at h)
      unfold L_spec_mxZero_l1 at h
      unfold m_spec_mxZero_l1
      refine awp_seqv_ ?_
      refine awp_region_ 3 (by kernel_rfl) ?_
      refine rs0 (.bool (decide (((l7_m14 : Nat) : Int) < ((a0.toNat : Nat) : Int)))) (by kernel_rfl) ?_
      refine rnil (tn_ ?_)
      refine ⟨_, Weak.refl _, ?_⟩
      refine awp_seqv_ ?_
      rcases cond_some h with ⟨q10, h⟩ | ⟨q10, h⟩
      · have q10_ := of_decide_eq_true q10
        refine awp_condT_ q10 (by kernel_rfl) ?_
        refine awp_skip_ (tn_ ?_)
        refine ⟨_, Weak.refl _, ?_⟩
        refine awp_seqv_ ?_
        refine awp_block_ ?_
        refine awp_seqv_ ?_
        refine awp_region_ 5 (by kernel_rfl) ?_
        refine rs0 (.int .i64 ((l7_m14 : Nat) : Int)) (by kernel_rfl) ?_
        refine rs0 (.int .i64 ((l7_m14 : Nat) : Int)) (by kernel_rfl) ?_
        refine rnil (tn_ ?_)
        refine ⟨_, Weak.refl _, ?_⟩
        obtain ⟨g13, h⟩ := og_some h
        obtain ⟨x14, e14, h⟩ := ob_some h
        refine awp_regionD_ 12 (by kernel_rfl) ?_
        refine ds0 (.box ((1, 0), 1) 1) (by kernel_rfl) ?_
        refine dsl (.own ((2, 0), 1) (.slice .int) 0 l7_m5_1.length) (by kernel_rfl) ?_
        refine ds0 (.int .i64 ((l7_m14 : Nat) : Int)) (by kernel_rfl) ?_
        refine ds0 (.int .i64 a1) (by kernel_rfl) ?_
        refine ds1 (.own ((21, 0), 9) .int 0 a1.toNat) ((21, 0), 9) (.arr 3 .int (List.replicate a1.toNat (0 : Int))) (s_make (t := .int) (k := .i64) (k' := .i64) (m := a1) (m' := a1) (by kernel_rfl) (by kernel_rfl) g13 rfl) ?_
        refine ds0 (.elt ((2, 0), 1) l7_m14 0) (s_idxO (t := (.slice .int)) (o := ((2, 0), 1)) (len := l7_m5_1.length) (k := .i64) (m := ((l7_m14 : Nat) : Int)) (by kernel_rfl) (by kernel_rfl) rfl (nat_nn _) rfl (getN_lt e14)) ?_
        refine dsn2 ((2, 0), 1) ((2, 0), 1) (.vec 23 1 l7_m5_1.length ((hdL ((3, 0), 1) .int l7_m5_1).set l7_m14 (.own ((21, 0), 9) .int 0 a1.toNat))) (s_stV (o := ((2, 0), 1)) (e1 := 23) (m := l7_m5_1.length) (cs := hdL ((3, 0), 1) .int l7_m5_1) (v := (.own ((21, 0), 9) .int 0 a1.toNat)) (j := l7_m14) (by kernel_rfl) (by kernel_rfl) (by kernel_rfl) rfl (by rw [hdL_len]; exact getN_lt e14)) ?_
        refine dnil (badB_spec (by kernel_rfl)) (bn_ (tn_ ?_))
        refine ⟨_, weak_set_ (e1 := 23) (e := 3) (u := .int) (n := l7_m5_1.length) (len := a1.toNat) (row := List.replicate a1.toNat (0 : Int)) (ys := List.replicate a1.toNat (0 : Int)) (xss := l7_m5_1) (j := l7_m14) 9000 ((2, 0), 1) ((3, 0), 1) ((21, 0), 9) (by kernel_rfl) (by kernel_rfl) rfl (by kernel_rfl) (by kernel_rfl) (tw_le List.length_replicate.symm) (tw_eq List.length_replicate.symm) (by kernel_rfl) (by kernel_rfl) (by kernel_rfl), ?_⟩
        obtain ⟨g15, h⟩ := og_some h
        refine awp_region_ 15 (by kernel_rfl) ?_
        refine rs0 (.int .i64 ((l7_m14 + 1 : Nat) : Int)) (s_add1 (j := l7_m14) (by kernel_rfl) (by kernel_rfl) g15) ?_
        refine rs0 (.int .i64 ((l7_m14 + 1 : Nat) : Int)) (by kernel_rfl) ?_
        refine rnil (tn_ ?_)
        obtain rfl := Option.some.inj h
        exact ⟨(l7_m14 + 1, l7_m5_1.set l7_m14 (List.replicate a1.toNat (0 : Int))), _, ((weak_ob_ ((1, 0), 1) (.cells 44 [(.int .i64 a1), (.own ((2, 0), 1) (.slice .int) 0 l7_m5_1.length)]) (.cells 44 [(.int .i64 a1), (.own ((2, 0), 1) (.slice .int) 0 ((l7_m5_1.set l7_m14 (List.replicate a1.toNat (0 : Int))).length))]) (by kernel_rfl) (congrArg (fun z_ => (.cells 44 [(.int .i64 a1), (.own ((2, 0), 1) (.slice .int) 0 z_)] : Ob)) ((Eq.trans (b := l7_m5_1.length) rfl List.length_set.symm) : l7_m5_1.length = (l7_m5_1.set l7_m14 (List.replicate a1.toNat (0 : Int))).length))).trans (weak_ren [(((3, 0), 1), ((9000, 0), 12))] (by kernel_rfl) (obsR_of (by kernel_rfl)) (by kernel_rfl))), ⟨l7_m14 + 1, l7_m5_1.set l7_m14 (List.replicate a1.toNat (0 : Int)), rfl, rfl⟩, hn7⟩
      · have q10_ := of_decide_eq_false q10
        refine awp_condF_ q10 (by kernel_rfl) ?_
        refine awp_exit_ (te_ (te_ (be_ (tn_ ?_))))
        obtain rfl := Option.some.inj h
        have h := hn7
        (try dsimp only at h)
        obtain rfl := Option.some.inj h
        exact ⟨_, (weak_ren [] (by kernel_rfl) (obsR_of (by kernel_rfl)) (by kernel_rfl)), rfl⟩
  · rintro l5_m5_1 _ rfl h
    (try dsimp only at h)
    refine awp_seqv_ ?_
    refine awp_region_ 4 (by kernel_rfl) ?_
    refine rsl (.agg [(.int .i64 a1), (.own ((2, 0), 1) (.slice .int) 0 l5_m5_1.length)]) (by kernel_rfl) ?_
    refine rsn2 ((0, 0), 1) ((0, 0), 1) (.cells 44 [(.int .i64 a1), (.own ((2, 0), 1) (.slice .int) 0 l5_m5_1.length)]) (by kernel_rfl) ?_
    refine rnil (tn_ ?_)
    refine ⟨_, Weak.refl _, ?_⟩
    refine awp_ret_ ?_
    obtain rfl := Option.some.inj h
    exact retM_ [(.agg [(.int .i64 a1), (.own ((1, 0), 1) (.slice .int) 0 l5_m5_1.length)])] (by simp) (weak_ren (tl := [(4, (.box ((0, 0), 1) 0))]) (g := 2) [(((1, 0), 1), ((2, 0), 1)), (((2, 0), 1), ((3, 0), 1))] (by kernel_rfl) (obsR_of (by kernel_rfl)) (by kernel_rfl)) (by kernel_rfl) (by kernel_rfl) (by kernel_rfl)
end Go.Proofs.YtefolocdfgelcaaDoor
