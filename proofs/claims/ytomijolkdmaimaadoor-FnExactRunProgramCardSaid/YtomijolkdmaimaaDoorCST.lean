/- Partial functions in place of code, and that the code does what they say: CST. No condition. -/
import Derived.Test.YtomijolkdmaimaaDoorMB
namespace Go.Proofs.YtomijolkdmaimaaDoor
open Go.RowKit Go.Deep
set_option maxRecDepth 4000
def m_spec_cmStep_l1 : AC :=
  (.seq (rg [xo 27 (qb .lss (tm 26) (tm 25))])
  (.seq (.cond (tm 27)
    .skip
    (.exit 0))
  (.seq (.block 1 (.seq (rg [xo 28 (qx 5 (tm 24) (tm 26)), xo 29 (.i (.ld false 5 (tm 28))), xo 14 (.i (.alloc 69 [(.int .i64 0), (.int .i64 0), (.int .i64 0), (.int .i64 0), (.int .i64 0)])), xn (.st false 5 (tm 14) (tm 29))])
  (.seq (rg [xo 30 (qf 0 (tm 14)), xo 31 (ql (tm 30))])
  (.block 2 (.seq (rg [xo 42 (qb .eql (tm 31) (ci 1)), xo 41 (qm (tm 42))])
  (.cond (tm 41)
    (.region [xo 43 (qm (tm 10)), xo 44 (qf 1 (tm 14)), xo 45 (ql (tm 44)), xo 46 (qm (tm 3)), xo 47 (qf 2 (tm 14)), xo 48 (ql (tm 47)), xo 49 (qx 1 (tm 46) (tm 48)), xo 50 (ql (tm 49)), xo 51 (qx 1 (tm 43) (tm 45)), xn (qs (tm 51) (tm 50))] true [])
    (.seq (rg [xo 53 (qb .eql (tm 31) (ci 2)), xo 52 (qm (tm 53))])
    (.cond (tm 52)
      (rg [xo 54 (qm (tm 10)), xo 55 (qf 1 (tm 14)), xo 56 (ql (tm 55)), xo 57 (qx 1 (tm 54) (tm 56)), xn (qs (tm 57) (ci 0))])
      (.seq (rg [xo 59 (qb .eql (tm 31) (ci 3)), xo 58 (qm (tm 59))])
      (.cond (tm 58)
        (.region [xo 60 (qm (tm 10)), xo 61 (qf 1 (tm 14)), xo 62 (ql (tm 61)), xo 63 (qm (tm 0)), xo 64 (qm (tm 10)), xo 65 (qf 2 (tm 14)), xo 66 (ql (tm 65)), xo 67 (qx 1 (tm 64) (tm 66)), xo 68 (ql (tm 67)), xo 69 (qm (tm 10)), xo 70 (qf 3 (tm 14)), xo 71 (ql (tm 70)), xo 72 (qx 1 (tm 69) (tm 71)), xo 73 (ql (tm 72)), xo 74 (qc 68 [(tm 63), (tm 68), (tm 73)] [[], [], []]), xo 75 (qx 1 (tm 60) (tm 62)), xn (qs (tm 75) (tm 74))] true [(2, 14)])
        (.seq (rg [xo 77 (qb .eql (tm 31) (ci 4)), xo 76 (qm (tm 77))])
        (.cond (tm 76)
          (.region [xo 78 (qm (tm 10)), xo 79 (qf 1 (tm 14)), xo 80 (ql (tm 79)), xo 81 (qm (tm 0)), xo 82 (qf 4 (tm 14)), xo 83 (ql (tm 82)), xo 84 (qm (tm 10)), xo 85 (qf 2 (tm 14)), xo 86 (ql (tm 85)), xo 87 (qx 1 (tm 84) (tm 86)), xo 88 (ql (tm 87)), xo 89 (qc 69 [(tm 81), (tm 83), (tm 88)] [[], [], []]), xo 90 (qx 1 (tm 78) (tm 80)), xn (qs (tm 90) (tm 89))] true [(2, 11)])
          (.seq (rg [xo 92 (qb .eql (tm 31) (ci 5)), xo 91 (qm (tm 92))])
          (.cond (tm 91)
            (.region [xo 93 (qm (tm 10)), xo 94 (qf 1 (tm 14)), xo 95 (ql (tm 94)), xo 96 (qm (tm 12)), xo 97 (qf 2 (tm 14)), xo 98 (ql (tm 97)), xo 99 (qx 1 (tm 96) (tm 98)), xo 100 (ql (tm 99)), xo 101 (qx 1 (tm 93) (tm 95)), xn (qs (tm 101) (tm 100))] true [])
            (.seq (rg [xo 103 (qb .eql (tm 31) (ci 6)), xo 102 (qm (tm 103))])
            (.cond (tm 102)
              (.region [xo 104 (qm (tm 12)), xo 105 (qf 2 (tm 14)), xo 106 (ql (tm 105)), xo 107 (qm (tm 10)), xo 108 (qf 1 (tm 14)), xo 109 (ql (tm 108)), xo 110 (qx 1 (tm 107) (tm 109)), xo 111 (ql (tm 110)), xo 112 (qx 1 (tm 104) (tm 106)), xn (qs (tm 112) (tm 111))] true [])
              (.region [xo 32 (qm (tm 11)), xo 33 (qf 2 (tm 14)), xo 34 (ql (tm 33)), xo 35 (qm (tm 10)), xo 36 (qf 1 (tm 14)), xo 37 (ql (tm 36)), xo 38 (qx 1 (tm 35) (tm 37)), xo 39 (ql (tm 38)), xo 40 (qx 1 (tm 32) (tm 34)), xn (qs (tm 40) (tm 39))] true [])))))))))))))))))
  (rg [xo 113 (qb .add (tm 26) (ci 1)), xo 26 (qm (tm 113))]))))
def m_spec_cmStep : AC :=
  (.seq (rg [xo 5 (.i (.box 29 (tm 1))), xo 8 (qm (.cst .nils)), xo 9 (qm (.cst .nils))])
  (.seq (.region [xo 15 (qf 3 (tm 5)), xo 16 (ql (tm 15)), xo 17 (.make 3 .int 8 (tm 16) (tm 16)), xo 18 (qf 1 (tm 5)), xo 19 (ql (tm 18)), xo 20 (.make 3 .int 8 (tm 19) (tm 19)), xo 21 (qm (tm 2)), xo 22 (qc 67 [(tm 21)] [[(some .int)]]), xo 10 (qm (tm 17)), xo 11 (qm (tm 20)), xo 12 (qm (tm 22))] true [(1, 7), (2, 7), (4, 7), (5, 7)])
  (.seq (.seq (rg [xo 23 (qf 4 (tm 5)), xo 24 (ql (tm 23)), xo 25 (.i (.len (tm 24))), xo 26 (qm (ci 0))])
  (.block 0 (.loop m_spec_cmStep_l1)))
  (.seq (rg [xo 114 (qm (tm 12)), xo 115 (qm (tm 11)), xo 8 (qm (tm 114)), xo 9 (qm (tm 115))])
  .ret))))
def r_spec_cmStep : List Res := [.tmp 8, .tmp 9]
theorem c_spec_cmStep : compiled Tryd.prog Tryd.f43 = some (m_spec_cmStep, r_spec_cmStep) := by kernel_rfl
theorem hb_spec_cmStep : hasBody Tryd.prog 43 = true := by kernel_rfl
def L_spec_cmStep_l1 (a1_4 : List (Int × Int × Int × Int × Int)) (a3 : List Int) (a0 : Int) (l8_m26 : Nat) (l8_m10 : List Int) (l8_m11 : List Int) (l8_m12 : List Int) : Option (Ctl (Nat × List Int × List Int × List Int) (List Int × List Int)) :=
  cond (decide (((l8_m26 : Nat) : Int) < ((a1_4.length : Nat) : Int)))
  (Option.bind (Option.bind (a1_4[l8_m26]?) fun x14 =>
    cond (x14.1 == 1)
      (Option.bind (getI a3 x14.2.2.1) fun x18 =>
      Option.bind (getI l8_m10 x14.2.1) fun x19 =>
      some (l8_m10.set x14.2.1.toNat x18, l8_m11, l8_m12))
      (cond (x14.1 == 2)
        (Option.bind (getI l8_m10 x14.2.1) fun x22 =>
        some (l8_m10.set x14.2.1.toNat 0, l8_m11, l8_m12))
        (cond (x14.1 == 3)
          (Option.bind (getI l8_m10 x14.2.2.1) fun x25 =>
          Option.bind (getI l8_m10 x14.2.2.2.1) fun x26 =>
          Option.bind (L_spec_fdAdd a0 x25 x26) fun y27 =>
          Option.bind (getI l8_m10 x14.2.1) fun x28 =>
          some (l8_m10.set x14.2.1.toNat y27, l8_m11, l8_m12))
          (cond (x14.1 == 4)
            (Option.bind (getI l8_m10 x14.2.2.1) fun x31 =>
            Option.bind (L_spec_fdMul a0 x14.2.2.2.2 x31) fun y32 =>
            Option.bind (getI l8_m10 x14.2.1) fun x33 =>
            some (l8_m10.set x14.2.1.toNat y32, l8_m11, l8_m12))
            (cond (x14.1 == 5)
              (Option.bind (getI l8_m12 x14.2.2.1) fun x36 =>
              Option.bind (getI l8_m10 x14.2.1) fun x37 =>
              some (l8_m10.set x14.2.1.toNat x36, l8_m11, l8_m12))
              (cond (x14.1 == 6)
                (Option.bind (getI l8_m10 x14.2.1) fun x40 =>
                Option.bind (getI l8_m12 x14.2.2.1) fun x41 =>
                some (l8_m10, l8_m11, l8_m12.set x14.2.2.1.toNat x40))
                (Option.bind (getI l8_m10 x14.2.1) fun x42 =>
                Option.bind (getI l8_m11 x14.2.2.1) fun x43 =>
                some (l8_m10, l8_m11.set x14.2.2.1.toNat x42, l8_m12)))))))) fun (l12_m10, l12_m11, l12_m12) =>
  og (l8_m26 + 1 < 4611686018427387904) <|
  some (Ctl.next (l8_m26 + 1, l12_m10, l12_m11, l12_m12)))
  (some (Ctl.out (l8_m11, l8_m12)))
def L_spec_cmStep (a0 : Int) (a1_0 : Int) (a1_1 : Int) (a1_2 : Int) (a1_3 : Int) (a1_4 : List (Int × Int × Int × Int × Int)) (a2 : List Int) (a3 : List Int) : Option (List Int × List Int) :=
  og (0 ≤ a1_3 ∧ a1_3 ≤ a1_3 ∧ a1_3 ≤ 1073741824 ∧ (8 : Int) * a1_3 ≤ 140737488355328) <|
og (0 ≤ a1_1 ∧ a1_1 ≤ a1_1 ∧ a1_1 ≤ 1073741824 ∧ (8 : Int) * a1_1 ≤ 140737488355328) <|
Option.bind (L_spec_l1Own a2) fun y5 =>
Option.bind (loopM (fun s_ : Nat × List Int × List Int × List Int => L_spec_cmStep_l1 a1_4 a3 a0 s_.1 s_.2.1 s_.2.2.1 s_.2.2.2) 4611686018427387904 (0, List.replicate a1_3.toNat (0 : Int), List.replicate a1_1.toNat (0 : Int), y5)) fun (l6_m11, l6_m12) =>
some (l6_m12, l6_m11)
def rv_spec_cmStep (r : List Int × List Int) : RV := ⟨true, [(false, [.new 3 .int r.1]), (false, [.new 3 .int r.2])]⟩
theorem ok_spec_cmStep {a0 : Int} {a1_0 : Int} {a1_1 : Int} {a1_2 : Int} {a1_3 : Int} {a1_4 : List (Int × Int × Int × Int × Int)} {a2 : List Int} {a3 : List Int} {r : List Int × List Int} (h : L_spec_cmStep a0 a1_0 a1_1 a1_2 a1_3 a1_4 a2 a3 = some r) : CallOK Tryd.prog Tab 43 [(ai a0), (.agg [(ai a1_0), (ai a1_1), (ai a1_2), (ai a1_3), (.tree (.pair .int (.pair .int (.pair .int (.pair .int .int)))) a1_4)]), (.tree .int a2), (.tree .int a3)] (rv_spec_cmStep r) := by
  refine call_of_ (by kernel_rfl) Tryd.func43 c_spec_cmStep (n := 116) (by kernel_rfl) (by simp) (tl := [(0, (ai a0)), (1, (.agg [(ai a1_0), (ai a1_1), (ai a1_2), (ai a1_3), (.tree (.pair .int (.pair .int (.pair .int (.pair .int .int)))) a1_4)])), (2, (.tree .int a2)), (3, (.tree .int a3))]) rfl ?_
  unfold m_spec_cmStep
  unfold L_spec_cmStep at h
  refine seqR ?_
  refine awp_seqv_ ?_
  obtain ⟨g3, h⟩ := og_some h
  obtain ⟨g4, h⟩ := og_some h
  obtain ⟨y5, h5, h⟩ := ob_some h
  refine awp_regionD_ 15 ?_
  refine ds0 (.box (oi 5 1) 3) (by kernel_rfl) ?_
  refine dsl (ai a1_3) (by kernel_rfl) ?_
  refine ds1 (.own (oi 17 6) .int 0 a1_3.toNat) (oi 17 6) (.arr 3 .int (List.replicate a1_3.toNat (0 : Int))) (s_make (t := .int) (k := .i64) (k' := .i64) (m := a1_3) (m' := a1_3) (by kernel_rfl) (by kernel_rfl) g3 rfl) ?_
  refine ds0 (.box (oi 5 1) 1) (by kernel_rfl) ?_
  refine dsl (ai a1_1) (by kernel_rfl) ?_
  refine ds1 (.own (oi 20 9) .int 0 a1_1.toNat) (oi 20 9) (.arr 3 .int (List.replicate a1_1.toNat (0 : Int))) (s_make (t := .int) (k := .i64) (k' := .i64) (m := a1_1) (m' := a1_1) (by kernel_rfl) (by kernel_rfl) g4 rfl) ?_
  refine ds0 (.tree .int a2) (by kernel_rfl) ?_
  refine dcall (.own (oi 352 11) .int 0 y5.length) [((oi 352 11), some (.arr 3 .int y5))] [(.tree .int a2)] _ (caps := []) (args0 := [(.tree .int a2)]) trivial (by kernel_rfl) (ok_spec_l1Own h5) hb_spec_l1Own ?_
  refine ds0 (.own (oi 17 6) .int 0 a1_3.toNat) (by kernel_rfl) ?_
  refine ds0 (.own (oi 20 9) .int 0 a1_1.toNat) (by kernel_rfl) ?_
  refine ds0 (.own (oi 352 11) .int 0 y5.length) (by kernel_rfl) ?_
  refine dnil (badB_spec (by kernel_rfl)) (tn_ ?_)
  refine ⟨_, Weak.refl _, ?_⟩
  refine awp_seqB h (fun t_ S_ => ∃ (l6_m11 : List Int), ∃ (l6_m12 : List Int), t_ = (l6_m11, l6_m12) ∧ S_ = ⟨mkTm [(11, (.own (oi 0 1) .int 0 l6_m11.length)), (12, (.own (oi 1 1) .int 0 l6_m12.length))], mkOb (someL [((oi 0 1), .arr 3 .int l6_m11), ((oi 1 1), .arr 3 .int l6_m12)]), 2⟩) ?_ ?_
  · intro v_ h
    refine seqR ?_
    refine awp_block_ ?_
    refine awp_loopL h (fun t_ S_ => ∃ (l8_m26 : Nat), ∃ (l8_m10 : List Int), ∃ (l8_m11 : List Int), ∃ (l8_m12 : List Int), t_ = (l8_m26, l8_m10, l8_m11, l8_m12) ∧ S_ = ⟨mkTm [(0, (ai a0)), (3, (.tree .int a3)), (10, (.own (oi 0 1) .int 0 l8_m10.length)), (11, (.own (oi 1 1) .int 0 l8_m11.length)), (12, (.own (oi 2 1) .int 0 l8_m12.length)), (24, (.tree (.pair .int (.pair .int (.pair .int (.pair .int .int)))) a1_4)), (25, (ai ((a1_4.length : Nat) : Int))), (26, (ai ((l8_m26 : Nat) : Int)))], mkOb (someL [((oi 0 1), .arr 3 .int l8_m10), ((oi 1 1), .arr 3 .int l8_m11), ((oi 2 1), .arr 3 .int l8_m12)]), 2⟩) ⟨_, ((weak_tm_ 10 (.own (oi 17 6) .int 0 a1_3.toNat) (.own (oi 17 6) .int 0 ((List.replicate a1_3.toNat (0 : Int)).length)) (by kernel_rfl) (congrArg (fun z_ => ((.own (oi 17 6) .int 0 z_) : AV)) (List.length_replicate.symm : a1_3.toNat = (List.replicate a1_3.toNat (0 : Int)).length))).trans ((weak_tm_ 11 (.own (oi 20 9) .int 0 a1_1.toNat) (.own (oi 20 9) .int 0 ((List.replicate a1_1.toNat (0 : Int)).length)) (by kernel_rfl) (congrArg (fun z_ => ((.own (oi 20 9) .int 0 z_) : AV)) (List.length_replicate.symm : a1_1.toNat = (List.replicate a1_1.toNat (0 : Int)).length))).trans (weak_ren [((oi 0 1), (oi 17 6)), ((oi 1 1), (oi 20 9)), ((oi 2 1), (oi 352 11))]))), ⟨0, List.replicate a1_3.toNat (0 : Int), List.replicate a1_1.toNat (0 : Int), y5, rfl, rfl⟩⟩ ?_
    rintro n_ _ _ c_ ⟨l8_m26, l8_m10, l8_m11, l8_m12, rfl, rfl⟩ h hn8
    (try dsimp only at h)
    unfold L_spec_cmStep_l1 at h
    unfold m_spec_cmStep_l1
    refine seqR ?_
    refine awp_seqv_ ?_
    rcases cond_some h with ⟨q11, h⟩ | ⟨q11, h⟩
    · have q11_ := of_decide_eq_true q11
      refine awp_condT_ q11 ?_
      refine awp_skip_ (tn_ ?_)
      refine ⟨_, Weak.refl _, ?_⟩
      refine awp_seqB h (fun t_ S_ => ∃ (l12_m10 : List Int), ∃ (l12_m11 : List Int), ∃ (l12_m12 : List Int), t_ = (l12_m10, l12_m11, l12_m12) ∧ S_ = ⟨mkTm [(0, (ai a0)), (3, (.tree .int a3)), (10, (.own (oi 0 1) .int 0 l12_m10.length)), (11, (.own (oi 1 1) .int 0 l12_m11.length)), (12, (.own (oi 2 1) .int 0 l12_m12.length)), (24, (.tree (.pair .int (.pair .int (.pair .int (.pair .int .int)))) a1_4)), (25, (ai ((a1_4.length : Nat) : Int))), (26, (ai ((l8_m26 : Nat) : Int)))], mkOb (someL [((oi 0 1), .arr 3 .int l12_m10), ((oi 1 1), .arr 3 .int l12_m11), ((oi 2 1), .arr 3 .int l12_m12)]), 2⟩) ?_ ?_
      · intro v_ h
        refine awp_block_ ?_
        refine awp_seqv_ ?_
        obtain ⟨x14, e14, h⟩ := ob_some h
        refine awp_region_ 7 ?_
        refine rs0 (.telt (.pair .int (.pair .int (.pair .int (.pair .int .int)))) x14 0) (s_idxT (t := (.pair .int (.pair .int (.pair .int (.pair .int .int))))) (xs := a1_4) (k := .i64) (m := ((l8_m26 : Nat) : Int)) (by kernel_rfl) (by kernel_rfl) rfl (nat_nn _) rfl e14) ?_
        refine rsB 3 ?_
        refine rnil (tn_ ?_)
        refine ⟨_, Weak.refl _, ?_⟩
        refine seqR ?_
        refine awp_block_ ?_
        refine seqR ?_
        rcases cond_some h with ⟨q17, h⟩ | ⟨q17, h⟩
        · refine awp_condT_ q17 ?_
          obtain ⟨x18, f18, h⟩ := ob_some h
          obtain ⟨p18, b18, e18⟩ := getI_some f18
          obtain ⟨x19, f19, h⟩ := ob_some h
          obtain ⟨p19, b19, e19⟩ := getI_some f19
          refine awp_regionD_ 21 ?_
          refine ds0 (.own (oi 0 1) .int 0 l8_m10.length) (by kernel_rfl) ?_
          refine ds0 (.box (oi 14 5) 1) (by kernel_rfl) ?_
          refine dsl (ai x14.2.1) (by kernel_rfl) ?_
          refine ds0 (.tree .int a3) (by kernel_rfl) ?_
          refine ds0 (.box (oi 14 5) 2) (by kernel_rfl) ?_
          refine dsl (ai x14.2.2.1) (by kernel_rfl) ?_
          refine ds0 (.telt .int x18 0) (s_idxT (t := .int) (xs := a3) (k := .i64) (m := x14.2.2.1) (by kernel_rfl) (by kernel_rfl) rfl p18 rfl e18) ?_
          refine ds0 (ai x18) (by kernel_rfl) ?_
          refine ds0 (.elt (oi 0 1) x14.2.1.toNat 0) (s_idxO (t := .int) (o := (oi 0 1)) (len := l8_m10.length) (k := .i64) (m := x14.2.1) (by kernel_rfl) (by kernel_rfl) rfl p19 rfl (getN_lt e19)) ?_
          refine dsn2 (oi 0 1) (oi 0 1) (.arr 3 .int (l8_m10.set x14.2.1.toNat x18)) (s_stE (i := (oi 0 1)) (j := x14.2.1.toNat) (k := 0) (e := 3) (t := .int) (xs := l8_m10) (cs := [(ai x18)]) (x1 := x18) (by kernel_rfl) (by kernel_rfl) e19 (by kernel_rfl) (by kernel_rfl)) ?_
          refine dnil (badB_spec (by kernel_rfl)) (bn_ (bn_ (tn_ ?_)))
          obtain rfl := Option.some.inj h
          exact ⟨_, ((weak_tm_ 10 (.own (oi 0 1) .int 0 l8_m10.length) (.own (oi 0 1) .int 0 ((l8_m10.set x14.2.1.toNat x18).length)) (by kernel_rfl) (congrArg (fun z_ => ((.own (oi 0 1) .int 0 z_) : AV)) (((rfl : l8_m10.length = l8_m10.length).trans List.length_set.symm) : l8_m10.length = (l8_m10.set x14.2.1.toNat x18).length))).trans (weak_ren [])), ⟨l8_m10.set x14.2.1.toNat x18, l8_m11, l8_m12, rfl, rfl⟩⟩
        refine awp_condF_ q17 ?_
        refine seqR ?_
        rcases cond_some h with ⟨q21, h⟩ | ⟨q21, h⟩
        · refine awp_condT_ q21 ?_
          obtain ⟨x22, f22, h⟩ := ob_some h
          obtain ⟨p22, b22, e22⟩ := getI_some f22
          refine awp_region_ 18 ?_
          refine rs0 (.own (oi 0 1) .int 0 l8_m10.length) (by kernel_rfl) ?_
          refine rs0 (.box (oi 14 5) 1) (by kernel_rfl) ?_
          refine rsl (ai x14.2.1) (by kernel_rfl) ?_
          refine rs0 (.elt (oi 0 1) x14.2.1.toNat 0) (s_idxO (t := .int) (o := (oi 0 1)) (len := l8_m10.length) (k := .i64) (m := x14.2.1) (by kernel_rfl) (by kernel_rfl) rfl p22 rfl (getN_lt e22)) ?_
          refine rsn2 (oi 0 1) (oi 0 1) (.arr 3 .int (l8_m10.set x14.2.1.toNat 0)) (s_stE (i := (oi 0 1)) (j := x14.2.1.toNat) (k := 0) (e := 3) (t := .int) (xs := l8_m10) (cs := [(ai 0)]) (x1 := 0) (by kernel_rfl) (by kernel_rfl) e22 (by kernel_rfl) (by kernel_rfl)) ?_
          refine rnil (bn_ (bn_ (tn_ ?_)))
          obtain rfl := Option.some.inj h
          exact ⟨_, ((weak_tm_ 10 (.own (oi 0 1) .int 0 l8_m10.length) (.own (oi 0 1) .int 0 ((l8_m10.set x14.2.1.toNat 0).length)) (by kernel_rfl) (congrArg (fun z_ => ((.own (oi 0 1) .int 0 z_) : AV)) (((rfl : l8_m10.length = l8_m10.length).trans List.length_set.symm) : l8_m10.length = (l8_m10.set x14.2.1.toNat 0).length))).trans (weak_ren [])), ⟨l8_m10.set x14.2.1.toNat 0, l8_m11, l8_m12, rfl, rfl⟩⟩
        refine awp_condF_ q21 ?_
        refine seqR ?_
        rcases cond_some h with ⟨q24, h⟩ | ⟨q24, h⟩
        · refine awp_condT_ q24 ?_
          obtain ⟨x25, f25, h⟩ := ob_some h
          obtain ⟨p25, b25, e25⟩ := getI_some f25
          obtain ⟨x26, f26, h⟩ := ob_some h
          obtain ⟨p26, b26, e26⟩ := getI_some f26
          obtain ⟨y27, h27, h⟩ := ob_some h
          obtain ⟨x28, f28, h⟩ := ob_some h
          obtain ⟨p28, b28, e28⟩ := getI_some f28
          refine awp_regionD_ 32 ?_
          refine ds0 (.own (oi 0 1) .int 0 l8_m10.length) (by kernel_rfl) ?_
          refine ds0 (.box (oi 14 5) 1) (by kernel_rfl) ?_
          refine dsl (ai x14.2.1) (by kernel_rfl) ?_
          refine ds0 (ai a0) (by kernel_rfl) ?_
          refine ds0 (.own (oi 0 1) .int 0 l8_m10.length) (by kernel_rfl) ?_
          refine ds0 (.box (oi 14 5) 2) (by kernel_rfl) ?_
          refine dsl (ai x14.2.2.1) (by kernel_rfl) ?_
          refine ds0 (.elt (oi 0 1) x14.2.2.1.toNat 0) (s_idxO (t := .int) (o := (oi 0 1)) (len := l8_m10.length) (k := .i64) (m := x14.2.2.1) (by kernel_rfl) (by kernel_rfl) rfl p25 rfl (getN_lt e25)) ?_
          refine dsl (ai x25) (s_ldE (i := (oi 0 1)) (j := x14.2.2.1.toNat) (k := 0) (e := 3) (t := .int) (xs := l8_m10) (by kernel_rfl) (by kernel_rfl) e25 (by kernel_rfl)) ?_
          refine ds0 (.own (oi 0 1) .int 0 l8_m10.length) (by kernel_rfl) ?_
          refine ds0 (.box (oi 14 5) 3) (by kernel_rfl) ?_
          refine dsl (ai x14.2.2.2.1) (by kernel_rfl) ?_
          refine ds0 (.elt (oi 0 1) x14.2.2.2.1.toNat 0) (s_idxO (t := .int) (o := (oi 0 1)) (len := l8_m10.length) (k := .i64) (m := x14.2.2.2.1) (by kernel_rfl) (by kernel_rfl) rfl p26 rfl (getN_lt e26)) ?_
          refine dsl (ai x26) (s_ldE (i := (oi 0 1)) (j := x14.2.2.2.1.toNat) (k := 0) (e := 3) (t := .int) (xs := l8_m10) (by kernel_rfl) (by kernel_rfl) e26 (by kernel_rfl)) ?_
          refine dcall (ai y27) [] [(ai a0), (ai x25), (ai x26)] _ (caps := []) (args0 := [(ai a0), (ai x25), (ai x26)]) trivial (by kernel_rfl) (ok_spec_fdAdd h27) hb_spec_fdAdd ?_
          refine ds0 (.elt (oi 0 1) x14.2.1.toNat 0) (s_idxO (t := .int) (o := (oi 0 1)) (len := l8_m10.length) (k := .i64) (m := x14.2.1) (by kernel_rfl) (by kernel_rfl) rfl p28 rfl (getN_lt e28)) ?_
          refine dsn2 (oi 0 1) (oi 0 1) (.arr 3 .int (l8_m10.set x14.2.1.toNat y27)) (s_stE (i := (oi 0 1)) (j := x14.2.1.toNat) (k := 0) (e := 3) (t := .int) (xs := l8_m10) (cs := [(ai y27)]) (x1 := y27) (by kernel_rfl) (by kernel_rfl) e28 (by kernel_rfl) (by kernel_rfl)) ?_
          refine dnil (badB_spec (by kernel_rfl)) (bn_ (bn_ (tn_ ?_)))
          obtain rfl := Option.some.inj h
          exact ⟨_, ((weak_tm_ 10 (.own (oi 0 1) .int 0 l8_m10.length) (.own (oi 0 1) .int 0 ((l8_m10.set x14.2.1.toNat y27).length)) (by kernel_rfl) (congrArg (fun z_ => ((.own (oi 0 1) .int 0 z_) : AV)) (((rfl : l8_m10.length = l8_m10.length).trans List.length_set.symm) : l8_m10.length = (l8_m10.set x14.2.1.toNat y27).length))).trans (weak_ren [])), ⟨l8_m10.set x14.2.1.toNat y27, l8_m11, l8_m12, rfl, rfl⟩⟩
        refine awp_condF_ q24 ?_
        refine seqR ?_
        rcases cond_some h with ⟨q30, h⟩ | ⟨q30, h⟩
        · refine awp_condT_ q30 ?_
          obtain ⟨x31, f31, h⟩ := ob_some h
          obtain ⟨p31, b31, e31⟩ := getI_some f31
          obtain ⟨y32, h32, h⟩ := ob_some h
          obtain ⟨x33, f33, h⟩ := ob_some h
          obtain ⟨p33, b33, e33⟩ := getI_some f33
          refine awp_regionD_ 31 ?_
          refine ds0 (.own (oi 0 1) .int 0 l8_m10.length) (by kernel_rfl) ?_
          refine ds0 (.box (oi 14 5) 1) (by kernel_rfl) ?_
          refine dsl (ai x14.2.1) (by kernel_rfl) ?_
          refine ds0 (ai a0) (by kernel_rfl) ?_
          refine ds0 (.box (oi 14 5) 4) (by kernel_rfl) ?_
          refine dsl (ai x14.2.2.2.2) (by kernel_rfl) ?_
          refine ds0 (.own (oi 0 1) .int 0 l8_m10.length) (by kernel_rfl) ?_
          refine ds0 (.box (oi 14 5) 2) (by kernel_rfl) ?_
          refine dsl (ai x14.2.2.1) (by kernel_rfl) ?_
          refine ds0 (.elt (oi 0 1) x14.2.2.1.toNat 0) (s_idxO (t := .int) (o := (oi 0 1)) (len := l8_m10.length) (k := .i64) (m := x14.2.2.1) (by kernel_rfl) (by kernel_rfl) rfl p31 rfl (getN_lt e31)) ?_
          refine dsl (ai x31) (s_ldE (i := (oi 0 1)) (j := x14.2.2.1.toNat) (k := 0) (e := 3) (t := .int) (xs := l8_m10) (by kernel_rfl) (by kernel_rfl) e31 (by kernel_rfl)) ?_
          refine dcall (ai y32) [] [(ai a0), (ai x14.2.2.2.2), (ai x31)] _ (caps := []) (args0 := [(ai a0), (ai x14.2.2.2.2), (ai x31)]) trivial (by kernel_rfl) (ok_spec_fdMul h32) hb_spec_fdMul ?_
          refine ds0 (.elt (oi 0 1) x14.2.1.toNat 0) (s_idxO (t := .int) (o := (oi 0 1)) (len := l8_m10.length) (k := .i64) (m := x14.2.1) (by kernel_rfl) (by kernel_rfl) rfl p33 rfl (getN_lt e33)) ?_
          refine dsn2 (oi 0 1) (oi 0 1) (.arr 3 .int (l8_m10.set x14.2.1.toNat y32)) (s_stE (i := (oi 0 1)) (j := x14.2.1.toNat) (k := 0) (e := 3) (t := .int) (xs := l8_m10) (cs := [(ai y32)]) (x1 := y32) (by kernel_rfl) (by kernel_rfl) e33 (by kernel_rfl) (by kernel_rfl)) ?_
          refine dnil (badB_spec (by kernel_rfl)) (bn_ (bn_ (tn_ ?_)))
          obtain rfl := Option.some.inj h
          exact ⟨_, ((weak_tm_ 10 (.own (oi 0 1) .int 0 l8_m10.length) (.own (oi 0 1) .int 0 ((l8_m10.set x14.2.1.toNat y32).length)) (by kernel_rfl) (congrArg (fun z_ => ((.own (oi 0 1) .int 0 z_) : AV)) (((rfl : l8_m10.length = l8_m10.length).trans List.length_set.symm) : l8_m10.length = (l8_m10.set x14.2.1.toNat y32).length))).trans (weak_ren [])), ⟨l8_m10.set x14.2.1.toNat y32, l8_m11, l8_m12, rfl, rfl⟩⟩
        refine awp_condF_ q30 ?_
        refine seqR ?_
        rcases cond_some h with ⟨q35, h⟩ | ⟨q35, h⟩
        · refine awp_condT_ q35 ?_
          obtain ⟨x36, f36, h⟩ := ob_some h
          obtain ⟨p36, b36, e36⟩ := getI_some f36
          obtain ⟨x37, f37, h⟩ := ob_some h
          obtain ⟨p37, b37, e37⟩ := getI_some f37
          refine awp_regionD_ 29 ?_
          refine ds0 (.own (oi 0 1) .int 0 l8_m10.length) (by kernel_rfl) ?_
          refine ds0 (.box (oi 14 5) 1) (by kernel_rfl) ?_
          refine dsl (ai x14.2.1) (by kernel_rfl) ?_
          refine ds0 (.own (oi 2 1) .int 0 l8_m12.length) (by kernel_rfl) ?_
          refine ds0 (.box (oi 14 5) 2) (by kernel_rfl) ?_
          refine dsl (ai x14.2.2.1) (by kernel_rfl) ?_
          refine ds0 (.elt (oi 2 1) x14.2.2.1.toNat 0) (s_idxO (t := .int) (o := (oi 2 1)) (len := l8_m12.length) (k := .i64) (m := x14.2.2.1) (by kernel_rfl) (by kernel_rfl) rfl p36 rfl (getN_lt e36)) ?_
          refine dsl (ai x36) (s_ldE (i := (oi 2 1)) (j := x14.2.2.1.toNat) (k := 0) (e := 3) (t := .int) (xs := l8_m12) (by kernel_rfl) (by kernel_rfl) e36 (by kernel_rfl)) ?_
          refine ds0 (.elt (oi 0 1) x14.2.1.toNat 0) (s_idxO (t := .int) (o := (oi 0 1)) (len := l8_m10.length) (k := .i64) (m := x14.2.1) (by kernel_rfl) (by kernel_rfl) rfl p37 rfl (getN_lt e37)) ?_
          refine dsn2 (oi 0 1) (oi 0 1) (.arr 3 .int (l8_m10.set x14.2.1.toNat x36)) (s_stE (i := (oi 0 1)) (j := x14.2.1.toNat) (k := 0) (e := 3) (t := .int) (xs := l8_m10) (cs := [(ai x36)]) (x1 := x36) (by kernel_rfl) (by kernel_rfl) e37 (by kernel_rfl) (by kernel_rfl)) ?_
          refine dnil (badB_spec (by kernel_rfl)) (bn_ (bn_ (tn_ ?_)))
          obtain rfl := Option.some.inj h
          exact ⟨_, ((weak_tm_ 10 (.own (oi 0 1) .int 0 l8_m10.length) (.own (oi 0 1) .int 0 ((l8_m10.set x14.2.1.toNat x36).length)) (by kernel_rfl) (congrArg (fun z_ => ((.own (oi 0 1) .int 0 z_) : AV)) (((rfl : l8_m10.length = l8_m10.length).trans List.length_set.symm) : l8_m10.length = (l8_m10.set x14.2.1.toNat x36).length))).trans (weak_ren [])), ⟨l8_m10.set x14.2.1.toNat x36, l8_m11, l8_m12, rfl, rfl⟩⟩
        refine awp_condF_ q35 ?_
        refine seqR ?_
        rcases cond_some h with ⟨q39, h⟩ | ⟨q39, h⟩
        · refine awp_condT_ q39 ?_
          obtain ⟨x40, f40, h⟩ := ob_some h
          obtain ⟨p40, b40, e40⟩ := getI_some f40
          obtain ⟨x41, f41, h⟩ := ob_some h
          obtain ⟨p41, b41, e41⟩ := getI_some f41
          refine awp_regionD_ 31 ?_
          refine ds0 (.own (oi 2 1) .int 0 l8_m12.length) (by kernel_rfl) ?_
          refine ds0 (.box (oi 14 5) 2) (by kernel_rfl) ?_
          refine dsl (ai x14.2.2.1) (by kernel_rfl) ?_
          refine ds0 (.own (oi 0 1) .int 0 l8_m10.length) (by kernel_rfl) ?_
          refine ds0 (.box (oi 14 5) 1) (by kernel_rfl) ?_
          refine dsl (ai x14.2.1) (by kernel_rfl) ?_
          refine ds0 (.elt (oi 0 1) x14.2.1.toNat 0) (s_idxO (t := .int) (o := (oi 0 1)) (len := l8_m10.length) (k := .i64) (m := x14.2.1) (by kernel_rfl) (by kernel_rfl) rfl p40 rfl (getN_lt e40)) ?_
          refine dsl (ai x40) (s_ldE (i := (oi 0 1)) (j := x14.2.1.toNat) (k := 0) (e := 3) (t := .int) (xs := l8_m10) (by kernel_rfl) (by kernel_rfl) e40 (by kernel_rfl)) ?_
          refine ds0 (.elt (oi 2 1) x14.2.2.1.toNat 0) (s_idxO (t := .int) (o := (oi 2 1)) (len := l8_m12.length) (k := .i64) (m := x14.2.2.1) (by kernel_rfl) (by kernel_rfl) rfl p41 rfl (getN_lt e41)) ?_
          refine dsn2 (oi 2 1) (oi 2 1) (.arr 3 .int (l8_m12.set x14.2.2.1.toNat x40)) (s_stE (i := (oi 2 1)) (j := x14.2.2.1.toNat) (k := 0) (e := 3) (t := .int) (xs := l8_m12) (cs := [(ai x40)]) (x1 := x40) (by kernel_rfl) (by kernel_rfl) e41 (by kernel_rfl) (by kernel_rfl)) ?_
          refine dnil (badB_spec (by kernel_rfl)) (bn_ (bn_ (tn_ ?_)))
          obtain rfl := Option.some.inj h
          exact ⟨_, ((weak_tm_ 12 (.own (oi 2 1) .int 0 l8_m12.length) (.own (oi 2 1) .int 0 ((l8_m12.set x14.2.2.1.toNat x40).length)) (by kernel_rfl) (congrArg (fun z_ => ((.own (oi 2 1) .int 0 z_) : AV)) (((rfl : l8_m12.length = l8_m12.length).trans List.length_set.symm) : l8_m12.length = (l8_m12.set x14.2.2.1.toNat x40).length))).trans (weak_ren [])), ⟨l8_m10, l8_m11, l8_m12.set x14.2.2.1.toNat x40, rfl, rfl⟩⟩
        refine awp_condF_ q39 ?_
        obtain ⟨x42, f42, h⟩ := ob_some h
        obtain ⟨p42, b42, e42⟩ := getI_some f42
        obtain ⟨x43, f43, h⟩ := ob_some h
        obtain ⟨p43, b43, e43⟩ := getI_some f43
        refine awp_regionD_ 31 ?_
        refine ds0 (.own (oi 1 1) .int 0 l8_m11.length) (by kernel_rfl) ?_
        refine ds0 (.box (oi 14 5) 2) (by kernel_rfl) ?_
        refine dsl (ai x14.2.2.1) (by kernel_rfl) ?_
        refine ds0 (.own (oi 0 1) .int 0 l8_m10.length) (by kernel_rfl) ?_
        refine ds0 (.box (oi 14 5) 1) (by kernel_rfl) ?_
        refine dsl (ai x14.2.1) (by kernel_rfl) ?_
        refine ds0 (.elt (oi 0 1) x14.2.1.toNat 0) (s_idxO (t := .int) (o := (oi 0 1)) (len := l8_m10.length) (k := .i64) (m := x14.2.1) (by kernel_rfl) (by kernel_rfl) rfl p42 rfl (getN_lt e42)) ?_
        refine dsl (ai x42) (s_ldE (i := (oi 0 1)) (j := x14.2.1.toNat) (k := 0) (e := 3) (t := .int) (xs := l8_m10) (by kernel_rfl) (by kernel_rfl) e42 (by kernel_rfl)) ?_
        refine ds0 (.elt (oi 1 1) x14.2.2.1.toNat 0) (s_idxO (t := .int) (o := (oi 1 1)) (len := l8_m11.length) (k := .i64) (m := x14.2.2.1) (by kernel_rfl) (by kernel_rfl) rfl p43 rfl (getN_lt e43)) ?_
        refine dsn2 (oi 1 1) (oi 1 1) (.arr 3 .int (l8_m11.set x14.2.2.1.toNat x42)) (s_stE (i := (oi 1 1)) (j := x14.2.2.1.toNat) (k := 0) (e := 3) (t := .int) (xs := l8_m11) (cs := [(ai x42)]) (x1 := x42) (by kernel_rfl) (by kernel_rfl) e43 (by kernel_rfl) (by kernel_rfl)) ?_
        refine dnil (badB_spec (by kernel_rfl)) (bn_ (bn_ (tn_ ?_)))
        obtain rfl := Option.some.inj h
        exact ⟨_, ((weak_tm_ 11 (.own (oi 1 1) .int 0 l8_m11.length) (.own (oi 1 1) .int 0 ((l8_m11.set x14.2.2.1.toNat x42).length)) (by kernel_rfl) (congrArg (fun z_ => ((.own (oi 1 1) .int 0 z_) : AV)) (((rfl : l8_m11.length = l8_m11.length).trans List.length_set.symm) : l8_m11.length = (l8_m11.set x14.2.2.1.toNat x42).length))).trans (weak_ren [])), ⟨l8_m10, l8_m11.set x14.2.2.1.toNat x42, l8_m12, rfl, rfl⟩⟩
      rintro _ _ ⟨l12_m10, l12_m11, l12_m12, rfl, rfl⟩ h
      (try dsimp only at h)
      obtain ⟨g44, h⟩ := og_some h
      refine awp_region_ 4 ?_
      refine rs0 (ai ((l8_m26 + 1 : Nat) : Int)) (s_add1 (j := l8_m26) (by kernel_rfl) (by kernel_rfl) g44) ?_
      refine rsB 1 ?_
      refine rnil (tn_ ?_)
      obtain rfl := Option.some.inj h
      exact ⟨(l8_m26 + 1, l12_m10, l12_m11, l12_m12), _, (weak_ren []), ⟨l8_m26 + 1, l12_m10, l12_m11, l12_m12, rfl, rfl⟩, hn8⟩
    have q11_ := of_decide_eq_false q11
    refine awp_condF_ q11 ?_
    refine awp_exit_ (te_ (te_ (be_ (tn_ ?_))))
    obtain rfl := Option.some.inj h
    have h := hn8
    (try dsimp only at h)
    obtain rfl := Option.some.inj h
    exact ⟨_, (weak_ren [((oi 0 1), (oi 1 1)), ((oi 1 1), (oi 2 1))]), ⟨l8_m11, l8_m12, rfl, rfl⟩⟩
  rintro _ _ ⟨l6_m11, l6_m12, rfl, rfl⟩ h
  (try dsimp only at h)
  refine seqR ?_
  refine awp_ret_ ?_
  obtain rfl := Option.some.inj h
  exact ret_ [(.own (oi 1 1) .int 0 l6_m12.length), (.own (oi 0 1) .int 0 l6_m11.length)] (p_one rfl (l_own (by kernel_rfl) rfl) (p_one rfl (l_own (by kernel_rfl) rfl) p_nil))
def m_impl_Program_step_l1 : AC :=
  (.seq (rg [xo 25 (qb .lss (tm 24) (tm 23))])
  (.seq (.cond (tm 25)
    .skip
    (.exit 0))
  (.seq (.block 1 (.seq (rg [xo 26 (qx 5 (tm 22) (tm 24)), xo 27 (.i (.ld false 5 (tm 26))), xo 14 (.i (.alloc 69 [(.int .i64 0), (.int .i64 0), (.int .i64 0), (.int .i64 0), (.int .i64 0)])), xn (.st false 5 (tm 14) (tm 27))])
  (.seq (rg [xo 28 (qf 0 (tm 14)), xo 29 (ql (tm 28))])
  (.block 2 (.seq (rg [xo 31 (qb .eql (tm 29) (ci 1)), xo 30 (qm (tm 31))])
  (.cond (tm 30)
    (.region [xo 32 (qf 1 (tm 14)), xo 33 (ql (tm 32)), xo 34 (qm (tm 3)), xo 35 (qf 2 (tm 14)), xo 36 (ql (tm 35)), xo 37 (qx 1 (tm 34) (tm 36)), xo 38 (ql (tm 37)), xo 39 (.i (.idxA 59 16 (tm 10) (tm 33))), xn (qs (tm 39) (tm 38))] true [])
    (.seq (rg [xo 41 (qb .eql (tm 29) (ci 2)), xo 40 (qm (tm 41))])
    (.cond (tm 40)
      (rg [xo 42 (qf 1 (tm 14)), xo 43 (ql (tm 42)), xo 44 (.i (.idxA 59 16 (tm 10) (tm 43))), xn (qs (tm 44) (ci 0))])
      (.seq (rg [xo 46 (qb .eql (tm 29) (ci 3)), xo 45 (qm (tm 46))])
      (.cond (tm 45)
        (.region [xo 47 (qf 1 (tm 14)), xo 48 (ql (tm 47)), xo 49 (qm (tm 1)), xo 50 (qf 2 (tm 14)), xo 51 (ql (tm 50)), xo 52 (.i (.idxA 59 16 (tm 10) (tm 51))), xo 53 (ql (tm 52)), xo 54 (qf 3 (tm 14)), xo 55 (ql (tm 54)), xo 56 (.i (.idxA 59 16 (tm 10) (tm 55))), xo 57 (ql (tm 56)), xo 58 (qb .add (tm 53) (tm 57)), xo 59 (qc 72 [(tm 49), (tm 58)] [[], []]), xo 60 (.i (.idxA 59 16 (tm 10) (tm 48))), xn (qs (tm 60) (tm 59))] true [(1, 12)])
        (.seq (rg [xo 62 (qb .eql (tm 29) (ci 4)), xo 61 (qm (tm 62))])
        (.cond (tm 61)
          (.region [xo 63 (qf 1 (tm 14)), xo 64 (ql (tm 63)), xo 65 (qm (tm 1)), xo 66 (qf 4 (tm 14)), xo 67 (ql (tm 66)), xo 68 (qf 2 (tm 14)), xo 69 (ql (tm 68)), xo 70 (.i (.idxA 59 16 (tm 10) (tm 69))), xo 71 (ql (tm 70)), xo 72 (qb .mul (tm 67) (tm 71)), xo 73 (qc 72 [(tm 65), (tm 72)] [[], []]), xo 74 (.i (.idxA 59 16 (tm 10) (tm 64))), xn (qs (tm 74) (tm 73))] true [(1, 10)])
          (.seq (rg [xo 76 (qb .eql (tm 29) (ci 5)), xo 75 (qm (tm 76))])
          (.cond (tm 75)
            (.region [xo 77 (qf 1 (tm 14)), xo 78 (ql (tm 77)), xo 79 (qm (tm 11)), xo 80 (qf 2 (tm 14)), xo 81 (ql (tm 80)), xo 82 (qx 1 (tm 79) (tm 81)), xo 83 (ql (tm 82)), xo 84 (.i (.idxA 59 16 (tm 10) (tm 78))), xn (qs (tm 84) (tm 83))] true [])
            (.seq (rg [xo 86 (qb .eql (tm 29) (ci 6)), xo 85 (qm (tm 86))])
            (.cond (tm 85)
              (.region [xo 87 (qm (tm 11)), xo 88 (qf 2 (tm 14)), xo 89 (ql (tm 88)), xo 90 (qf 1 (tm 14)), xo 91 (ql (tm 90)), xo 92 (.i (.idxA 59 16 (tm 10) (tm 91))), xo 93 (ql (tm 92)), xo 94 (qx 1 (tm 87) (tm 89)), xn (qs (tm 94) (tm 93))] true [])
              (.seq (rg [xo 96 (qb .eql (tm 29) (ci 7)), xo 95 (qm (tm 96))])
              (.cond (tm 95)
                (.region [xo 97 (qm (tm 12)), xo 98 (qf 2 (tm 14)), xo 99 (ql (tm 98)), xo 100 (qf 1 (tm 14)), xo 101 (ql (tm 100)), xo 102 (.i (.idxA 59 16 (tm 10) (tm 101))), xo 103 (ql (tm 102)), xo 104 (qx 1 (tm 97) (tm 99)), xn (qs (tm 104) (tm 103))] true [])
                .skip))))))))))))))))))
  (rg [xo 105 (qb .add (tm 24) (ci 1)), xo 24 (qm (tm 105))]))))
def m_impl_Program_step : AC :=
  (.seq (rg [xo 4 (.i (.box 29 (tm 0))), xo 8 (qm (.cst .nils)), xo 9 (qm (.cst .nils))])
  (.seq (.region [xo 15 (.build [(.int .i64 0), (.int .i64 0), (.int .i64 0), (.int .i64 0), (.int .i64 0), (.int .i64 0), (.int .i64 0), (.int .i64 0), (.int .i64 0), (.int .i64 0), (.int .i64 0), (.int .i64 0), (.int .i64 0), (.int .i64 0), (.int .i64 0), (.int .i64 0)] []), xo 16 (qm (tm 2)), xo 17 (qc 71 [(tm 16)] [[(some .int)]]), xo 18 (qf 1 (tm 4)), xo 19 (ql (tm 18)), xo 20 (qc 54 [(tm 19)] [[]]), ⟨(some 10), none, (.makeA 59 (.pair .int (.pair .int (.pair .int (.pair .int (.pair .int (.pair .int (.pair .int (.pair .int (.pair .int (.pair .int (.pair .int (.pair .int (.pair .int (.pair .int (.pair .int .int))))))))))))))))⟩, xn (.st false 16 (tm 10) (tm 15)), xo 11 (qm (tm 17)), xo 12 (qm (tm 20))] true [(2, 4), (2, 6), (5, 6)])
  (.seq (.seq (rg [xo 21 (qf 4 (tm 4)), xo 22 (ql (tm 21)), xo 23 (.i (.len (tm 22))), xo 24 (qm (ci 0))])
  (.block 0 (.loop m_impl_Program_step_l1)))
  (.seq (rg [xo 106 (qm (tm 11)), xo 107 (qm (tm 12)), xo 8 (qm (tm 106)), xo 9 (qm (tm 107))])
  .ret))))
def r_impl_Program_step : List Res := [.tmp 8, .tmp 9]
theorem c_impl_Program_step : compiled Tryd.prog Tryd.f45 = some (m_impl_Program_step, r_impl_Program_step) := by kernel_rfl
theorem hb_impl_Program_step : hasBody Tryd.prog 45 = true := by kernel_rfl
def L_impl_Program_step_l1 (a0_4 : List (Int × Int × Int × Int × Int)) (a3 : List Int) (a1 : Int) (l7_m24 : Nat) (l7_m10 : List Int) (l7_m11 : List Int) (l7_m12 : List Int) : Option (Ctl (Nat × List Int × List Int × List Int) (List Int × List Int)) :=
  cond (decide (((l7_m24 : Nat) : Int) < ((a0_4.length : Nat) : Int)))
  (Option.bind (Option.bind (a0_4[l7_m24]?) fun x13 =>
    cond (x13.1 == 1)
      (Option.bind (getI a3 x13.2.2.1) fun x17 =>
      og (0 ≤ x13.2.1 ∧ x13.2.1 < ((16 : Nat) : Int)) <|
      Option.bind (getI l7_m10 x13.2.1) fun x19 =>
      some (l7_m10.set x13.2.1.toNat x17, l7_m11, l7_m12))
      (cond (x13.1 == 2)
        (og (0 ≤ x13.2.1 ∧ x13.2.1 < ((16 : Nat) : Int)) <|
        Option.bind (getI l7_m10 x13.2.1) fun x23 =>
        some (l7_m10.set x13.2.1.toNat 0, l7_m11, l7_m12))
        (cond (x13.1 == 3)
          (og (0 ≤ x13.2.2.1 ∧ x13.2.2.1 < ((16 : Nat) : Int)) <|
          Option.bind (getI l7_m10 x13.2.2.1) fun x27 =>
          og (0 ≤ x13.2.2.2.1 ∧ x13.2.2.2.1 < ((16 : Nat) : Int)) <|
          Option.bind (getI l7_m10 x13.2.2.2.1) fun x29 =>
          Option.bind (L_impl_mod a1 (IntKind.i64.wrap (x27 + x29))) fun y30 =>
          og (0 ≤ x13.2.1 ∧ x13.2.1 < ((16 : Nat) : Int)) <|
          Option.bind (getI l7_m10 x13.2.1) fun x32 =>
          some (l7_m10.set x13.2.1.toNat y30, l7_m11, l7_m12))
          (cond (x13.1 == 4)
            (og (0 ≤ x13.2.2.1 ∧ x13.2.2.1 < ((16 : Nat) : Int)) <|
            Option.bind (getI l7_m10 x13.2.2.1) fun x36 =>
            Option.bind (L_impl_mod a1 (IntKind.i64.wrap (x13.2.2.2.2 * x36))) fun y37 =>
            og (0 ≤ x13.2.1 ∧ x13.2.1 < ((16 : Nat) : Int)) <|
            Option.bind (getI l7_m10 x13.2.1) fun x39 =>
            some (l7_m10.set x13.2.1.toNat y37, l7_m11, l7_m12))
            (cond (x13.1 == 5)
              (Option.bind (getI l7_m11 x13.2.2.1) fun x42 =>
              og (0 ≤ x13.2.1 ∧ x13.2.1 < ((16 : Nat) : Int)) <|
              Option.bind (getI l7_m10 x13.2.1) fun x44 =>
              some (l7_m10.set x13.2.1.toNat x42, l7_m11, l7_m12))
              (cond (x13.1 == 6)
                (og (0 ≤ x13.2.1 ∧ x13.2.1 < ((16 : Nat) : Int)) <|
                Option.bind (getI l7_m10 x13.2.1) fun x48 =>
                Option.bind (getI l7_m11 x13.2.2.1) fun x49 =>
                some (l7_m10, l7_m11.set x13.2.2.1.toNat x48, l7_m12))
                (cond (x13.1 == 7)
                  (og (0 ≤ x13.2.1 ∧ x13.2.1 < ((16 : Nat) : Int)) <|
                  Option.bind (getI l7_m10 x13.2.1) fun x53 =>
                  Option.bind (getI l7_m12 x13.2.2.1) fun x54 =>
                  some (l7_m10, l7_m11, l7_m12.set x13.2.2.1.toNat x53))
                  (some (l7_m10, l7_m11, l7_m12))))))))) fun (l11_m10, l11_m11, l11_m12) =>
  og (l7_m24 + 1 < 4611686018427387904) <|
  some (Ctl.next (l7_m24 + 1, l11_m10, l11_m11, l11_m12)))
  (some (Ctl.out (l7_m11, l7_m12)))
def L_impl_Program_step (a0_0 : Int) (a0_1 : Int) (a0_2 : Int) (a0_3 : Int) (a0_4 : List (Int × Int × Int × Int × Int)) (a1 : Int) (a2 : List Int) (a3 : List Int) : Option (List Int × List Int) :=
  Option.bind (L_impl_clone a2) fun y3 =>
Option.bind (L_impl_zeros a0_1) fun y4 =>
Option.bind (loopM (fun s_ : Nat × List Int × List Int × List Int => L_impl_Program_step_l1 a0_4 a3 a1 s_.1 s_.2.1 s_.2.2.1 s_.2.2.2) 4611686018427387904 (0, List.replicate 16 0, y3, y4)) fun (l5_m11, l5_m12) =>
some (l5_m11, l5_m12)
def rv_impl_Program_step (r : List Int × List Int) : RV := ⟨true, [(false, [.new 3 .int r.1]), (false, [.new 3 .int r.2])]⟩
theorem ok_impl_Program_step {a0_0 : Int} {a0_1 : Int} {a0_2 : Int} {a0_3 : Int} {a0_4 : List (Int × Int × Int × Int × Int)} {a1 : Int} {a2 : List Int} {a3 : List Int} {r : List Int × List Int} (h : L_impl_Program_step a0_0 a0_1 a0_2 a0_3 a0_4 a1 a2 a3 = some r) : CallOK Tryd.prog Tab 45 [(.agg [(ai a0_0), (ai a0_1), (ai a0_2), (ai a0_3), (.tree (.pair .int (.pair .int (.pair .int (.pair .int .int)))) a0_4)]), (ai a1), (.tree .int a2), (.tree .int a3)] (rv_impl_Program_step r) := by
  refine call_of_ (by kernel_rfl) Tryd.func45 c_impl_Program_step (n := 108) (by kernel_rfl) (by simp) (tl := [(0, (.agg [(ai a0_0), (ai a0_1), (ai a0_2), (ai a0_3), (.tree (.pair .int (.pair .int (.pair .int (.pair .int .int)))) a0_4)])), (1, (ai a1)), (2, (.tree .int a2)), (3, (.tree .int a3))]) rfl ?_
  unfold m_impl_Program_step
  unfold L_impl_Program_step at h
  refine seqR ?_
  refine awp_seqv_ ?_
  obtain ⟨y3, h3, h⟩ := ob_some h
  obtain ⟨y4, h4, h⟩ := ob_some h
  refine awp_regionD_ 14 ?_
  refine ds0 (.agg [(ai 0), (ai 0), (ai 0), (ai 0), (ai 0), (ai 0), (ai 0), (ai 0), (ai 0), (ai 0), (ai 0), (ai 0), (ai 0), (ai 0), (ai 0), (ai 0)]) (by kernel_rfl) ?_
  refine ds0 (.tree .int a2) (by kernel_rfl) ?_
  refine dcall (.own (oi 272 6) .int 0 y3.length) [((oi 272 6), some (.arr 3 .int y3))] [(.tree .int a2)] _ (caps := []) (args0 := [(.tree .int a2)]) trivial (by kernel_rfl) (ok_impl_clone h3) hb_impl_clone ?_
  refine ds0 (.box (oi 4 1) 1) (by kernel_rfl) ?_
  refine dsl (ai a0_1) (by kernel_rfl) ?_
  refine dcall (.own (oi 320 9) .int 0 y4.length) [((oi 320 9), some (.arr 3 .int y4))] [(ai a0_1)] _ (caps := []) (args0 := [(ai a0_1)]) trivial (by kernel_rfl) (ok_impl_zeros h4) hb_impl_zeros ?_
  refine ds1 (.elt (oi 10 10) 0 0) (oi 10 10) (.arr 59 (tyA 15) [tupA 15 (List.replicate 16 0)]) (by kernel_rfl) ?_
  refine dsn2 (oi 10 10) (oi 10 10) (.arr 59 (tyA 15) [tupA 15 (List.replicate 16 0)]) (by kernel_rfl) ?_
  refine ds0 (.own (oi 272 6) .int 0 y3.length) (by kernel_rfl) ?_
  refine ds0 (.own (oi 320 9) .int 0 y4.length) (by kernel_rfl) ?_
  refine dnil (badB_spec (by kernel_rfl)) (tn_ ?_)
  refine ⟨_, Weak.refl _, ?_⟩
  refine awp_seqB h (fun t_ S_ => ∃ (l5_m11 : List Int), ∃ (l5_m12 : List Int), t_ = (l5_m11, l5_m12) ∧ S_ = ⟨mkTm [(11, (.own (oi 0 1) .int 0 l5_m11.length)), (12, (.own (oi 1 1) .int 0 l5_m12.length))], mkOb (someL [((oi 0 1), .arr 3 .int l5_m11), ((oi 1 1), .arr 3 .int l5_m12)]), 2⟩) ?_ ?_
  · intro v_ h
    refine seqR ?_
    refine awp_block_ ?_
    refine awp_loopL h (fun t_ S_ => ∃ (l7_m24 : Nat), ∃ (l7_m10 : List Int), ∃ (l7_m11 : List Int), ∃ (l7_m12 : List Int), t_ = (l7_m24, l7_m10, l7_m11, l7_m12) ∧ S_ = ⟨mkTm [(1, (ai a1)), (3, (.tree .int a3)), (10, (.elt (oi 0 1) 0 0)), (11, (.own (oi 1 1) .int 0 l7_m11.length)), (12, (.own (oi 2 1) .int 0 l7_m12.length)), (22, (.tree (.pair .int (.pair .int (.pair .int (.pair .int .int)))) a0_4)), (23, (ai ((a0_4.length : Nat) : Int))), (24, (ai ((l7_m24 : Nat) : Int)))], mkOb (someL [((oi 0 1), .arr 59 (tyA 15) [tupA 15 l7_m10]), ((oi 1 1), .arr 3 .int l7_m11), ((oi 2 1), .arr 3 .int l7_m12)]), 2⟩) ⟨_, (weak_ren [((oi 0 1), (oi 10 10)), ((oi 1 1), (oi 272 6)), ((oi 2 1), (oi 320 9))]), ⟨0, List.replicate 16 0, y3, y4, rfl, rfl⟩⟩ ?_
    rintro n_ _ _ c_ ⟨l7_m24, l7_m10, l7_m11, l7_m12, rfl, rfl⟩ h hn7
    (try dsimp only at h)
    unfold L_impl_Program_step_l1 at h
    unfold m_impl_Program_step_l1
    refine seqR ?_
    refine awp_seqv_ ?_
    rcases cond_some h with ⟨q10, h⟩ | ⟨q10, h⟩
    · have q10_ := of_decide_eq_true q10
      refine awp_condT_ q10 ?_
      refine awp_skip_ (tn_ ?_)
      refine ⟨_, Weak.refl _, ?_⟩
      refine awp_seqB h (fun t_ S_ => ∃ (l11_m10 : List Int), ∃ (l11_m11 : List Int), ∃ (l11_m12 : List Int), t_ = (l11_m10, l11_m11, l11_m12) ∧ S_ = ⟨mkTm [(1, (ai a1)), (3, (.tree .int a3)), (10, (.elt (oi 0 1) 0 0)), (11, (.own (oi 1 1) .int 0 l11_m11.length)), (12, (.own (oi 2 1) .int 0 l11_m12.length)), (22, (.tree (.pair .int (.pair .int (.pair .int (.pair .int .int)))) a0_4)), (23, (ai ((a0_4.length : Nat) : Int))), (24, (ai ((l7_m24 : Nat) : Int)))], mkOb (someL [((oi 0 1), .arr 59 (tyA 15) [tupA 15 l11_m10]), ((oi 1 1), .arr 3 .int l11_m11), ((oi 2 1), .arr 3 .int l11_m12)]), 2⟩) ?_ ?_
      · intro v_ h
        refine awp_block_ ?_
        refine awp_seqv_ ?_
        obtain ⟨x13, e13, h⟩ := ob_some h
        refine awp_region_ 7 ?_
        refine rs0 (.telt (.pair .int (.pair .int (.pair .int (.pair .int .int)))) x13 0) (s_idxT (t := (.pair .int (.pair .int (.pair .int (.pair .int .int))))) (xs := a0_4) (k := .i64) (m := ((l7_m24 : Nat) : Int)) (by kernel_rfl) (by kernel_rfl) rfl (nat_nn _) rfl e13) ?_
        refine rsB 3 ?_
        refine rnil (tn_ ?_)
        refine ⟨_, Weak.refl _, ?_⟩
        refine seqR ?_
        refine awp_block_ ?_
        refine seqR ?_
        rcases cond_some h with ⟨q16, h⟩ | ⟨q16, h⟩
        · refine awp_condT_ q16 ?_
          obtain ⟨x17, f17, h⟩ := ob_some h
          obtain ⟨p17, b17, e17⟩ := getI_some f17
          obtain ⟨g18, h⟩ := og_some h
          obtain ⟨x19, f19, h⟩ := ob_some h
          obtain ⟨p19, b19, e19⟩ := getI_some f19
          refine awp_regionD_ 20 ?_
          refine ds0 (.box (oi 14 5) 1) (by kernel_rfl) ?_
          refine dsl (ai x13.2.1) (by kernel_rfl) ?_
          refine ds0 (.tree .int a3) (by kernel_rfl) ?_
          refine ds0 (.box (oi 14 5) 2) (by kernel_rfl) ?_
          refine dsl (ai x13.2.2.1) (by kernel_rfl) ?_
          refine ds0 (.telt .int x17 0) (s_idxT (t := .int) (xs := a3) (k := .i64) (m := x13.2.2.1) (by kernel_rfl) (by kernel_rfl) rfl p17 rfl e17) ?_
          refine ds0 (ai x17) (by kernel_rfl) ?_
          refine ds0 (.elt (oi 0 1) 0 x13.2.1.toNat) (s_idxA (o := (oi 0 1)) (k := .i64) (m := x13.2.1) (by kernel_rfl) (by kernel_rfl) g18 rfl) ?_
          refine dsn2 (oi 0 1) (oi 0 1) (.arr 59 (tyA 15) [tupA 15 (l7_m10.set x13.2.1.toNat x17)]) (s_stA (N := 15) (ty := 59) (i := (oi 0 1)) (e := 0) (j := x13.2.1.toNat) (l := l7_m10) (v := x17) (xs := [tupA 15 l7_m10]) (by kernel_rfl) (by kernel_rfl) rfl (idxA_le g18) e19 (by kernel_rfl) rfl) ?_
          refine dnil (badB_spec (by kernel_rfl)) (bn_ (bn_ (tn_ ?_)))
          obtain rfl := Option.some.inj h
          exact ⟨_, (weak_ren []), ⟨l7_m10.set x13.2.1.toNat x17, l7_m11, l7_m12, rfl, rfl⟩⟩
        refine awp_condF_ q16 ?_
        refine seqR ?_
        rcases cond_some h with ⟨q21, h⟩ | ⟨q21, h⟩
        · refine awp_condT_ q21 ?_
          obtain ⟨g22, h⟩ := og_some h
          obtain ⟨x23, f23, h⟩ := ob_some h
          obtain ⟨p23, b23, e23⟩ := getI_some f23
          refine awp_region_ 17 ?_
          refine rs0 (.box (oi 14 5) 1) (by kernel_rfl) ?_
          refine rsl (ai x13.2.1) (by kernel_rfl) ?_
          refine rs0 (.elt (oi 0 1) 0 x13.2.1.toNat) (s_idxA (o := (oi 0 1)) (k := .i64) (m := x13.2.1) (by kernel_rfl) (by kernel_rfl) g22 rfl) ?_
          refine rsn2 (oi 0 1) (oi 0 1) (.arr 59 (tyA 15) [tupA 15 (l7_m10.set x13.2.1.toNat 0)]) (s_stA (N := 15) (ty := 59) (i := (oi 0 1)) (e := 0) (j := x13.2.1.toNat) (l := l7_m10) (v := 0) (xs := [tupA 15 l7_m10]) (by kernel_rfl) (by kernel_rfl) rfl (idxA_le g22) e23 (by kernel_rfl) rfl) ?_
          refine rnil (bn_ (bn_ (tn_ ?_)))
          obtain rfl := Option.some.inj h
          exact ⟨_, (weak_ren []), ⟨l7_m10.set x13.2.1.toNat 0, l7_m11, l7_m12, rfl, rfl⟩⟩
        refine awp_condF_ q21 ?_
        refine seqR ?_
        rcases cond_some h with ⟨q25, h⟩ | ⟨q25, h⟩
        · refine awp_condT_ q25 ?_
          obtain ⟨g26, h⟩ := og_some h
          obtain ⟨x27, f27, h⟩ := ob_some h
          obtain ⟨p27, b27, e27⟩ := getI_some f27
          obtain ⟨g28, h⟩ := og_some h
          obtain ⟨x29, f29, h⟩ := ob_some h
          obtain ⟨p29, b29, e29⟩ := getI_some f29
          obtain ⟨y30, h30, h⟩ := ob_some h
          obtain ⟨g31, h⟩ := og_some h
          obtain ⟨x32, f32, h⟩ := ob_some h
          obtain ⟨p32, b32, e32⟩ := getI_some f32
          refine awp_regionD_ 30 ?_
          refine ds0 (.box (oi 14 5) 1) (by kernel_rfl) ?_
          refine dsl (ai x13.2.1) (by kernel_rfl) ?_
          refine ds0 (ai a1) (by kernel_rfl) ?_
          refine ds0 (.box (oi 14 5) 2) (by kernel_rfl) ?_
          refine dsl (ai x13.2.2.1) (by kernel_rfl) ?_
          refine ds0 (.elt (oi 0 1) 0 x13.2.2.1.toNat) (s_idxA (o := (oi 0 1)) (k := .i64) (m := x13.2.2.1) (by kernel_rfl) (by kernel_rfl) g26 rfl) ?_
          refine dsl (ai x27) (s_ldA (N := 15) (ty := 59) (i := (oi 0 1)) (e := 0) (j := x13.2.2.1.toNat) (l := l7_m10) (xs := [tupA 15 l7_m10]) (by kernel_rfl) (by kernel_rfl) rfl (idxA_le g26) e27) ?_
          refine ds0 (.box (oi 14 5) 3) (by kernel_rfl) ?_
          refine dsl (ai x13.2.2.2.1) (by kernel_rfl) ?_
          refine ds0 (.elt (oi 0 1) 0 x13.2.2.2.1.toNat) (s_idxA (o := (oi 0 1)) (k := .i64) (m := x13.2.2.2.1) (by kernel_rfl) (by kernel_rfl) g28 rfl) ?_
          refine dsl (ai x29) (s_ldA (N := 15) (ty := 59) (i := (oi 0 1)) (e := 0) (j := x13.2.2.2.1.toNat) (l := l7_m10) (xs := [tupA 15 l7_m10]) (by kernel_rfl) (by kernel_rfl) rfl (idxA_le g28) e29) ?_
          refine ds0 (ai (IntKind.i64.wrap (x27 + x29))) (by kernel_rfl) ?_
          refine dcall (ai y30) [] [(ai a1), (ai (IntKind.i64.wrap (x27 + x29)))] _ (caps := []) (args0 := [(ai a1), (ai (IntKind.i64.wrap (x27 + x29)))]) trivial (by kernel_rfl) (ok_impl_mod h30) hb_impl_mod ?_
          refine ds0 (.elt (oi 0 1) 0 x13.2.1.toNat) (s_idxA (o := (oi 0 1)) (k := .i64) (m := x13.2.1) (by kernel_rfl) (by kernel_rfl) g31 rfl) ?_
          refine dsn2 (oi 0 1) (oi 0 1) (.arr 59 (tyA 15) [tupA 15 (l7_m10.set x13.2.1.toNat y30)]) (s_stA (N := 15) (ty := 59) (i := (oi 0 1)) (e := 0) (j := x13.2.1.toNat) (l := l7_m10) (v := y30) (xs := [tupA 15 l7_m10]) (by kernel_rfl) (by kernel_rfl) rfl (idxA_le g31) e32 (by kernel_rfl) rfl) ?_
          refine dnil (badB_spec (by kernel_rfl)) (bn_ (bn_ (tn_ ?_)))
          obtain rfl := Option.some.inj h
          exact ⟨_, (weak_ren []), ⟨l7_m10.set x13.2.1.toNat y30, l7_m11, l7_m12, rfl, rfl⟩⟩
        refine awp_condF_ q25 ?_
        refine seqR ?_
        rcases cond_some h with ⟨q34, h⟩ | ⟨q34, h⟩
        · refine awp_condT_ q34 ?_
          obtain ⟨g35, h⟩ := og_some h
          obtain ⟨x36, f36, h⟩ := ob_some h
          obtain ⟨p36, b36, e36⟩ := getI_some f36
          obtain ⟨y37, h37, h⟩ := ob_some h
          obtain ⟨g38, h⟩ := og_some h
          obtain ⟨x39, f39, h⟩ := ob_some h
          obtain ⟨p39, b39, e39⟩ := getI_some f39
          refine awp_regionD_ 30 ?_
          refine ds0 (.box (oi 14 5) 1) (by kernel_rfl) ?_
          refine dsl (ai x13.2.1) (by kernel_rfl) ?_
          refine ds0 (ai a1) (by kernel_rfl) ?_
          refine ds0 (.box (oi 14 5) 4) (by kernel_rfl) ?_
          refine dsl (ai x13.2.2.2.2) (by kernel_rfl) ?_
          refine ds0 (.box (oi 14 5) 2) (by kernel_rfl) ?_
          refine dsl (ai x13.2.2.1) (by kernel_rfl) ?_
          refine ds0 (.elt (oi 0 1) 0 x13.2.2.1.toNat) (s_idxA (o := (oi 0 1)) (k := .i64) (m := x13.2.2.1) (by kernel_rfl) (by kernel_rfl) g35 rfl) ?_
          refine dsl (ai x36) (s_ldA (N := 15) (ty := 59) (i := (oi 0 1)) (e := 0) (j := x13.2.2.1.toNat) (l := l7_m10) (xs := [tupA 15 l7_m10]) (by kernel_rfl) (by kernel_rfl) rfl (idxA_le g35) e36) ?_
          refine ds0 (ai (IntKind.i64.wrap (x13.2.2.2.2 * x36))) (by kernel_rfl) ?_
          refine dcall (ai y37) [] [(ai a1), (ai (IntKind.i64.wrap (x13.2.2.2.2 * x36)))] _ (caps := []) (args0 := [(ai a1), (ai (IntKind.i64.wrap (x13.2.2.2.2 * x36)))]) trivial (by kernel_rfl) (ok_impl_mod h37) hb_impl_mod ?_
          refine ds0 (.elt (oi 0 1) 0 x13.2.1.toNat) (s_idxA (o := (oi 0 1)) (k := .i64) (m := x13.2.1) (by kernel_rfl) (by kernel_rfl) g38 rfl) ?_
          refine dsn2 (oi 0 1) (oi 0 1) (.arr 59 (tyA 15) [tupA 15 (l7_m10.set x13.2.1.toNat y37)]) (s_stA (N := 15) (ty := 59) (i := (oi 0 1)) (e := 0) (j := x13.2.1.toNat) (l := l7_m10) (v := y37) (xs := [tupA 15 l7_m10]) (by kernel_rfl) (by kernel_rfl) rfl (idxA_le g38) e39 (by kernel_rfl) rfl) ?_
          refine dnil (badB_spec (by kernel_rfl)) (bn_ (bn_ (tn_ ?_)))
          obtain rfl := Option.some.inj h
          exact ⟨_, (weak_ren []), ⟨l7_m10.set x13.2.1.toNat y37, l7_m11, l7_m12, rfl, rfl⟩⟩
        refine awp_condF_ q34 ?_
        refine seqR ?_
        rcases cond_some h with ⟨q41, h⟩ | ⟨q41, h⟩
        · refine awp_condT_ q41 ?_
          obtain ⟨x42, f42, h⟩ := ob_some h
          obtain ⟨p42, b42, e42⟩ := getI_some f42
          obtain ⟨g43, h⟩ := og_some h
          obtain ⟨x44, f44, h⟩ := ob_some h
          obtain ⟨p44, b44, e44⟩ := getI_some f44
          refine awp_regionD_ 28 ?_
          refine ds0 (.box (oi 14 5) 1) (by kernel_rfl) ?_
          refine dsl (ai x13.2.1) (by kernel_rfl) ?_
          refine ds0 (.own (oi 1 1) .int 0 l7_m11.length) (by kernel_rfl) ?_
          refine ds0 (.box (oi 14 5) 2) (by kernel_rfl) ?_
          refine dsl (ai x13.2.2.1) (by kernel_rfl) ?_
          refine ds0 (.elt (oi 1 1) x13.2.2.1.toNat 0) (s_idxO (t := .int) (o := (oi 1 1)) (len := l7_m11.length) (k := .i64) (m := x13.2.2.1) (by kernel_rfl) (by kernel_rfl) rfl p42 rfl (getN_lt e42)) ?_
          refine dsl (ai x42) (s_ldE (i := (oi 1 1)) (j := x13.2.2.1.toNat) (k := 0) (e := 3) (t := .int) (xs := l7_m11) (by kernel_rfl) (by kernel_rfl) e42 (by kernel_rfl)) ?_
          refine ds0 (.elt (oi 0 1) 0 x13.2.1.toNat) (s_idxA (o := (oi 0 1)) (k := .i64) (m := x13.2.1) (by kernel_rfl) (by kernel_rfl) g43 rfl) ?_
          refine dsn2 (oi 0 1) (oi 0 1) (.arr 59 (tyA 15) [tupA 15 (l7_m10.set x13.2.1.toNat x42)]) (s_stA (N := 15) (ty := 59) (i := (oi 0 1)) (e := 0) (j := x13.2.1.toNat) (l := l7_m10) (v := x42) (xs := [tupA 15 l7_m10]) (by kernel_rfl) (by kernel_rfl) rfl (idxA_le g43) e44 (by kernel_rfl) rfl) ?_
          refine dnil (badB_spec (by kernel_rfl)) (bn_ (bn_ (tn_ ?_)))
          obtain rfl := Option.some.inj h
          exact ⟨_, (weak_ren []), ⟨l7_m10.set x13.2.1.toNat x42, l7_m11, l7_m12, rfl, rfl⟩⟩
        refine awp_condF_ q41 ?_
        refine seqR ?_
        rcases cond_some h with ⟨q46, h⟩ | ⟨q46, h⟩
        · refine awp_condT_ q46 ?_
          obtain ⟨g47, h⟩ := og_some h
          obtain ⟨x48, f48, h⟩ := ob_some h
          obtain ⟨p48, b48, e48⟩ := getI_some f48
          obtain ⟨x49, f49, h⟩ := ob_some h
          obtain ⟨p49, b49, e49⟩ := getI_some f49
          refine awp_regionD_ 30 ?_
          refine ds0 (.own (oi 1 1) .int 0 l7_m11.length) (by kernel_rfl) ?_
          refine ds0 (.box (oi 14 5) 2) (by kernel_rfl) ?_
          refine dsl (ai x13.2.2.1) (by kernel_rfl) ?_
          refine ds0 (.box (oi 14 5) 1) (by kernel_rfl) ?_
          refine dsl (ai x13.2.1) (by kernel_rfl) ?_
          refine ds0 (.elt (oi 0 1) 0 x13.2.1.toNat) (s_idxA (o := (oi 0 1)) (k := .i64) (m := x13.2.1) (by kernel_rfl) (by kernel_rfl) g47 rfl) ?_
          refine dsl (ai x48) (s_ldA (N := 15) (ty := 59) (i := (oi 0 1)) (e := 0) (j := x13.2.1.toNat) (l := l7_m10) (xs := [tupA 15 l7_m10]) (by kernel_rfl) (by kernel_rfl) rfl (idxA_le g47) e48) ?_
          refine ds0 (.elt (oi 1 1) x13.2.2.1.toNat 0) (s_idxO (t := .int) (o := (oi 1 1)) (len := l7_m11.length) (k := .i64) (m := x13.2.2.1) (by kernel_rfl) (by kernel_rfl) rfl p49 rfl (getN_lt e49)) ?_
          refine dsn2 (oi 1 1) (oi 1 1) (.arr 3 .int (l7_m11.set x13.2.2.1.toNat x48)) (s_stE (i := (oi 1 1)) (j := x13.2.2.1.toNat) (k := 0) (e := 3) (t := .int) (xs := l7_m11) (cs := [(ai x48)]) (x1 := x48) (by kernel_rfl) (by kernel_rfl) e49 (by kernel_rfl) (by kernel_rfl)) ?_
          refine dnil (badB_spec (by kernel_rfl)) (bn_ (bn_ (tn_ ?_)))
          obtain rfl := Option.some.inj h
          exact ⟨_, ((weak_tm_ 11 (.own (oi 1 1) .int 0 l7_m11.length) (.own (oi 1 1) .int 0 ((l7_m11.set x13.2.2.1.toNat x48).length)) (by kernel_rfl) (congrArg (fun z_ => ((.own (oi 1 1) .int 0 z_) : AV)) (((rfl : l7_m11.length = l7_m11.length).trans List.length_set.symm) : l7_m11.length = (l7_m11.set x13.2.2.1.toNat x48).length))).trans (weak_ren [])), ⟨l7_m10, l7_m11.set x13.2.2.1.toNat x48, l7_m12, rfl, rfl⟩⟩
        refine awp_condF_ q46 ?_
        refine seqR ?_
        rcases cond_some h with ⟨q51, h⟩ | ⟨q51, h⟩
        · refine awp_condT_ q51 ?_
          obtain ⟨g52, h⟩ := og_some h
          obtain ⟨x53, f53, h⟩ := ob_some h
          obtain ⟨p53, b53, e53⟩ := getI_some f53
          obtain ⟨x54, f54, h⟩ := ob_some h
          obtain ⟨p54, b54, e54⟩ := getI_some f54
          refine awp_regionD_ 32 ?_
          refine ds0 (.own (oi 2 1) .int 0 l7_m12.length) (by kernel_rfl) ?_
          refine ds0 (.box (oi 14 5) 2) (by kernel_rfl) ?_
          refine dsl (ai x13.2.2.1) (by kernel_rfl) ?_
          refine ds0 (.box (oi 14 5) 1) (by kernel_rfl) ?_
          refine dsl (ai x13.2.1) (by kernel_rfl) ?_
          refine ds0 (.elt (oi 0 1) 0 x13.2.1.toNat) (s_idxA (o := (oi 0 1)) (k := .i64) (m := x13.2.1) (by kernel_rfl) (by kernel_rfl) g52 rfl) ?_
          refine dsl (ai x53) (s_ldA (N := 15) (ty := 59) (i := (oi 0 1)) (e := 0) (j := x13.2.1.toNat) (l := l7_m10) (xs := [tupA 15 l7_m10]) (by kernel_rfl) (by kernel_rfl) rfl (idxA_le g52) e53) ?_
          refine ds0 (.elt (oi 2 1) x13.2.2.1.toNat 0) (s_idxO (t := .int) (o := (oi 2 1)) (len := l7_m12.length) (k := .i64) (m := x13.2.2.1) (by kernel_rfl) (by kernel_rfl) rfl p54 rfl (getN_lt e54)) ?_
          refine dsn2 (oi 2 1) (oi 2 1) (.arr 3 .int (l7_m12.set x13.2.2.1.toNat x53)) (s_stE (i := (oi 2 1)) (j := x13.2.2.1.toNat) (k := 0) (e := 3) (t := .int) (xs := l7_m12) (cs := [(ai x53)]) (x1 := x53) (by kernel_rfl) (by kernel_rfl) e54 (by kernel_rfl) (by kernel_rfl)) ?_
          refine dnil (badB_spec (by kernel_rfl)) (bn_ (bn_ (tn_ ?_)))
          obtain rfl := Option.some.inj h
          exact ⟨_, ((weak_tm_ 12 (.own (oi 2 1) .int 0 l7_m12.length) (.own (oi 2 1) .int 0 ((l7_m12.set x13.2.2.1.toNat x53).length)) (by kernel_rfl) (congrArg (fun z_ => ((.own (oi 2 1) .int 0 z_) : AV)) (((rfl : l7_m12.length = l7_m12.length).trans List.length_set.symm) : l7_m12.length = (l7_m12.set x13.2.2.1.toNat x53).length))).trans (weak_ren [])), ⟨l7_m10, l7_m11, l7_m12.set x13.2.2.1.toNat x53, rfl, rfl⟩⟩
        refine awp_condF_ q51 ?_
        refine awp_skip_ (bn_ (bn_ (tn_ ?_)))
        obtain rfl := Option.some.inj h
        exact ⟨_, (weak_ren []), ⟨l7_m10, l7_m11, l7_m12, rfl, rfl⟩⟩
      rintro _ _ ⟨l11_m10, l11_m11, l11_m12, rfl, rfl⟩ h
      (try dsimp only at h)
      obtain ⟨g55, h⟩ := og_some h
      refine awp_region_ 4 ?_
      refine rs0 (ai ((l7_m24 + 1 : Nat) : Int)) (s_add1 (j := l7_m24) (by kernel_rfl) (by kernel_rfl) g55) ?_
      refine rsB 1 ?_
      refine rnil (tn_ ?_)
      obtain rfl := Option.some.inj h
      exact ⟨(l7_m24 + 1, l11_m10, l11_m11, l11_m12), _, (weak_ren []), ⟨l7_m24 + 1, l11_m10, l11_m11, l11_m12, rfl, rfl⟩, hn7⟩
    have q10_ := of_decide_eq_false q10
    refine awp_condF_ q10 ?_
    refine awp_exit_ (te_ (te_ (be_ (tn_ ?_))))
    obtain rfl := Option.some.inj h
    have h := hn7
    (try dsimp only at h)
    obtain rfl := Option.some.inj h
    exact ⟨_, (weak_ren [((oi 0 1), (oi 1 1)), ((oi 1 1), (oi 2 1))]), ⟨l7_m11, l7_m12, rfl, rfl⟩⟩
  rintro _ _ ⟨l5_m11, l5_m12, rfl, rfl⟩ h
  (try dsimp only at h)
  refine seqR ?_
  refine awp_ret_ ?_
  obtain rfl := Option.some.inj h
  exact ret_ [(.own (oi 0 1) .int 0 l5_m11.length), (.own (oi 1 1) .int 0 l5_m12.length)] (p_one rfl (l_own (by kernel_rfl) rfl) (p_one rfl (l_own (by kernel_rfl) rfl) p_nil))
end Go.Proofs.YtomijolkdmaimaaDoor
