/- Partial functions in place of code, and that the code does what they say: MGA. No condition. -/
import Derived.Test.YtefolocdfgelcaaDoorMB
namespace Go.Proofs.YtefolocdfgelcaaDoor
open Go.RowKit Go.Deep
set_option maxRecDepth 4000
def m_spec_l1Least : AC :=
  (.seq (rg [xo 4 (qm (ci 0))])
  (.seq (.seq (rg [xo 5 (qm (tm 0)), xo 6 (qm (tm 1)), xo 7 (qb .lss (tm 5) (tm 6))])
  (.cond (tm 7)
    (.seq (rg [xo 8 (qm (tm 0)), xo 4 (qm (tm 8))])
    .ret)
    .skip))
  (.seq (rg [xo 9 (qm (tm 1)), xo 4 (qm (tm 9))])
  .ret)))
def r_spec_l1Least : List Res := [.tmp 4]
theorem c_spec_l1Least : compiled Tryd.prog Tryd.f97 = some (m_spec_l1Least, r_spec_l1Least) := by kernel_rfl
theorem hb_spec_l1Least : hasBody Tryd.prog 97 = true := by kernel_rfl
def L_spec_l1Least (a0 : Int) (a1 : Int) : Option Int :=
  cond (decide (a0 < a1))
  (some a0)
  (some a1)
def rv_spec_l1Least (r : Int) : RV := ⟨false, [(false, [.sc (.int .i64 r)])]⟩
theorem ok_spec_l1Least {a0 : Int} {a1 : Int} {r : Int} (h : L_spec_l1Least a0 a1 = some r) : CallOK Tryd.prog Tab 97 [(ai a0), (ai a1)] (rv_spec_l1Least r) := by
  refine call_of_ (by kernel_rfl) Tryd.func97 c_spec_l1Least (n := 10) (by kernel_rfl) (by simp) (tl := [(0, (ai a0)), (1, (ai a1))]) rfl ?_
  unfold m_spec_l1Least
  unfold L_spec_l1Least at h
  refine seqR ?_
  refine awp_seqv_ ?_
  refine seqR ?_
  rcases cond_some h with ⟨q4, h⟩ | ⟨q4, h⟩
  · have q4_ := of_decide_eq_true q4
    refine awp_condT_ q4 ?_
    refine seqR ?_
    refine awp_ret_ (tr_ ?_)
    obtain rfl := Option.some.inj h
    exact ret_ [(ai a0)] (p_one rfl (l_sc (by kernel_rfl)) p_nil)
  have q4_ := of_decide_eq_false q4
  refine awp_condF_ q4 ?_
  refine awp_skip_ (tn_ ?_)
  refine ⟨_, Weak.refl _, ?_⟩
  refine seqR ?_
  refine awp_ret_ ?_
  obtain rfl := Option.some.inj h
  exact ret_ [(ai a1)] (p_one rfl (l_sc (by kernel_rfl)) p_nil)
def m_spec_l1Most : AC :=
  (.seq (rg [xo 4 (qm (ci 0))])
  (.seq (.seq (rg [xo 5 (qm (tm 0)), xo 6 (qm (tm 1)), xo 7 (qb .gtr (tm 5) (tm 6))])
  (.cond (tm 7)
    (.seq (rg [xo 8 (qm (tm 0)), xo 4 (qm (tm 8))])
    .ret)
    .skip))
  (.seq (rg [xo 9 (qm (tm 1)), xo 4 (qm (tm 9))])
  .ret)))
def r_spec_l1Most : List Res := [.tmp 4]
theorem c_spec_l1Most : compiled Tryd.prog Tryd.f98 = some (m_spec_l1Most, r_spec_l1Most) := by kernel_rfl
theorem hb_spec_l1Most : hasBody Tryd.prog 98 = true := by kernel_rfl
def L_spec_l1Most (a0 : Int) (a1 : Int) : Option Int :=
  cond (decide (a1 < a0))
  (some a0)
  (some a1)
def rv_spec_l1Most (r : Int) : RV := ⟨false, [(false, [.sc (.int .i64 r)])]⟩
theorem ok_spec_l1Most {a0 : Int} {a1 : Int} {r : Int} (h : L_spec_l1Most a0 a1 = some r) : CallOK Tryd.prog Tab 98 [(ai a0), (ai a1)] (rv_spec_l1Most r) := by
  refine call_of_ (by kernel_rfl) Tryd.func98 c_spec_l1Most (n := 10) (by kernel_rfl) (by simp) (tl := [(0, (ai a0)), (1, (ai a1))]) rfl ?_
  unfold m_spec_l1Most
  unfold L_spec_l1Most at h
  refine seqR ?_
  refine awp_seqv_ ?_
  refine seqR ?_
  rcases cond_some h with ⟨q4, h⟩ | ⟨q4, h⟩
  · have q4_ := of_decide_eq_true q4
    refine awp_condT_ q4 ?_
    refine seqR ?_
    refine awp_ret_ (tr_ ?_)
    obtain rfl := Option.some.inj h
    exact ret_ [(ai a0)] (p_one rfl (l_sc (by kernel_rfl)) p_nil)
  have q4_ := of_decide_eq_false q4
  refine awp_condF_ q4 ?_
  refine awp_skip_ (tn_ ?_)
  refine ⟨_, Weak.refl _, ?_⟩
  refine seqR ?_
  refine awp_ret_ ?_
  obtain rfl := Option.some.inj h
  exact ret_ [(ai a1)] (p_one rfl (l_sc (by kernel_rfl)) p_nil)
def m_spec_fdAdd : AC :=
  (.seq (rg [xo 6 (qm (ci 0))])
  (.seq (rg [xo 7 (qm (tm 1)), xo 8 (qm (tm 2)), xo 9 (qb .add (tm 7) (tm 8)), xo 10 (qm (tm 0)), xo 11 (qb .rem (tm 9) (tm 10)), xo 6 (qm (tm 11))])
  .ret))
def r_spec_fdAdd : List Res := [.tmp 6]
theorem c_spec_fdAdd : compiled Tryd.prog Tryd.f48 = some (m_spec_fdAdd, r_spec_fdAdd) := by kernel_rfl
theorem hb_spec_fdAdd : hasBody Tryd.prog 48 = true := by kernel_rfl
def L_spec_fdAdd (a0 : Int) (a1 : Int) (a2 : Int) : Option Int :=
  og (a0 ≠ 0) <|
some (Int.tmod (IntKind.i64.wrap (a1 + a2)) a0)
def rv_spec_fdAdd (r : Int) : RV := ⟨false, [(false, [.sc (.int .i64 r)])]⟩
theorem ok_spec_fdAdd {a0 : Int} {a1 : Int} {a2 : Int} {r : Int} (h : L_spec_fdAdd a0 a1 a2 = some r) : CallOK Tryd.prog Tab 48 [(ai a0), (ai a1), (ai a2)] (rv_spec_fdAdd r) := by
  refine call_of_ (by kernel_rfl) Tryd.func48 c_spec_fdAdd (n := 12) (by kernel_rfl) (by simp) (tl := [(0, (ai a0)), (1, (ai a1)), (2, (ai a2))]) rfl ?_
  unfold m_spec_fdAdd
  unfold L_spec_fdAdd at h
  refine seqR ?_
  refine awp_seqv_ ?_
  obtain ⟨g3, h⟩ := og_some h
  refine awp_region_ 8 ?_
  refine rs0 (ai a1) (by kernel_rfl) ?_
  refine rs0 (ai a2) (by kernel_rfl) ?_
  refine rs0 (ai (IntKind.i64.wrap (a1 + a2))) (by kernel_rfl) ?_
  refine rs0 (ai a0) (by kernel_rfl) ?_
  refine rs0 (ai (Int.tmod (IntKind.i64.wrap (a1 + a2)) a0)) (s_rem (k := .i64) (a := IntKind.i64.wrap (a1 + a2)) (b := a0) (by kernel_rfl) (by kernel_rfl) g3) ?_
  refine rsB 1 ?_
  refine rnil (tn_ ?_)
  refine ⟨_, Weak.refl _, ?_⟩
  refine awp_ret_ ?_
  obtain rfl := Option.some.inj h
  exact ret_ [(ai (Int.tmod (IntKind.i64.wrap (a1 + a2)) a0))] (p_one rfl (l_sc (by kernel_rfl)) p_nil)
def m_spec_l1Own : AC :=
  (.seq (rg [xo 2 (qm (.cst .nils))])
  (.seq (rg [xo 3 (.mkS 3 .int []), xo 4 (qm (tm 0)), xo 5 (.append 3 .int 8 (tm 3) (tm 4)), xo 2 (qm (tm 5))])
  .ret))
def r_spec_l1Own : List Res := [.tmp 2]
theorem c_spec_l1Own : compiled Tryd.prog Tryd.f52 = some (m_spec_l1Own, r_spec_l1Own) := by kernel_rfl
theorem hb_spec_l1Own : hasBody Tryd.prog 52 = true := by kernel_rfl
def L_spec_l1Own (a0 : List Int) : Option (List Int) :=
  og (0 + a0.length ≤ 1073741824 ∧ (0 + a0.length) * 8 ≤ 140737488355328) <|
some a0
def rv_spec_l1Own (r : List Int) : RV := ⟨false, [(false, [.new 3 .int r])]⟩
theorem ok_spec_l1Own {a0 : List Int} {r : List Int} (h : L_spec_l1Own a0 = some r) : CallOK Tryd.prog Tab 52 [(.tree .int a0)] (rv_spec_l1Own r) := by
  refine call_of_ (by kernel_rfl) Tryd.func52 c_spec_l1Own (n := 6) (by kernel_rfl) (by simp) (tl := [(0, (.tree .int a0))]) rfl ?_
  unfold m_spec_l1Own
  unfold L_spec_l1Own at h
  refine seqR ?_
  refine awp_seqv_ ?_
  obtain ⟨g3, h⟩ := og_some h
  refine awp_region_ 6 ?_
  refine rs1 (.own (oi 3 2) .int 0 0) (oi 3 2) (.arr 3 .int []) (by kernel_rfl) ?_
  refine rs0 (.tree .int a0) (by kernel_rfl) ?_
  refine rs2 (.own (oi 3 4) .int 0 a0.length) (oi 3 2) (oi 3 4) (.arr 3 .int a0) (s_appO (t := .int) (t' := .int) (xs := []) (ys := a0) (zs := a0) (j := (oi 3 2)) (len := 0) (c := (.tree .int a0)) (by kernel_rfl) (by kernel_rfl) rfl (by kernel_rfl) sr_tree rfl g3) ?_
  refine rsB 1 ?_
  refine rnil (tn_ ?_)
  refine ⟨_, Weak.refl _, ?_⟩
  refine awp_ret_ ?_
  obtain rfl := Option.some.inj h
  exact ret_ [(.own (oi 3 4) .int 0 a0.length)] (p_one rfl (l_own (by kernel_rfl) rfl) p_nil)
def m_spec_nwMerge_l3 : AC :=
  (.seq (rg [xo 77 (qb .lss (tm 76) (tm 75))])
  (.seq (.cond (tm 77)
    .skip
    (.exit 4))
  (.seq (.block 5 (.seq (rg [xo 78 (qm (tm 76)), xo 79 (qx 1 (tm 74) (tm 76)), xo 80 (ql (tm 79)), xo 13 (qm (tm 78)), xo 14 (qm (tm 80))])
  (.seq (rg [xo 81 (qm (tm 14)), xo 82 (qb .neq (tm 81) (ci 0))])
  (.cond (tm 82)
    (rg [xo 83 (qf 1 (tm 10)), xo 84 (ql (tm 83)), xo 85 (qm (tm 11)), xo 86 (qm (tm 13)), xo 87 (qm (tm 14)), xo 88 (.build [(.int .i64 0), (.int .i64 0), (.int .i64 0)] [(0, 1, (tm 85)), (1, 1, (tm 86)), (2, 1, (tm 87))]), xo 89 (.mkS 59 (.pair .int (.pair .int .int)) [(tm 88)]), xo 90 (.append 59 (.pair .int (.pair .int .int)) 24 (tm 84) (tm 89)), xo 91 (qf 1 (tm 10)), xn (qs (tm 91) (tm 90))])
    .skip))))
  (rg [xo 92 (qb .add (tm 76) (ci 1)), xo 76 (qm (tm 92))]))))
def m_spec_nwMerge_l2 : AC :=
  (.seq (rg [xo 70 (qb .lss (tm 69) (tm 68))])
  (.seq (.cond (tm 70)
    .skip
    (.exit 2))
  (.seq (.block 3 (.seq (rg [xo 71 (qm (tm 69)), xo 72 (qx 1 (tm 67) (tm 69)), xo 73 (ql (tm 72)), xo 11 (qm (tm 71)), xo 12 (qm (tm 73))])
  (.seq (rg [xo 74 (qm (tm 12)), xo 75 (.i (.len (tm 74))), xo 76 (qm (ci 0))])
  (.block 4 (.loop m_spec_nwMerge_l3)))))
  (rg [xo 93 (qb .add (tm 69) (ci 1)), xo 69 (qm (tm 93))]))))
def m_spec_nwMerge_l1 : AC :=
  (.seq (rg [xo 24 (qb .lss (tm 23) (tm 22))])
  (.seq (.cond (tm 24)
    .skip
    (.exit 0))
  (.seq (.block 1 (.seq (rg [xo 25 (qx 3 (tm 21) (tm 23)), xo 26 (.i (.ld false 3 (tm 25))), xo 7 (.i (.alloc 59 [(.int .i64 0), (.int .i64 0), (.int .i64 0)])), xn (.st false 3 (tm 7) (tm 26))])
  (.seq (.region [xo 27 (qf 0 (tm 7)), xo 28 (ql (tm 27)), xo 29 (qf 1 (tm 7)), xo 30 (ql (tm 29)), xo 31 (qc 97 [(tm 28), (tm 30)] [[], []]), xo 32 (qf 0 (tm 7)), xo 33 (ql (tm 32)), xo 34 (qf 1 (tm 7)), xo 35 (ql (tm 34)), xo 36 (qc 98 [(tm 33), (tm 35)] [[], []]), xo 8 (qm (tm 31)), xo 9 (qm (tm 36))] true [(4, 6), (4, 8)])
  (.region [xo 37 (qf 1 (tm 5)), xo 38 (ql (tm 37)), xo 39 (qm (tm 8)), xo 40 (qx 1 (tm 38) (tm 39)), xo 41 (ql (tm 40)), xo 42 (qm (tm 9)), xo 43 (qm (tm 0)), xo 44 (qf 1 (tm 5)), xo 45 (ql (tm 44)), xo 46 (qm (tm 8)), xo 47 (qx 1 (tm 45) (tm 46)), xo 48 (ql (tm 47)), xo 49 (qm (tm 9)), xo 50 (qx 1 (tm 48) (tm 49)), xo 51 (ql (tm 50)), xo 52 (qf 2 (tm 7)), xo 53 (ql (tm 52)), xo 54 (qc 48 [(tm 43), (tm 51), (tm 53)] [[], [], []]), xo 55 (qx 1 (tm 41) (tm 42)), xn (qs (tm 55) (tm 54))] true [(1, 17), (4, 17)]))))
  (rg [xo 56 (qb .add (tm 23) (ci 1)), xo 23 (qm (tm 56))]))))
def m_spec_nwMerge : AC :=
  (.seq (rg [xo 3 (.i (.box 30 (tm 1))), xo 4 (.i (.alloc 30 [(.int .i64 0), .nils, .nils, .nils]))])
  (.seq (rg [xo 15 (qf 0 (tm 3)), xo 16 (ql (tm 15)), xo 17 (qf 0 (tm 3)), xo 18 (ql (tm 17)), xo 19 (qc 96 [(tm 16), (tm 18)] [[], []]), xo 5 (.i (.alloc 44 [(.int .i64 0), .nils])), xn (.st false 2 (tm 5) (tm 19))])
  (.seq (.seq (rg [xo 20 (qf 1 (tm 3)), xo 21 (ql (tm 20)), xo 22 (.i (.len (tm 21))), xo 23 (qm (ci 0))])
  (.block 0 (.loop m_spec_nwMerge_l1)))
  (.seq (.region [xo 57 (qf 0 (tm 3)), xo 58 (ql (tm 57)), xo 59 (qf 2 (tm 3)), xo 60 (ql (tm 59)), xo 61 (qc 52 [(tm 60)] [[(some .int)]]), xo 62 (qf 3 (tm 3)), xo 63 (ql (tm 62)), xo 64 (qc 52 [(tm 63)] [[(some .int)]]), xo 65 (.build [(.int .i64 0), .nils, .nils, .nils] [(0, 1, (tm 58)), (2, 1, (tm 61)), (3, 1, (tm 64))]), xo 10 (.i (.alloc 30 [(.int .i64 0), .nils, .nils, .nils])), xn (.st false 4 (tm 10) (tm 65))] true [(1, 4), (4, 6), (1, 7), (4, 9), (7, 9)])
  (.seq (.seq (rg [xo 66 (qf 1 (tm 5)), xo 67 (ql (tm 66)), xo 68 (.i (.len (tm 67))), xo 69 (qm (ci 0))])
  (.block 2 (.loop m_spec_nwMerge_l2)))
  (.seq (rg [xo 94 (.i (.ld false 4 (tm 10))), xn (.st false 4 (tm 4) (tm 94))])
  .ret))))))
def r_spec_nwMerge : List Res := [.cell 4 false 4]
theorem c_spec_nwMerge : compiled Tryd.prog Tryd.f65 = some (m_spec_nwMerge, r_spec_nwMerge) := by kernel_rfl
theorem hb_spec_nwMerge : hasBody Tryd.prog 65 = true := by kernel_rfl
def L_spec_nwMerge_l1 (a1_1 : List (Int × Int × Int)) (a0 : Int) (l6_m23 : Nat) (l6_m5_1 : List (List Int)) : Option (Ctl (Nat × List (List Int)) (List (List Int))) :=
  cond (decide (((l6_m23 : Nat) : Int) < ((a1_1.length : Nat) : Int)))
  (Option.bind (a1_1[l6_m23]?) fun x12 =>
  Option.bind (L_spec_l1Least x12.1 x12.2.1) fun y14 =>
  Option.bind (L_spec_l1Most x12.1 x12.2.1) fun y15 =>
  Option.bind (getI l6_m5_1 y14) fun x16 =>
  Option.bind (getI x16 y15) fun x17 =>
  Option.bind (L_spec_fdAdd a0 x17 x12.2.2) fun y18 =>
  og (l6_m23 + 1 < 4611686018427387904) <|
  some (Ctl.next (l6_m23 + 1, l6_m5_1.set y14.toNat (x16.set y15.toNat y18))))
  (some (Ctl.out l6_m5_1))
def L_spec_nwMerge_l3 (x31 : List Int) (l25_m69 : Nat) (l33_m76 : Nat) (l33_m10_1 : List (Int × Int × Int)) : Option (Ctl (Nat × (List (Int × Int × Int))) (List (Int × Int × Int))) :=
  cond (decide (((l33_m76 : Nat) : Int) < ((x31.length : Nat) : Int)))
  (Option.bind (Option.bind (x31[l33_m76]?) fun x39 =>
    cond (x39 != 0)
      (og (l33_m10_1.length + 1 ≤ 1073741824 ∧ (l33_m10_1.length + 1) * 24 ≤ 140737488355328) <|
      some (l33_m10_1 ++ ([(((l25_m69 : Nat) : Int), ((l33_m76 : Nat) : Int), x39)])))
      (some l33_m10_1)) fun l37_m10_1 =>
  og (l33_m76 + 1 < 4611686018427387904) <|
  some (Ctl.next (l33_m76 + 1, l37_m10_1)))
  (some (Ctl.out l33_m10_1))
def L_spec_nwMerge_l2 (l4_m5_1 : List (List Int)) (l25_m69 : Nat) (l25_m10_1 : List (Int × Int × Int)) : Option (Ctl (Nat × (List (Int × Int × Int))) (List (Int × Int × Int))) :=
  cond (decide (((l25_m69 : Nat) : Int) < ((l4_m5_1.length : Nat) : Int)))
  (Option.bind (Option.bind (l4_m5_1[l25_m69]?) fun x31 =>
    loopM (fun s_ : Nat × (List (Int × Int × Int)) => L_spec_nwMerge_l3 x31 l25_m69 s_.1 s_.2) 4611686018427387904 (0, l25_m10_1)) fun l29_m10_1 =>
  og (l25_m69 + 1 < 4611686018427387904) <|
  some (Ctl.next (l25_m69 + 1, l29_m10_1)))
  (some (Ctl.out l25_m10_1))
def L_spec_nwMerge (a0 : Int) (a1_0 : Int) (a1_1 : List (Int × Int × Int)) (a1_2 : List Int) (a1_3 : List Int) : Option (Int × (List (Int × Int × Int)) × List Int × List Int) :=
  Option.bind (L_spec_mxZero a1_0 a1_0) fun y3 =>
Option.bind (loopM (fun s_ : Nat × List (List Int) => L_spec_nwMerge_l1 a1_1 a0 s_.1 s_.2) 4611686018427387904 (0, y3)) fun l4_m5_1 =>
Option.bind (L_spec_l1Own a1_2) fun y21 =>
Option.bind (L_spec_l1Own a1_3) fun y22 =>
Option.bind (loopM (fun s_ : Nat × (List (Int × Int × Int)) => L_spec_nwMerge_l2 l4_m5_1 s_.1 s_.2) 4611686018427387904 (0, [])) fun l23_m10_1 =>
some (a1_0, l23_m10_1, y21, y22)
def rv_spec_nwMerge (r : Int × (List (Int × Int × Int)) × List Int × List Int) : RV := ⟨false, [(true, [.sc (.int .i64 r.1), .new 59 (.pair .int (.pair .int .int)) r.2.1, .new 3 .int r.2.2.1, .new 3 .int r.2.2.2])]⟩
theorem ok_spec_nwMerge {a0 : Int} {a1_0 : Int} {a1_1 : List (Int × Int × Int)} {a1_2 : List Int} {a1_3 : List Int} {r : Int × (List (Int × Int × Int)) × List Int × List Int} (h : L_spec_nwMerge a0 a1_0 a1_1 a1_2 a1_3 = some r) : CallOK Tryd.prog Tab 65 [(ai a0), (.agg [(ai a1_0), (.tree (.pair .int (.pair .int .int)) a1_1), (.tree .int a1_2), (.tree .int a1_3)])] (rv_spec_nwMerge r) := by
  refine call_of_ (by kernel_rfl) Tryd.func65 c_spec_nwMerge (n := 95) (by kernel_rfl) (by simp) (tl := [(0, (ai a0)), (1, (.agg [(ai a1_0), (.tree (.pair .int (.pair .int .int)) a1_1), (.tree .int a1_2), (.tree .int a1_3)]))]) rfl ?_
  unfold m_spec_nwMerge
  unfold L_spec_nwMerge at h
  refine seqR ?_
  refine awp_seqv_ ?_
  obtain ⟨y3, h3, h⟩ := ob_some h
  refine awp_region_ 10 ?_
  refine rs0 (.box (oi 3 1) 0) (by kernel_rfl) ?_
  refine rsl (ai a1_0) (by kernel_rfl) ?_
  refine rs0 (.box (oi 3 1) 0) (by kernel_rfl) ?_
  refine rsl (ai a1_0) (by kernel_rfl) ?_
  refine rcallM (.agg [(ai a1_0), (.own (oi 305 7) (.slice .int) 0 y3.length)]) [((oi 304 7), some (.cells 44 [(ai a1_0), (.own (oi 305 7) (.slice .int) 0 y3.length)])), ((oi 305 7), some (.mat 23 (oi 306 7) .int y3)), ((oi 306 7), some (.pool 3 .int y3))] [] [(ai a1_0), (ai a1_0)] (caps := []) trivial (ok_spec_mxZero h3) hb_spec_mxZero trivial (.cons (.ren (by kernel_rfl)) (.cons (.ren (by kernel_rfl)) .nil)) (reachL_mem (by kernel_rfl) (by kernel_rfl) trivial) ?_
  refine rsB 2 ?_
  refine rnil (tn_ ?_)
  refine ⟨_, Weak.refl _, ?_⟩
  refine awp_seqB h (fun (l4_m5_1 : List (List Int)) S_ => S_ = ⟨mkTm [(3, (.box (oi 0 1) 0)), (4, (.box (oi 1 1) 0)), (5, (.box (oi 2 1) 0))], mkOb (someL [((oi 0 1), .cells 30 [(ai a1_0), (.tree (.pair .int (.pair .int .int)) a1_1), (.tree .int a1_2), (.tree .int a1_3)]), ((oi 1 1), .cells 30 [(ai 0), .nils, .nils, .nils]), ((oi 2 1), .cells 44 [(ai a1_0), (.own (oi 3 1) (.slice .int) 0 l4_m5_1.length)]), ((oi 3 1), .mat 23 (oi 4 1) .int l4_m5_1), ((oi 4 1), .pool 3 .int l4_m5_1)]), 2⟩) ?_ ?_
  · intro v_ h
    refine seqR ?_
    refine awp_block_ ?_
    refine awp_loopL h (fun t_ S_ => ∃ (l6_m23 : Nat), ∃ (l6_m5_1 : List (List Int)), t_ = (l6_m23, l6_m5_1) ∧ S_ = ⟨mkTm [(0, (ai a0)), (3, (.box (oi 0 1) 0)), (4, (.box (oi 1 1) 0)), (5, (.box (oi 2 1) 0)), (21, (.tree (.pair .int (.pair .int .int)) a1_1)), (22, (ai ((a1_1.length : Nat) : Int))), (23, (ai ((l6_m23 : Nat) : Int)))], mkOb (someL [((oi 0 1), .cells 30 [(ai a1_0), (.tree (.pair .int (.pair .int .int)) a1_1), (.tree .int a1_2), (.tree .int a1_3)]), ((oi 1 1), .cells 30 [(ai 0), .nils, .nils, .nils]), ((oi 2 1), .cells 44 [(ai a1_0), (.own (oi 3 1) (.slice .int) 0 l6_m5_1.length)]), ((oi 3 1), .mat 23 (oi 4 1) .int l6_m5_1), ((oi 4 1), .pool 3 .int l6_m5_1)]), 2⟩) ⟨_, (weak_ren [((oi 0 1), (oi 3 1)), ((oi 1 1), (oi 4 2)), ((oi 2 1), (oi 5 8)), ((oi 3 1), (oi 305 7)), ((oi 4 1), (oi 306 7))]), ⟨0, y3, rfl, rfl⟩⟩ ?_
    rintro n_ _ _ c_ ⟨l6_m23, l6_m5_1, rfl, rfl⟩ h hn6
    (try dsimp only at h)
    unfold L_spec_nwMerge_l1 at h
    unfold m_spec_nwMerge_l1
    refine seqR ?_
    refine awp_seqv_ ?_
    rcases cond_some h with ⟨q9, h⟩ | ⟨q9, h⟩
    · have q9_ := of_decide_eq_true q9
      refine awp_condT_ q9 ?_
      refine awp_skip_ (tn_ ?_)
      refine ⟨_, Weak.refl _, ?_⟩
      refine awp_seqv_ ?_
      refine awp_block_ ?_
      refine awp_seqv_ ?_
      obtain ⟨x12, e12, h⟩ := ob_some h
      refine awp_region_ 7 ?_
      refine rs0 (.telt (.pair .int (.pair .int .int)) x12 0) (s_idxT (t := (.pair .int (.pair .int .int))) (xs := a1_1) (k := .i64) (m := ((l6_m23 : Nat) : Int)) (by kernel_rfl) (by kernel_rfl) rfl (nat_nn _) rfl e12) ?_
      refine rsB 3 ?_
      refine rnil (tn_ ?_)
      refine ⟨_, Weak.refl _, ?_⟩
      refine awp_seqv_ ?_
      obtain ⟨y14, h14, h⟩ := ob_some h
      obtain ⟨y15, h15, h⟩ := ob_some h
      refine awp_regionD_ 19 ?_
      refine ds0 (.box (oi 7 5) 0) (by kernel_rfl) ?_
      refine dsl (ai x12.1) (by kernel_rfl) ?_
      refine ds0 (.box (oi 7 5) 1) (by kernel_rfl) ?_
      refine dsl (ai x12.2.1) (by kernel_rfl) ?_
      refine dcall (ai y14) [] [(ai x12.1), (ai x12.2.1)] _ (caps := []) (args0 := [(ai x12.1), (ai x12.2.1)]) trivial (by kernel_rfl) (ok_spec_l1Least h14) hb_spec_l1Least ?_
      refine ds0 (.box (oi 7 5) 0) (by kernel_rfl) ?_
      refine dsl (ai x12.1) (by kernel_rfl) ?_
      refine ds0 (.box (oi 7 5) 1) (by kernel_rfl) ?_
      refine dsl (ai x12.2.1) (by kernel_rfl) ?_
      refine dcall (ai y15) [] [(ai x12.1), (ai x12.2.1)] _ (caps := []) (args0 := [(ai x12.1), (ai x12.2.1)]) trivial (by kernel_rfl) (ok_spec_l1Most h15) hb_spec_l1Most ?_
      refine ds0 (ai y14) (by kernel_rfl) ?_
      refine ds0 (ai y15) (by kernel_rfl) ?_
      refine dnil (badB_spec (by kernel_rfl)) (tn_ ?_)
      refine ⟨_, Weak.refl _, ?_⟩
      obtain ⟨x16, f16, h⟩ := ob_some h
      obtain ⟨p16, b16, e16⟩ := getI_some f16
      obtain ⟨x17, f17, h⟩ := ob_some h
      obtain ⟨p17, b17, e17⟩ := getI_some f17
      obtain ⟨y18, h18, h⟩ := ob_some h
      refine awp_regionD_ 39 ?_
      refine ds0 (.box (oi 2 1) 1) (by kernel_rfl) ?_
      refine dsl (.own (oi 3 1) (.slice .int) 0 l6_m5_1.length) (by kernel_rfl) ?_
      refine ds0 (ai y14) (by kernel_rfl) ?_
      refine ds0 (.elt (oi 3 1) y14.toNat 0) (s_idxO (t := (.slice .int)) (o := (oi 3 1)) (len := l6_m5_1.length) (k := .i64) (m := y14) (by kernel_rfl) (by kernel_rfl) rfl p16 rfl (getN_lt e16)) ?_
      refine dsl (.own (kid (oi 4 1) y14.toNat) .int 0 x16.length) (s_ldM (o := (oi 3 1)) (p := (oi 4 1)) (e1 := 23) (u := .int) (xss := l6_m5_1) (row := x16) (j := y14.toNat) (by kernel_rfl) (by kernel_rfl) e16) ?_
      refine ds0 (ai y15) (by kernel_rfl) ?_
      refine ds0 (ai a0) (by kernel_rfl) ?_
      refine ds0 (.box (oi 2 1) 1) (by kernel_rfl) ?_
      refine dsl (.own (oi 3 1) (.slice .int) 0 l6_m5_1.length) (by kernel_rfl) ?_
      refine ds0 (ai y14) (by kernel_rfl) ?_
      refine ds0 (.elt (oi 3 1) y14.toNat 0) (s_idxO (t := (.slice .int)) (o := (oi 3 1)) (len := l6_m5_1.length) (k := .i64) (m := y14) (by kernel_rfl) (by kernel_rfl) rfl p16 rfl (getN_lt e16)) ?_
      refine dsl (.own (kid (oi 4 1) y14.toNat) .int 0 x16.length) (s_ldM (o := (oi 3 1)) (p := (oi 4 1)) (e1 := 23) (u := .int) (xss := l6_m5_1) (row := x16) (j := y14.toNat) (by kernel_rfl) (by kernel_rfl) e16) ?_
      refine ds0 (ai y15) (by kernel_rfl) ?_
      refine ds0 (.elt (kid (oi 4 1) y14.toNat) y15.toNat 0) (s_idxO (t := .int) (o := (kid (oi 4 1) y14.toNat)) (len := x16.length) (k := .i64) (m := y15) (by kernel_rfl) (by kernel_rfl) rfl p17 rfl (getN_lt e17)) ?_
      refine dsl (ai x17) (s_ldE (i := (kid (oi 4 1) y14.toNat)) (j := y15.toNat) (k := 0) (e := 3) (t := .int) (xs := x16) (by kernel_rfl) (only1.trans (mkOb_kid (by kernel_rfl) e16)) e17 (by kernel_rfl)) ?_
      refine ds0 (.box (oi 7 5) 2) (by kernel_rfl) ?_
      refine dsl (ai x12.2.2) (by kernel_rfl) ?_
      refine dcall (ai y18) [] [(ai a0), (ai x17), (ai x12.2.2)] _ (caps := []) (args0 := [(ai a0), (ai x17), (ai x12.2.2)]) trivial (by kernel_rfl) (ok_spec_fdAdd h18) hb_spec_fdAdd ?_
      refine ds0 (.elt (kid (oi 4 1) y14.toNat) y15.toNat 0) (s_idxO (t := .int) (o := (kid (oi 4 1) y14.toNat)) (len := x16.length) (k := .i64) (m := y15) (by kernel_rfl) (by kernel_rfl) rfl p17 rfl (getN_lt e17)) ?_
      refine dsn2 (kid (oi 4 1) y14.toNat) (kid (oi 4 1) y14.toNat) (.arr 3 .int (x16.set y15.toNat y18)) (s_stE (i := (kid (oi 4 1) y14.toNat)) (j := y15.toNat) (k := 0) (e := 3) (t := .int) (xs := x16) (cs := [(ai y18)]) (x1 := y18) (by kernel_rfl) (only1.trans (mkOb_kid (by kernel_rfl) e16)) e17 (by kernel_rfl) (by kernel_rfl)) ?_
      refine xd_ob (ob_row (o := (oi 3 1)) (p := (oi 4 1)) (e1 := 23) (e := 3) (u := .int) (xss := l6_m5_1) (k := y14.toNat) (row := x16) (row' := x16.set y15.toNat y18) (by kernel_rfl) rfl (by kernel_rfl) e16 List.length_set) ?_
      refine dnil (badB_spec (by kernel_rfl)) (bn_ (tn_ ?_))
      refine ⟨_, Weak.refl _, ?_⟩
      obtain ⟨g19, h⟩ := og_some h
      refine awp_region_ 41 ?_
      refine rs0 (ai ((l6_m23 + 1 : Nat) : Int)) (s_add1 (j := l6_m23) (by kernel_rfl) (by kernel_rfl) g19) ?_
      refine rsB 1 ?_
      refine rnil (tn_ ?_)
      obtain rfl := Option.some.inj h
      exact ⟨(l6_m23 + 1, l6_m5_1.set y14.toNat (x16.set y15.toNat y18)), _, ((weak_ob_ (oi 2 1) (.cells 44 [(ai a1_0), (.own (oi 3 1) (.slice .int) 0 l6_m5_1.length)]) (.cells 44 [(ai a1_0), (.own (oi 3 1) (.slice .int) 0 ((l6_m5_1.set y14.toNat (x16.set y15.toNat y18)).length))]) (by kernel_rfl) (congrArg (fun z_ => (.cells 44 [(ai a1_0), (.own (oi 3 1) (.slice .int) 0 z_)] : Ob)) ((Eq.trans (b := l6_m5_1.length) rfl List.length_set.symm) : l6_m5_1.length = (l6_m5_1.set y14.toNat (x16.set y15.toNat y18)).length))).trans (weak_ren [])), ⟨l6_m23 + 1, l6_m5_1.set y14.toNat (x16.set y15.toNat y18), rfl, rfl⟩, hn6⟩
    have q9_ := of_decide_eq_false q9
    refine awp_condF_ q9 ?_
    refine awp_exit_ (te_ (te_ (be_ (tn_ ?_))))
    obtain rfl := Option.some.inj h
    have h := hn6
    (try dsimp only at h)
    obtain rfl := Option.some.inj h
    exact ⟨_, (weak_ren []), rfl⟩
  rintro l4_m5_1 _ rfl h
  (try dsimp only at h)
  refine awp_seqv_ ?_
  obtain ⟨y21, h21, h⟩ := ob_some h
  obtain ⟨y22, h22, h⟩ := ob_some h
  refine awp_regionD_ 13 ?_
  refine ds0 (.box (oi 0 1) 0) (by kernel_rfl) ?_
  refine dsl (ai a1_0) (by kernel_rfl) ?_
  refine ds0 (.box (oi 0 1) 2) (by kernel_rfl) ?_
  refine dsl (.tree .int a1_2) (by kernel_rfl) ?_
  refine dcall (.own (oi 976 6) .int 0 y21.length) [((oi 976 6), some (.arr 3 .int y21))] [(.tree .int a1_2)] _ (caps := []) (args0 := [(.tree .int a1_2)]) trivial (by kernel_rfl) (ok_spec_l1Own h21) hb_spec_l1Own ?_
  refine ds0 (.box (oi 0 1) 3) (by kernel_rfl) ?_
  refine dsl (.tree .int a1_3) (by kernel_rfl) ?_
  refine dcall (.own (oi 1024 9) .int 0 y22.length) [((oi 1024 9), some (.arr 3 .int y22))] [(.tree .int a1_3)] _ (caps := []) (args0 := [(.tree .int a1_3)]) trivial (by kernel_rfl) (ok_spec_l1Own h22) hb_spec_l1Own ?_
  refine ds0 (.agg [(ai a1_0), .nils, (.own (oi 976 6) .int 0 y21.length), (.own (oi 1024 9) .int 0 y22.length)]) (by kernel_rfl) ?_
  refine ds1 (.box (oi 10 11) 0) (oi 10 11) (.cells 30 [(ai 0), .nils, .nils, .nils]) (by kernel_rfl) ?_
  refine dsn2 (oi 10 11) (oi 10 11) (.cells 30 [(ai a1_0), .nils, (.own (oi 976 6) .int 0 y21.length), (.own (oi 1024 9) .int 0 y22.length)]) (by kernel_rfl) ?_
  refine dnil (badB_spec (by kernel_rfl)) (tn_ ?_)
  refine ⟨_, Weak.refl _, ?_⟩
  refine awp_seqB h (fun (l23_m10_1 : List (Int × Int × Int)) S_ => S_ = ⟨mkTm [(4, (.box (oi 0 1) 0)), (10, (.box (oi 1 1) 0))], mkOb (someL [((oi 0 1), .cells 30 [(ai 0), .nils, .nils, .nils]), ((oi 1 1), .cells 30 [(ai a1_0), (.own (oi 2 1) (.pair .int (.pair .int .int)) 0 l23_m10_1.length), (.own (oi 3 1) .int 0 y21.length), (.own (oi 4 1) .int 0 y22.length)]), ((oi 2 1), .arr 59 (.pair .int (.pair .int .int)) l23_m10_1), ((oi 3 1), .arr 3 .int y21), ((oi 4 1), .arr 3 .int y22)]), 2⟩) ?_ ?_
  · intro v_ h
    refine seqR ?_
    refine awp_block_ ?_
    refine awp_loopL h (fun t_ S_ => ∃ (l25_m69 : Nat), ∃ (l25_m10_1 : List (Int × Int × Int)), t_ = (l25_m69, l25_m10_1) ∧ S_ = ⟨mkTm [(4, (.box (oi 0 1) 0)), (10, (.box (oi 1 1) 0)), (67, (.own (oi 2 1) (.slice .int) 0 l4_m5_1.length)), (68, (ai ((l4_m5_1.length : Nat) : Int))), (69, (ai ((l25_m69 : Nat) : Int)))], mkOb (someL [((oi 0 1), .cells 30 [(ai 0), .nils, .nils, .nils]), ((oi 1 1), .cells 30 [(ai a1_0), (.own (oi 4 1) (.pair .int (.pair .int .int)) 0 l25_m10_1.length), (.own (oi 5 1) .int 0 y21.length), (.own (oi 6 1) .int 0 y22.length)]), ((oi 2 1), .mat 23 (oi 3 1) .int l4_m5_1), ((oi 3 1), .pool 3 .int l4_m5_1), ((oi 4 1), .arr 59 (.pair .int (.pair .int .int)) l25_m10_1), ((oi 5 1), .arr 3 .int y21), ((oi 6 1), .arr 3 .int y22)]), 2⟩) ⟨_, ((weak_nil_cell_ 9000 (oi 10 11) 1 30 [(ai a1_0), .nils, (.own (oi 976 6) .int 0 y21.length), (.own (oi 1024 9) .int 0 y22.length)] [(ai a1_0), (.own (oi 9000 17) (.pair .int (.pair .int .int)) 0 0), (.own (oi 976 6) .int 0 y21.length), (.own (oi 1024 9) .int 0 y22.length)] 59 (.pair .int (.pair .int .int)) rfl (by kernel_rfl) (by kernel_rfl) (by kernel_rfl)).trans (weak_ren [((oi 0 1), (oi 1 1)), ((oi 1 1), (oi 10 11)), ((oi 4 1), (oi 9000 17)), ((oi 5 1), (oi 976 6)), ((oi 6 1), (oi 1024 9)), ((oi 2 1), (oi 3 1)), ((oi 3 1), (oi 4 1))])), ⟨0, [], rfl, rfl⟩⟩ ?_
    rintro n_ _ _ c_ ⟨l25_m69, l25_m10_1, rfl, rfl⟩ h hn25
    (try dsimp only at h)
    unfold L_spec_nwMerge_l2 at h
    unfold m_spec_nwMerge_l2
    refine seqR ?_
    refine awp_seqv_ ?_
    rcases cond_some h with ⟨q28, h⟩ | ⟨q28, h⟩
    · have q28_ := of_decide_eq_true q28
      refine awp_condT_ q28 ?_
      refine awp_skip_ (tn_ ?_)
      refine ⟨_, Weak.refl _, ?_⟩
      refine awp_seqB h (fun (l29_m10_1 : List (Int × Int × Int)) S_ => S_ = ⟨mkTm [(4, (.box (oi 0 1) 0)), (10, (.box (oi 1 1) 0)), (67, (.own (oi 2 1) (.slice .int) 0 l4_m5_1.length)), (68, (ai ((l4_m5_1.length : Nat) : Int))), (69, (ai ((l25_m69 : Nat) : Int)))], mkOb (someL [((oi 0 1), .cells 30 [(ai 0), .nils, .nils, .nils]), ((oi 1 1), .cells 30 [(ai a1_0), (.own (oi 4 1) (.pair .int (.pair .int .int)) 0 l29_m10_1.length), (.own (oi 5 1) .int 0 y21.length), (.own (oi 6 1) .int 0 y22.length)]), ((oi 2 1), .mat 23 (oi 3 1) .int l4_m5_1), ((oi 3 1), .pool 3 .int l4_m5_1), ((oi 4 1), .arr 59 (.pair .int (.pair .int .int)) l29_m10_1), ((oi 5 1), .arr 3 .int y21), ((oi 6 1), .arr 3 .int y22)]), 2⟩) ?_ ?_
      · intro v_ h
        refine awp_block_ ?_
        refine awp_seqv_ ?_
        obtain ⟨x31, e31, h⟩ := ob_some h
        refine awp_region_ 8 ?_
        refine rs0 (ai ((l25_m69 : Nat) : Int)) (by kernel_rfl) ?_
        refine rs0 (.elt (oi 2 1) l25_m69 0) (s_idxO (t := (.slice .int)) (o := (oi 2 1)) (len := l4_m5_1.length) (k := .i64) (m := ((l25_m69 : Nat) : Int)) (by kernel_rfl) (by kernel_rfl) rfl (nat_nn _) rfl (getN_lt e31)) ?_
        refine rsl (.own (kid (oi 3 1) l25_m69) .int 0 x31.length) (s_ldM (o := (oi 2 1)) (p := (oi 3 1)) (e1 := 23) (u := .int) (xss := l4_m5_1) (row := x31) (j := l25_m69) (by kernel_rfl) (by kernel_rfl) e31) ?_
        refine rsB 2 ?_
        refine rnil (tn_ ?_)
        refine ⟨_, Weak.refl _, ?_⟩
        refine seqR ?_
        refine awp_block_ ?_
        refine awp_loopL h (fun t_ S_ => ∃ (l33_m76 : Nat), ∃ (l33_m10_1 : List (Int × Int × Int)), t_ = (l33_m76, l33_m10_1) ∧ S_ = ⟨mkTm [(4, (.box (oi 0 1) 0)), (10, (.box (oi 1 1) 0)), (11, (ai ((l25_m69 : Nat) : Int))), (67, (.own (oi 2 1) (.slice .int) 0 l4_m5_1.length)), (68, (ai ((l4_m5_1.length : Nat) : Int))), (69, (ai ((l25_m69 : Nat) : Int))), (74, (.own (kid (oi 3 1) l25_m69) .int 0 x31.length)), (75, (ai ((x31.length : Nat) : Int))), (76, (ai ((l33_m76 : Nat) : Int)))], mkOb (someL [((oi 0 1), .cells 30 [(ai 0), .nils, .nils, .nils]), ((oi 1 1), .cells 30 [(ai a1_0), (.own (oi 4 1) (.pair .int (.pair .int .int)) 0 l33_m10_1.length), (.own (oi 5 1) .int 0 y21.length), (.own (oi 6 1) .int 0 y22.length)]), ((oi 2 1), .mat 23 (oi 3 1) .int l4_m5_1), ((oi 3 1), .pool 3 .int l4_m5_1), ((oi 4 1), .arr 59 (.pair .int (.pair .int .int)) l33_m10_1), ((oi 5 1), .arr 3 .int y21), ((oi 6 1), .arr 3 .int y22)]), 2⟩) ⟨_, (weak_ren []), ⟨0, l25_m10_1, rfl, rfl⟩⟩ ?_
        rintro n_ _ _ c_ ⟨l33_m76, l33_m10_1, rfl, rfl⟩ h hn33
        (try dsimp only at h)
        unfold L_spec_nwMerge_l3 at h
        unfold m_spec_nwMerge_l3
        refine seqR ?_
        refine awp_seqv_ ?_
        rcases cond_some h with ⟨q36, h⟩ | ⟨q36, h⟩
        · have q36_ := of_decide_eq_true q36
          refine awp_condT_ q36 ?_
          refine awp_skip_ (tn_ ?_)
          refine ⟨_, Weak.refl _, ?_⟩
          refine awp_seqB h (fun (l37_m10_1 : List (Int × Int × Int)) S_ => S_ = ⟨mkTm [(4, (.box (oi 0 1) 0)), (10, (.box (oi 1 1) 0)), (11, (ai ((l25_m69 : Nat) : Int))), (67, (.own (oi 2 1) (.slice .int) 0 l4_m5_1.length)), (68, (ai ((l4_m5_1.length : Nat) : Int))), (69, (ai ((l25_m69 : Nat) : Int))), (74, (.own (kid (oi 3 1) l25_m69) .int 0 x31.length)), (75, (ai ((x31.length : Nat) : Int))), (76, (ai ((l33_m76 : Nat) : Int)))], mkOb (someL [((oi 0 1), .cells 30 [(ai 0), .nils, .nils, .nils]), ((oi 1 1), .cells 30 [(ai a1_0), (.own (oi 4 1) (.pair .int (.pair .int .int)) 0 l37_m10_1.length), (.own (oi 5 1) .int 0 y21.length), (.own (oi 6 1) .int 0 y22.length)]), ((oi 2 1), .mat 23 (oi 3 1) .int l4_m5_1), ((oi 3 1), .pool 3 .int l4_m5_1), ((oi 4 1), .arr 59 (.pair .int (.pair .int .int)) l37_m10_1), ((oi 5 1), .arr 3 .int y21), ((oi 6 1), .arr 3 .int y22)]), 2⟩) ?_ ?_
          · intro v_ h
            refine awp_block_ ?_
            refine awp_seqv_ ?_
            obtain ⟨x39, e39, h⟩ := ob_some h
            refine awp_region_ 8 ?_
            refine rs0 (ai ((l33_m76 : Nat) : Int)) (by kernel_rfl) ?_
            refine rs0 (.elt (kid (oi 3 1) l25_m69) l33_m76 0) (s_idxO (t := .int) (o := (kid (oi 3 1) l25_m69)) (len := x31.length) (k := .i64) (m := ((l33_m76 : Nat) : Int)) (by kernel_rfl) (by kernel_rfl) rfl (nat_nn _) rfl (getN_lt e39)) ?_
            refine rsl (ai x39) (s_ldE (i := (kid (oi 3 1) l25_m69)) (j := l33_m76) (k := 0) (e := 3) (t := .int) (xs := x31) (by kernel_rfl) (mkOb_kid (by kernel_rfl) e31) e39 (by kernel_rfl)) ?_
            refine rsB 2 ?_
            refine rnil (tn_ ?_)
            refine ⟨_, Weak.refl _, ?_⟩
            refine seqR ?_
            rcases cond_some h with ⟨q41, h⟩ | ⟨q41, h⟩
            · refine awp_condT_ q41 ?_
              obtain ⟨g42, h⟩ := og_some h
              refine awp_region_ 20 ?_
              refine rs0 (.box (oi 1 1) 1) (by kernel_rfl) ?_
              refine rsl (.own (oi 4 1) (.pair .int (.pair .int .int)) 0 l33_m10_1.length) (by kernel_rfl) ?_
              refine rs0 (ai ((l25_m69 : Nat) : Int)) (by kernel_rfl) ?_
              refine rs0 (ai ((l33_m76 : Nat) : Int)) (by kernel_rfl) ?_
              refine rs0 (ai x39) (by kernel_rfl) ?_
              refine rs0 (.agg [(ai ((l25_m69 : Nat) : Int)), (ai ((l33_m76 : Nat) : Int)), (ai x39)]) (by kernel_rfl) ?_
              refine rs1 (.own (oi 89 16) (.pair .int (.pair .int .int)) 0 1) (oi 89 16) (.arr 59 (.pair .int (.pair .int .int)) ([(((l25_m69 : Nat) : Int), ((l33_m76 : Nat) : Int), x39)])) (by kernel_rfl) ?_
              refine rs2 (.own (oi 4 17) (.pair .int (.pair .int .int)) 0 ((l33_m10_1 ++ ([(((l25_m69 : Nat) : Int), ((l33_m76 : Nat) : Int), x39)])).length)) (oi 4 1) (oi 4 17) (.arr 59 (.pair .int (.pair .int .int)) (l33_m10_1 ++ ([(((l25_m69 : Nat) : Int), ((l33_m76 : Nat) : Int), x39)]))) (s_appO (t := (.pair .int (.pair .int .int))) (t' := (.pair .int (.pair .int .int))) (xs := l33_m10_1) (ys := [(((l25_m69 : Nat) : Int), ((l33_m76 : Nat) : Int), x39)]) (zs := l33_m10_1 ++ ([(((l25_m69 : Nat) : Int), ((l33_m76 : Nat) : Int), x39)])) (j := (oi 4 1)) (len := l33_m10_1.length) (c := (.own (oi 89 16) (.pair .int (.pair .int .int)) 0 1)) (by kernel_rfl) (by kernel_rfl) rfl (by kernel_rfl) (sr_own (e := 59) (by kernel_rfl) rfl) rfl g42) ?_
              refine rsB 2 ?_
              refine rnil (bn_ (tn_ ?_))
              obtain rfl := Option.some.inj h
              exact ⟨_, (weak_ren [((oi 4 1), (oi 4 17))]), rfl⟩
            refine awp_condF_ q41 ?_
            refine awp_skip_ (bn_ (tn_ ?_))
            obtain rfl := Option.some.inj h
            exact ⟨_, (weak_ren []), rfl⟩
          rintro l37_m10_1 _ rfl h
          (try dsimp only at h)
          obtain ⟨g43, h⟩ := og_some h
          refine awp_region_ 4 ?_
          refine rs0 (ai ((l33_m76 + 1 : Nat) : Int)) (s_add1 (j := l33_m76) (by kernel_rfl) (by kernel_rfl) g43) ?_
          refine rsB 1 ?_
          refine rnil (tn_ ?_)
          obtain rfl := Option.some.inj h
          exact ⟨(l33_m76 + 1, l37_m10_1), _, (weak_ren []), ⟨l33_m76 + 1, l37_m10_1, rfl, rfl⟩, hn33⟩
        have q36_ := of_decide_eq_false q36
        refine awp_condF_ q36 ?_
        refine awp_exit_ (te_ (te_ (be_ (bn_ (tn_ ?_)))))
        obtain rfl := Option.some.inj h
        have h := hn33
        (try dsimp only at h)
        obtain rfl := Option.some.inj h
        exact ⟨_, (weak_ren []), rfl⟩
      rintro l29_m10_1 _ rfl h
      (try dsimp only at h)
      obtain ⟨g44, h⟩ := og_some h
      refine awp_region_ 4 ?_
      refine rs0 (ai ((l25_m69 + 1 : Nat) : Int)) (s_add1 (j := l25_m69) (by kernel_rfl) (by kernel_rfl) g44) ?_
      refine rsB 1 ?_
      refine rnil (tn_ ?_)
      obtain rfl := Option.some.inj h
      exact ⟨(l25_m69 + 1, l29_m10_1), _, (weak_ren []), ⟨l25_m69 + 1, l29_m10_1, rfl, rfl⟩, hn25⟩
    have q28_ := of_decide_eq_false q28
    refine awp_condF_ q28 ?_
    refine awp_exit_ (te_ (te_ (be_ (tn_ ?_))))
    obtain rfl := Option.some.inj h
    have h := hn25
    (try dsimp only at h)
    obtain rfl := Option.some.inj h
    exact ⟨_, (weak_ren [((oi 2 1), (oi 4 1)), ((oi 3 1), (oi 5 1)), ((oi 4 1), (oi 6 1))]), rfl⟩
  rintro l23_m10_1 _ rfl h
  (try dsimp only at h)
  refine seqR ?_
  refine awp_ret_ ?_
  obtain rfl := Option.some.inj h
  exact ret_ [(.agg [(ai a1_0), (.own (oi 2 1) (.pair .int (.pair .int .int)) 0 l23_m10_1.length), (.own (oi 3 1) .int 0 y21.length), (.own (oi 4 1) .int 0 y22.length)])] (p_agg (l_cons (l_sc (by kernel_rfl)) (l_cons (l_own (by kernel_rfl) rfl) (l_cons (l_own (by kernel_rfl) rfl) (l_cons (l_own (by kernel_rfl) rfl) l_nil)))) p_nil)
def m_spec_nwIf : AC :=
  (.seq (rg [xo 3 (.i (.box 30 (tm 1))), xo 4 (.i (.alloc 30 [(.int .i64 0), .nils, .nils, .nils])), xo 5 (qm (cb false))])
  (.seq (.seq (rg [xo 6 (qm (tm 0)), xo 7 (.i (.ld false 4 (tm 3))), ⟨(some 8), none, (qc 42 [(tm 6), (tm 7)] [[], [none, (some (.pair .int (.pair .int .int))), (some .int), (some .int)]])⟩, xo 9 (.i (.not (tm 8)))])
  (.cond (tm 9)
    (.seq (rg [xo 10 (.build [(.int .i64 0), .nils, .nils, .nils] []), xn (.st false 4 (tm 4) (tm 10)), xo 5 (qm (cb false))])
    .ret)
    .skip))
  (.seq (rg [xo 11 (.i (.ld false 4 (tm 3))), xn (.st false 4 (tm 4) (tm 11)), xo 5 (qm (cb true))])
  .ret)))
def r_spec_nwIf : List Res := [.cell 4 false 4, .tmp 5]
theorem c_spec_nwIf : compiled Tryd.prog Tryd.f64 = some (m_spec_nwIf, r_spec_nwIf) := by kernel_rfl
theorem hb_spec_nwIf : hasBody Tryd.prog 64 = true := by kernel_rfl
def L_spec_nwIf (a0 : Int) (a1_0 : Int) (a1_1 : List (Int × Int × Int)) (a1_2 : List Int) (a1_3 : List Int) : Option (Sum (Int × Bool) (Int × Bool)) :=
  Option.bind (L_spec_nwGood a0 a1_0 a1_1 a1_2 a1_3) fun y4 =>
cond (!y4)
  (some (.inl (0, false)))
  (some (.inr (a1_0, true)))
def rv_spec_nwIf : Sum (Int × Bool) (Int × Bool) → RV
  | .inl r => ⟨true, [(true, [.sc (.int .i64 r.1), .sc .nils, .sc .nils, .sc .nils]), (false, [.sc (.bool r.2)])]⟩
  | .inr r => ⟨true, [(true, [.sc (.int .i64 r.1), .arg 1 (some 1), .arg 1 (some 2), .arg 1 (some 3)]), (false, [.sc (.bool r.2)])]⟩
theorem ok_spec_nwIf {a0 : Int} {a1_0 : Int} {a1_1 : List (Int × Int × Int)} {a1_2 : List Int} {a1_3 : List Int} {r : Sum (Int × Bool) (Int × Bool)} (h : L_spec_nwIf a0 a1_0 a1_1 a1_2 a1_3 = some r) : CallOK Tryd.prog Tab 64 [(ai a0), (.agg [(ai a1_0), (.tree (.pair .int (.pair .int .int)) a1_1), (.tree .int a1_2), (.tree .int a1_3)])] (rv_spec_nwIf r) := by
  refine call_of_g_ (by kernel_rfl) Tryd.func64 c_spec_nwIf (n := 12) (by kernel_rfl) (by simp) ?_
  intro im_ w_ vs_ hvs_
  obtain ⟨u0, _, rfl, _, ⟨_, _, rfl, ⟨_, rfl, ⟨u1_0, _, rfl, _, ⟨u1_1, _, rfl, _, ⟨u1_2, _, rfl, _, ⟨u1_3, _, rfl, _, rfl⟩⟩⟩⟩⟩, rfl⟩⟩ := hvs_
  change awp _ _ _ _ ⟨mkTm [(0, (ai a0)), (1, (.agg [(ai a1_0), (.giv u1_1 (.pair .int (.pair .int .int)) a1_1), (.giv u1_2 .int a1_2), (.giv u1_3 .int a1_3)]))], mkOb [], 1⟩
  unfold m_spec_nwIf
  unfold L_spec_nwIf at h
  refine seqR ?_
  refine awp_seqv_ ?_
  refine awp_seqv_ ?_
  obtain ⟨y4, h4, h⟩ := ob_some h
  refine awp_region_ 8 ?_
  refine rs0 (ai a0) (by kernel_rfl) ?_
  refine rsl (.agg [(ai a1_0), (.giv u1_1 (.pair .int (.pair .int .int)) a1_1), (.giv u1_2 .int a1_2), (.giv u1_3 .int a1_3)]) (by kernel_rfl) ?_
  refine rcall (.bool y4) [] [(ai a0), (.agg [(ai a1_0), (.giv u1_1 (.pair .int (.pair .int .int)) a1_1), (.giv u1_2 .int a1_2), (.giv u1_3 .int a1_3)])] _ (caps := []) (args0 := [(ai a0), (.agg [(ai a1_0), (.tree (.pair .int (.pair .int .int)) a1_1), (.tree .int a1_2), (.tree .int a1_3)])]) trivial (by kernel_rfl) (ok_spec_nwGood h4) hb_spec_nwGood ?_
  refine rsB 1 ?_
  refine rnil (tn_ ?_)
  refine ⟨_, Weak.refl _, ?_⟩
  rcases cond_some h with ⟨q5, h⟩ | ⟨q5, h⟩
  · refine awp_condT_ q5 ?_
    refine seqR ?_
    refine awp_ret_ (tr_ ?_)
    obtain rfl := Option.some.inj h
    exact ret_ [(.agg [(ai 0), .nils, .nils, .nils]), (.bool false)] (p_agg (l_cons (l_sc (by kernel_rfl)) (l_cons (l_sc (by kernel_rfl)) (l_cons (l_sc (by kernel_rfl)) (l_cons (l_sc (by kernel_rfl)) l_nil)))) (p_one rfl (l_sc (by kernel_rfl)) p_nil))
  refine awp_condF_ q5 ?_
  refine awp_skip_ (tn_ ?_)
  refine ⟨_, Weak.refl _, ?_⟩
  refine seqR ?_
  refine awp_ret_ ?_
  obtain rfl := Option.some.inj h
  exact ret_ [(.agg [(ai a1_0), (.giv u1_1 (.pair .int (.pair .int .int)) a1_1), (.giv u1_2 .int a1_2), (.giv u1_3 .int a1_3)]), (.bool true)] (p_agg (l_cons (l_sc (by kernel_rfl)) (l_cons (l_arg rfl) (l_cons (l_arg rfl) (l_cons (l_arg rfl) l_nil)))) (p_one rfl (l_sc (by kernel_rfl)) p_nil))
def m_spec_MergeBranches : AC :=
  (.seq (rg [xo 3 (.i (.box 30 (tm 1))), xo 4 (.i (.alloc 30 [(.int .i64 0), .nils, .nils, .nils])), xo 5 (qm (cb false))])
  (.seq (.seq (rg [xo 6 (qm (tm 0)), xo 7 (.i (.ld false 4 (tm 3))), ⟨(some 8), none, (qc 42 [(tm 6), (tm 7)] [[], [none, (some (.pair .int (.pair .int .int))), (some .int), (some .int)]])⟩, xo 9 (.i (.not (tm 8)))])
  (.cond (tm 9)
    (.seq (rg [xo 10 (.build [(.int .i64 0), .nils, .nils, .nils] []), xn (.st false 4 (tm 4) (tm 10)), xo 5 (qm (cb false))])
    .ret)
    .skip))
  (.seq (rg [xo 11 (qm (tm 0)), xo 12 (qm (tm 0)), xo 13 (.i (.ld false 4 (tm 3))), ⟨(some 14), none, (qc 65 [(tm 12), (tm 13)] [[], [none, (some (.pair .int (.pair .int .int))), (some .int), (some .int)]])⟩, ⟨(some 15), none, (qc 64 [(tm 11), (tm 14)] [[], [none, (some (.pair .int (.pair .int .int))), (some .int), (some .int)]])⟩, xo 16 (.i (.extr 0 (tm 15))), xo 17 (.i (.extr 1 (tm 15))), xn (.st false 4 (tm 4) (tm 16)), xo 5 (qm (tm 17))])
  .ret)))
def r_spec_MergeBranches : List Res := [.cell 4 false 4, .tmp 5]
theorem c_spec_MergeBranches : compiled Tryd.prog Tryd.f30 = some (m_spec_MergeBranches, r_spec_MergeBranches) := by kernel_rfl
theorem hb_spec_MergeBranches : hasBody Tryd.prog 30 = true := by kernel_rfl
def L_spec_MergeBranches (a0 : Int) (a1_0 : Int) (a1_1 : List (Int × Int × Int)) (a1_2 : List Int) (a1_3 : List Int) : Option (Int × (List (Int × Int × Int)) × List Int × List Int × Bool) :=
  Option.bind (L_spec_nwGood a0 a1_0 a1_1 a1_2 a1_3) fun y4 =>
cond (!y4)
  (some (0, [], [], [], false))
  (Option.bind (Option.bind (L_spec_nwMerge a0 a1_0 a1_1 a1_2 a1_3) fun y8 =>
    Option.bind (L_spec_nwIf a0 y8.1 y8.2.1 y8.2.2.1 y8.2.2.2) fun y9 =>
    (Sum.elim (fun z9_0 =>
    some (z9_0.2, z9_0.1, [], [], [])) (fun z9_1 =>
    some (z9_1.2, z9_1.1, y8.2.1, y8.2.2.1, y8.2.2.2))) y9) fun (l7_m5, l7_m4_0, l7_m4_1, l7_m4_2, l7_m4_3) =>
  some (l7_m4_0, l7_m4_1, l7_m4_2, l7_m4_3, l7_m5))
def rv_spec_MergeBranches (r : Int × (List (Int × Int × Int)) × List Int × List Int × Bool) : RV := ⟨true, [(true, [.sc (.int .i64 r.1), .new 59 (.pair .int (.pair .int .int)) r.2.1, .new 3 .int r.2.2.1, .new 3 .int r.2.2.2.1]), (false, [.sc (.bool r.2.2.2.2)])]⟩
theorem ok_spec_MergeBranches {a0 : Int} {a1_0 : Int} {a1_1 : List (Int × Int × Int)} {a1_2 : List Int} {a1_3 : List Int} {r : Int × (List (Int × Int × Int)) × List Int × List Int × Bool} (h : L_spec_MergeBranches a0 a1_0 a1_1 a1_2 a1_3 = some r) : CallOK Tryd.prog Tab 30 [(ai a0), (.agg [(ai a1_0), (.tree (.pair .int (.pair .int .int)) a1_1), (.tree .int a1_2), (.tree .int a1_3)])] (rv_spec_MergeBranches r) := by
  refine call_of_ (by kernel_rfl) Tryd.func30 c_spec_MergeBranches (n := 18) (by kernel_rfl) (by simp) (tl := [(0, (ai a0)), (1, (.agg [(ai a1_0), (.tree (.pair .int (.pair .int .int)) a1_1), (.tree .int a1_2), (.tree .int a1_3)]))]) rfl ?_
  unfold m_spec_MergeBranches
  unfold L_spec_MergeBranches at h
  refine seqR ?_
  refine awp_seqv_ ?_
  refine awp_seqv_ ?_
  obtain ⟨y4, h4, h⟩ := ob_some h
  refine awp_region_ 8 ?_
  refine rs0 (ai a0) (by kernel_rfl) ?_
  refine rsl (.agg [(ai a1_0), (.tree (.pair .int (.pair .int .int)) a1_1), (.tree .int a1_2), (.tree .int a1_3)]) (by kernel_rfl) ?_
  refine rcall (.bool y4) [] [(ai a0), (.agg [(ai a1_0), (.tree (.pair .int (.pair .int .int)) a1_1), (.tree .int a1_2), (.tree .int a1_3)])] _ (caps := []) (args0 := [(ai a0), (.agg [(ai a1_0), (.tree (.pair .int (.pair .int .int)) a1_1), (.tree .int a1_2), (.tree .int a1_3)])]) trivial (by kernel_rfl) (ok_spec_nwGood h4) hb_spec_nwGood ?_
  refine rsB 1 ?_
  refine rnil (tn_ ?_)
  refine ⟨_, Weak.refl _, ?_⟩
  rcases cond_some h with ⟨q5, h⟩ | ⟨q5, h⟩
  · refine awp_condT_ q5 ?_
    refine seqR ?_
    refine awp_ret_ (tr_ ?_)
    obtain rfl := Option.some.inj h
    exact ret_ [(.agg [(ai 0), .nils, .nils, .nils]), (.bool false)] (p_agg (l_cons (l_sc (by kernel_rfl)) (l_cons (l_nils rfl) (l_cons (l_nils rfl) (l_cons (l_nils rfl) l_nil)))) (p_one rfl (l_sc (by kernel_rfl)) p_nil))
  refine awp_condF_ q5 ?_
  refine awp_skip_ (tn_ ?_)
  refine ⟨_, Weak.refl _, ?_⟩
  refine awp_seqB h (fun t_ S_ => ∃ (l7_m5 : Bool), ∃ (l7_m4_0 : Int), ∃ (l7_m4_1 : List (Int × Int × Int)), ∃ (l7_m4_2 : List Int), ∃ (l7_m4_3 : List Int), t_ = (l7_m5, l7_m4_0, l7_m4_1, l7_m4_2, l7_m4_3) ∧ S_ = ⟨mkTm [(4, (.box (oi 0 1) 0)), (5, (.bool l7_m5))], mkOb (someL [((oi 0 1), .cells 30 [(ai l7_m4_0), (.own (oi 1 1) (.pair .int (.pair .int .int)) 0 l7_m4_1.length), (.own (oi 2 1) .int 0 l7_m4_2.length), (.own (oi 3 1) .int 0 l7_m4_3.length)]), ((oi 1 1), .arr 59 (.pair .int (.pair .int .int)) l7_m4_1), ((oi 2 1), .arr 3 .int l7_m4_2), ((oi 3 1), .arr 3 .int l7_m4_3)]), 2⟩) ?_ ?_
  · intro v_ h
    obtain ⟨y8, h8, h⟩ := ob_some h
    obtain ⟨y9, h9, h⟩ := ob_some h
    rcases y9 with z9_0 | z9_1
    · (try simp only [Sum.elim_inl, Sum.elim_inr] at h)
      refine awp_region_ 17 ?_
      refine rs0 (ai a0) (by kernel_rfl) ?_
      refine rs0 (ai a0) (by kernel_rfl) ?_
      refine rsl (.agg [(ai a1_0), (.tree (.pair .int (.pair .int .int)) a1_1), (.tree .int a1_2), (.tree .int a1_3)]) (by kernel_rfl) ?_
      refine rcall (.agg [(ai y8.1), (.own (oi 224 11) (.pair .int (.pair .int .int)) 0 y8.2.1.length), (.own (oi 225 11) .int 0 y8.2.2.1.length), (.own (oi 226 11) .int 0 y8.2.2.2.length)]) [((oi 224 11), some (.arr 59 (.pair .int (.pair .int .int)) y8.2.1)), ((oi 225 11), some (.arr 3 .int y8.2.2.1)), ((oi 226 11), some (.arr 3 .int y8.2.2.2))] [(ai a0), (.agg [(ai a1_0), (.tree (.pair .int (.pair .int .int)) a1_1), (.tree .int a1_2), (.tree .int a1_3)])] _ (caps := []) (args0 := [(ai a0), (.agg [(ai a1_0), (.tree (.pair .int (.pair .int .int)) a1_1), (.tree .int a1_2), (.tree .int a1_3)])]) trivial (by kernel_rfl) (ok_spec_nwMerge h8) hb_spec_nwMerge ?_
      refine rcall (.tup [(.agg [(ai z9_0.1), .nils, .nils, .nils]), (.bool z9_0.2)]) [] [(ai a0), (.agg [(ai y8.1), (.own (oi 224 11) (.pair .int (.pair .int .int)) 0 y8.2.1.length), (.own (oi 225 11) .int 0 y8.2.2.1.length), (.own (oi 226 11) .int 0 y8.2.2.2.length)])] _ (caps := []) (args0 := [(ai a0), (.agg [(ai y8.1), (.tree (.pair .int (.pair .int .int)) y8.2.1), (.tree .int y8.2.2.1), (.tree .int y8.2.2.2)])]) trivial (gm_cons (by kernel_rfl) (gm_cons (gd_agg (gm_cons (by kernel_rfl) (gm_cons (gd_own (e := 59) (by kernel_rfl) rfl) (gm_cons (gd_own (e := 3) (by kernel_rfl) rfl) (gm_cons (gd_own (e := 3) (by kernel_rfl) rfl) gm_nil))))) gm_nil)) (ok_spec_nwIf h9) hb_spec_nwIf ?_
      refine rsB 4 ?_
      refine rnil (tn_ ?_)
      obtain rfl := Option.some.inj h
      exact ⟨_, ((weak_nil_cell_ 9000 (oi 4 2) 1 30 [(ai z9_0.1), .nils, .nils, .nils] [(ai z9_0.1), (.own (oi 9000 17) (.pair .int (.pair .int .int)) 0 0), .nils, .nils] 59 (.pair .int (.pair .int .int)) rfl (by kernel_rfl) (by kernel_rfl) (by kernel_rfl)).trans ((weak_nil_cell_ 9001 (oi 4 2) 2 30 [(ai z9_0.1), (.own (oi 9000 17) (.pair .int (.pair .int .int)) 0 0), .nils, .nils] [(ai z9_0.1), (.own (oi 9000 17) (.pair .int (.pair .int .int)) 0 0), (.own (oi 9001 18) .int 0 0), .nils] 3 .int rfl (by kernel_rfl) (by kernel_rfl) (by kernel_rfl)).trans ((weak_nil_cell_ 9002 (oi 4 2) 3 30 [(ai z9_0.1), (.own (oi 9000 17) (.pair .int (.pair .int .int)) 0 0), (.own (oi 9001 18) .int 0 0), .nils] [(ai z9_0.1), (.own (oi 9000 17) (.pair .int (.pair .int .int)) 0 0), (.own (oi 9001 18) .int 0 0), (.own (oi 9002 19) .int 0 0)] 3 .int rfl (by kernel_rfl) (by kernel_rfl) (by kernel_rfl)).trans (weak_ren [((oi 0 1), (oi 4 2)), ((oi 1 1), (oi 9000 17)), ((oi 2 1), (oi 9001 18)), ((oi 3 1), (oi 9002 19))])))), ⟨z9_0.2, z9_0.1, [], [], [], rfl, rfl⟩⟩
    (try simp only [Sum.elim_inl, Sum.elim_inr] at h)
    refine awp_region_ 17 ?_
    refine rs0 (ai a0) (by kernel_rfl) ?_
    refine rs0 (ai a0) (by kernel_rfl) ?_
    refine rsl (.agg [(ai a1_0), (.tree (.pair .int (.pair .int .int)) a1_1), (.tree .int a1_2), (.tree .int a1_3)]) (by kernel_rfl) ?_
    refine rcall (.agg [(ai y8.1), (.own (oi 224 11) (.pair .int (.pair .int .int)) 0 y8.2.1.length), (.own (oi 225 11) .int 0 y8.2.2.1.length), (.own (oi 226 11) .int 0 y8.2.2.2.length)]) [((oi 224 11), some (.arr 59 (.pair .int (.pair .int .int)) y8.2.1)), ((oi 225 11), some (.arr 3 .int y8.2.2.1)), ((oi 226 11), some (.arr 3 .int y8.2.2.2))] [(ai a0), (.agg [(ai a1_0), (.tree (.pair .int (.pair .int .int)) a1_1), (.tree .int a1_2), (.tree .int a1_3)])] _ (caps := []) (args0 := [(ai a0), (.agg [(ai a1_0), (.tree (.pair .int (.pair .int .int)) a1_1), (.tree .int a1_2), (.tree .int a1_3)])]) trivial (by kernel_rfl) (ok_spec_nwMerge h8) hb_spec_nwMerge ?_
    refine rcall (.tup [(.agg [(ai z9_1.1), (.own (oi 224 11) (.pair .int (.pair .int .int)) 0 y8.2.1.length), (.own (oi 225 11) .int 0 y8.2.2.1.length), (.own (oi 226 11) .int 0 y8.2.2.2.length)]), (.bool z9_1.2)]) [] [(ai a0), (.agg [(ai y8.1), (.own (oi 224 11) (.pair .int (.pair .int .int)) 0 y8.2.1.length), (.own (oi 225 11) .int 0 y8.2.2.1.length), (.own (oi 226 11) .int 0 y8.2.2.2.length)])] _ (caps := []) (args0 := [(ai a0), (.agg [(ai y8.1), (.tree (.pair .int (.pair .int .int)) y8.2.1), (.tree .int y8.2.2.1), (.tree .int y8.2.2.2)])]) trivial (gm_cons (by kernel_rfl) (gm_cons (gd_agg (gm_cons (by kernel_rfl) (gm_cons (gd_own (e := 59) (by kernel_rfl) rfl) (gm_cons (gd_own (e := 3) (by kernel_rfl) rfl) (gm_cons (gd_own (e := 3) (by kernel_rfl) rfl) gm_nil))))) gm_nil)) (ok_spec_nwIf h9) hb_spec_nwIf ?_
    refine rsB 4 ?_
    refine rnil (tn_ ?_)
    obtain rfl := Option.some.inj h
    exact ⟨_, (weak_ren [((oi 0 1), (oi 4 2)), ((oi 1 1), (oi 224 11)), ((oi 2 1), (oi 225 11)), ((oi 3 1), (oi 226 11))]), ⟨z9_1.2, z9_1.1, y8.2.1, y8.2.2.1, y8.2.2.2, rfl, rfl⟩⟩
  rintro _ _ ⟨l7_m5, l7_m4_0, l7_m4_1, l7_m4_2, l7_m4_3, rfl, rfl⟩ h
  (try dsimp only at h)
  refine awp_ret_ ?_
  obtain rfl := Option.some.inj h
  exact ret_ [(.agg [(ai l7_m4_0), (.own (oi 1 1) (.pair .int (.pair .int .int)) 0 l7_m4_1.length), (.own (oi 2 1) .int 0 l7_m4_2.length), (.own (oi 3 1) .int 0 l7_m4_3.length)]), (.bool l7_m5)] (p_agg (l_cons (l_sc (by kernel_rfl)) (l_cons (l_own (by kernel_rfl) rfl) (l_cons (l_own (by kernel_rfl) rfl) (l_cons (l_own (by kernel_rfl) rfl) l_nil)))) (p_one rfl (l_sc (by kernel_rfl)) p_nil))
def m_impl_Branch_ordered : AC :=
  (.seq (rg [xo 1 (.i (.box 59 (tm 0))), xo 2 (.i (.alloc 59 [(.int .i64 0), (.int .i64 0), (.int .i64 0)]))])
  (.seq (rg [xo 3 (qf 0 (tm 1)), xo 4 (ql (tm 3)), xo 5 (qf 1 (tm 1)), xo 6 (ql (tm 5)), xo 7 (.mm false (tm 4) (tm 6)), xo 8 (qf 0 (tm 1)), xo 9 (ql (tm 8)), xo 10 (qf 1 (tm 1)), xo 11 (ql (tm 10)), xo 12 (.mm true (tm 9) (tm 11)), xo 13 (qf 2 (tm 1)), xo 14 (ql (tm 13)), xo 15 (.build [(.int .i64 0), (.int .i64 0), (.int .i64 0)] [(0, 1, (tm 7)), (1, 1, (tm 12)), (2, 1, (tm 14))]), xn (.st false 3 (tm 2) (tm 15))])
  .ret))
def r_impl_Branch_ordered : List Res := [.cell 2 false 3]
theorem c_impl_Branch_ordered : compiled Tryd.prog Tryd.f99 = some (m_impl_Branch_ordered, r_impl_Branch_ordered) := by kernel_rfl
theorem hb_impl_Branch_ordered : hasBody Tryd.prog 99 = true := by kernel_rfl
def L_impl_Branch_ordered (a0_0 : Int) (a0_1 : Int) (a0_2 : Int) : Option (Int × Int × Int) :=
  some (if a0_1 < a0_0 then a0_1 else a0_0, if a0_0 < a0_1 then a0_1 else a0_0, a0_2)
def rv_impl_Branch_ordered (r : Int × Int × Int) : RV := ⟨false, [(true, [.sc (.int .i64 r.1), .sc (.int .i64 r.2.1), .sc (.int .i64 r.2.2)])]⟩
theorem ok_impl_Branch_ordered {a0_0 : Int} {a0_1 : Int} {a0_2 : Int} {r : Int × Int × Int} (h : L_impl_Branch_ordered a0_0 a0_1 a0_2 = some r) : CallOK Tryd.prog Tab 99 [(.agg [(ai a0_0), (ai a0_1), (ai a0_2)])] (rv_impl_Branch_ordered r) := by
  refine call_of_ (by kernel_rfl) Tryd.func99 c_impl_Branch_ordered (n := 16) (by kernel_rfl) (by simp) (tl := [(0, (.agg [(ai a0_0), (ai a0_1), (ai a0_2)]))]) rfl ?_
  unfold m_impl_Branch_ordered
  unfold L_impl_Branch_ordered at h
  refine seqR ?_
  refine seqR ?_
  refine awp_ret_ ?_
  obtain rfl := Option.some.inj h
  exact ret_ [(.agg [(ai (if a0_1 < a0_0 then a0_1 else a0_0)), (ai (if a0_0 < a0_1 then a0_1 else a0_0)), (ai a0_2)])] (p_agg (l_cons (l_sc (by kernel_rfl)) (l_cons (l_sc (by kernel_rfl)) (l_cons (l_sc (by kernel_rfl)) l_nil))) p_nil)
def m_impl_mod : AC :=
  (.seq (rg [xo 4 (qm (ci 0))])
  (.seq (rg [xo 5 (qm (tm 1)), xo 6 (qm (tm 0)), xo 7 (qb .rem (tm 5) (tm 6)), xo 1 (qm (tm 7))])
  (.seq (.seq (rg [xo 8 (qm (tm 1)), xo 9 (qb .lss (tm 8) (ci 0))])
  (.cond (tm 9)
    (rg [xo 10 (qm (tm 1)), xo 11 (qm (tm 0)), xo 12 (qb .add (tm 10) (tm 11)), xo 1 (qm (tm 12))])
    .skip))
  (.seq (rg [xo 13 (qm (tm 1)), xo 4 (qm (tm 13))])
  .ret))))
def r_impl_mod : List Res := [.tmp 4]
theorem c_impl_mod : compiled Tryd.prog Tryd.f51 = some (m_impl_mod, r_impl_mod) := by kernel_rfl
theorem hb_impl_mod : hasBody Tryd.prog 51 = true := by kernel_rfl
def L_impl_mod (a0 : Int) (a1 : Int) : Option Int :=
  og (a0 ≠ 0) <|
Option.bind (cond (decide (Int.tmod a1 a0 < 0))
    (some (IntKind.i64.wrap (Int.tmod a1 a0 + a0)))
    (some (Int.tmod a1 a0))) fun l4_m1 =>
some l4_m1
def rv_impl_mod (r : Int) : RV := ⟨false, [(false, [.sc (.int .i64 r)])]⟩
theorem ok_impl_mod {a0 : Int} {a1 : Int} {r : Int} (h : L_impl_mod a0 a1 = some r) : CallOK Tryd.prog Tab 51 [(ai a0), (ai a1)] (rv_impl_mod r) := by
  refine call_of_ (by kernel_rfl) Tryd.func51 c_impl_mod (n := 14) (by kernel_rfl) (by simp) (tl := [(0, (ai a0)), (1, (ai a1))]) rfl ?_
  unfold m_impl_mod
  unfold L_impl_mod at h
  refine seqR ?_
  refine awp_seqv_ ?_
  obtain ⟨g3, h⟩ := og_some h
  refine awp_region_ 6 ?_
  refine rs0 (ai a1) (by kernel_rfl) ?_
  refine rs0 (ai a0) (by kernel_rfl) ?_
  refine rs0 (ai (Int.tmod a1 a0)) (s_rem (k := .i64) (a := a1) (b := a0) (by kernel_rfl) (by kernel_rfl) g3) ?_
  refine rsB 1 ?_
  refine rnil (tn_ ?_)
  refine ⟨_, Weak.refl _, ?_⟩
  refine awp_seqB h (fun (l4_m1 : Int) S_ => S_ = ⟨mkTm [(1, (ai l4_m1))], mkOb (someL []), 2⟩) ?_ ?_
  · intro v_ h
    refine seqR ?_
    rcases cond_some h with ⟨q6, h⟩ | ⟨q6, h⟩
    · have q6_ := of_decide_eq_true q6
      refine awp_condT_ q6 ?_
      refine awp_region_ 12 ?_
      refine rsB 4 ?_
      refine rnil (tn_ ?_)
      obtain rfl := Option.some.inj h
      exact ⟨_, (weak_ren []), rfl⟩
    have q6_ := of_decide_eq_false q6
    refine awp_condF_ q6 ?_
    refine awp_skip_ (tn_ ?_)
    obtain rfl := Option.some.inj h
    exact ⟨_, (weak_ren []), rfl⟩
  rintro l4_m1 _ rfl h
  (try dsimp only at h)
  refine seqR ?_
  refine awp_ret_ ?_
  obtain rfl := Option.some.inj h
  exact ret_ [(ai l4_m1)] (p_one rfl (l_sc (by kernel_rfl)) p_nil)
def m_impl_clone : AC :=
  (.seq (rg [xo 2 (qm (.cst .nils))])
  (.seq (rg [xo 3 (.mkS 3 .int []), xo 4 (qm (tm 0)), xo 5 (.append 3 .int 8 (tm 3) (tm 4)), xo 2 (qm (tm 5))])
  .ret))
def r_impl_clone : List Res := [.tmp 2]
theorem c_impl_clone : compiled Tryd.prog Tryd.f54 = some (m_impl_clone, r_impl_clone) := by kernel_rfl
theorem hb_impl_clone : hasBody Tryd.prog 54 = true := by kernel_rfl
def L_impl_clone (a0 : List Int) : Option (List Int) :=
  og (0 + a0.length ≤ 1073741824 ∧ (0 + a0.length) * 8 ≤ 140737488355328) <|
some a0
def rv_impl_clone (r : List Int) : RV := ⟨false, [(false, [.new 3 .int r])]⟩
theorem ok_impl_clone {a0 : List Int} {r : List Int} (h : L_impl_clone a0 = some r) : CallOK Tryd.prog Tab 54 [(.tree .int a0)] (rv_impl_clone r) := by
  refine call_of_ (by kernel_rfl) Tryd.func54 c_impl_clone (n := 6) (by kernel_rfl) (by simp) (tl := [(0, (.tree .int a0))]) rfl ?_
  unfold m_impl_clone
  unfold L_impl_clone at h
  refine seqR ?_
  refine awp_seqv_ ?_
  obtain ⟨g3, h⟩ := og_some h
  refine awp_region_ 6 ?_
  refine rs1 (.own (oi 3 2) .int 0 0) (oi 3 2) (.arr 3 .int []) (by kernel_rfl) ?_
  refine rs0 (.tree .int a0) (by kernel_rfl) ?_
  refine rs2 (.own (oi 3 4) .int 0 a0.length) (oi 3 2) (oi 3 4) (.arr 3 .int a0) (s_appO (t := .int) (t' := .int) (xs := []) (ys := a0) (zs := a0) (j := (oi 3 2)) (len := 0) (c := (.tree .int a0)) (by kernel_rfl) (by kernel_rfl) rfl (by kernel_rfl) sr_tree rfl g3) ?_
  refine rsB 1 ?_
  refine rnil (tn_ ?_)
  refine ⟨_, Weak.refl _, ?_⟩
  refine awp_ret_ ?_
  obtain rfl := Option.some.inj h
  exact ret_ [(.own (oi 3 4) .int 0 a0.length)] (p_one rfl (l_own (by kernel_rfl) rfl) p_nil)
def m_impl_Network_merged_l3 : AC :=
  (.seq (.seq (rg [xo 51 (qm (tm 11)), xo 52 (qf 0 (tm 2)), xo 53 (ql (tm 52)), xo 54 (qb .lss (tm 51) (tm 53))])
  (.cond (tm 54)
    .skip
    (.exit 4)))
  (.seq (.block 5 (.seq (rg [xo 57 (qm (tm 5)), xo 58 (qm (tm 10)), xo 59 (qm (tm 11)), xo 60 (.build [(.int .i64 0), (.int .i64 0), (.int .i64 0)] [(0, 1, (tm 58)), (1, 1, (tm 59))]), xo 61 (.i (.look 93 false (tm 57) (tm 60))), xo 12 (qm (tm 61))])
  (.seq (rg [xo 62 (qm (tm 12)), xo 63 (qb .neq (tm 62) (ci 0))])
  (.cond (tm 63)
    (rg [xo 64 (qf 1 (tm 9)), xo 65 (ql (tm 64)), xo 66 (qm (tm 10)), xo 67 (qm (tm 11)), xo 68 (qm (tm 12)), xo 69 (.build [(.int .i64 0), (.int .i64 0), (.int .i64 0)] [(0, 1, (tm 66)), (1, 1, (tm 67)), (2, 1, (tm 68))]), xo 70 (.mkS 59 (.pair .int (.pair .int .int)) [(tm 69)]), xo 71 (.append 59 (.pair .int (.pair .int .int)) 24 (tm 65) (tm 70)), xo 72 (qf 1 (tm 9)), xn (qs (tm 72) (tm 71))])
    .skip))))
  (rg [xo 55 (qm (tm 11)), xo 56 (qb .add (tm 55) (ci 1)), xo 11 (qm (tm 56))])))
def m_impl_Network_merged_l2 : AC :=
  (.seq (rg [xo 47 (qb .lss (tm 46) (tm 45))])
  (.seq (.cond (tm 47)
    .skip
    (.exit 2))
  (.seq (.block 3 (.seq (rg [xo 48 (qm (tm 46)), xo 10 (qm (tm 48))])
  (.seq (rg [xo 49 (qm (tm 10)), xo 50 (qb .add (tm 49) (ci 1)), xo 11 (qm (tm 50))])
  (.block 4 (.loop m_impl_Network_merged_l3)))))
  (rg [xo 73 (qb .add (tm 46) (ci 1)), xo 46 (qm (tm 73))]))))
def m_impl_Network_merged_l1 : AC :=
  (.seq (rg [xo 18 (qb .lss (tm 17) (tm 16))])
  (.seq (.cond (tm 18)
    .skip
    (.exit 0))
  (.seq (.block 1 (.seq (rg [xo 19 (qx 3 (tm 15) (tm 17)), xo 20 (.i (.ld false 3 (tm 19))), xo 7 (.i (.alloc 59 [(.int .i64 0), (.int .i64 0), (.int .i64 0)])), xn (.st false 3 (tm 7) (tm 20))])
  (.seq (rg [xo 21 (.i (.ld false 3 (tm 7))), xo 22 (qc 99 [(tm 21)] [[none, none, none]]), xo 8 (.i (.alloc 59 [(.int .i64 0), (.int .i64 0), (.int .i64 0)])), xn (.st false 3 (tm 8) (tm 22))])
  (.seq (rg [xo 23 (qf 2 (tm 8)), xn (qs (tm 23) (ci 0))])
  (.region [xo 24 (qm (tm 5)), xo 25 (.i (.ld false 3 (tm 8))), xo 26 (qm (tm 1)), xo 27 (qm (tm 5)), xo 28 (.i (.ld false 3 (tm 8))), xo 29 (.i (.look 93 false (tm 27) (tm 28))), xo 30 (qf 2 (tm 7)), xo 31 (ql (tm 30)), xo 32 (qb .add (tm 29) (tm 31)), xo 33 (qc 51 [(tm 26), (tm 32)] [[], []]), xn (.upd 93 (tm 24) (tm 25) (tm 33))] true [(1, 9)])))))
  (rg [xo 34 (qb .add (tm 17) (ci 1)), xo 17 (qm (tm 34))]))))
def m_impl_Network_merged : AC :=
  (.seq (rg [xo 2 (.i (.box 30 (tm 0))), xo 4 (.i (.alloc 30 [(.int .i64 0), .nils, .nils, .nils]))])
  (.seq (rg [xo 13 (.makeM 93 .int), xo 5 (qm (tm 13))])
  (.seq (.seq (rg [xo 14 (qf 1 (tm 2)), xo 15 (ql (tm 14)), xo 16 (.i (.len (tm 15))), xo 17 (qm (ci 0))])
  (.block 0 (.loop m_impl_Network_merged_l1)))
  (.seq (.region [xo 35 (qf 0 (tm 2)), xo 36 (ql (tm 35)), xo 37 (qf 2 (tm 2)), xo 38 (ql (tm 37)), xo 39 (qc 54 [(tm 38)] [[(some .int)]]), xo 40 (qf 3 (tm 2)), xo 41 (ql (tm 40)), xo 42 (qc 54 [(tm 41)] [[(some .int)]]), xo 43 (.build [(.int .i64 0), .nils, .nils, .nils] [(0, 1, (tm 36)), (2, 1, (tm 39)), (3, 1, (tm 42))]), xo 9 (.i (.alloc 30 [(.int .i64 0), .nils, .nils, .nils])), xn (.st false 4 (tm 9) (tm 43))] true [(1, 4), (4, 6), (1, 7), (4, 9), (7, 9)])
  (.seq (.seq (rg [xo 44 (qf 0 (tm 2)), xo 45 (ql (tm 44)), xo 46 (qm (ci 0))])
  (.block 2 (.loop m_impl_Network_merged_l2)))
  (.seq (rg [xo 74 (.i (.ld false 4 (tm 9))), xn (.st false 4 (tm 4) (tm 74))])
  .ret))))))
def r_impl_Network_merged : List Res := [.cell 4 false 4]
theorem c_impl_Network_merged : compiled Tryd.prog Tryd.f66 = some (m_impl_Network_merged, r_impl_Network_merged) := by kernel_rfl
theorem hb_impl_Network_merged : hasBody Tryd.prog 66 = true := by kernel_rfl
def L_impl_Network_merged_l1 (a0_1 : List (Int × Int × Int)) (a1 : Int) (l5_m17 : Nat) (l5_m5 : List (Int × Int)) : Option (Ctl (Nat × (List (Int × Int))) (List (Int × Int))) :=
  cond (decide (((l5_m17 : Nat) : Int) < ((a0_1.length : Nat) : Int)))
  (Option.bind (a0_1[l5_m17]?) fun x11 =>
  Option.bind (L_impl_Branch_ordered x11.1 x11.2.1 x11.2.2) fun y13 =>
  og (i64R y13.1 ∧ i64R y13.2.1 ∧ i64R 0) <|
  Option.bind (L_impl_mod a1 (IntKind.i64.wrap ((mget l5_m5 (encK y13.1 y13.2.1 0)).getD 0 + x11.2.2))) fun y16 =>
  og ((i64R y13.1 ∧ i64R y13.2.1 ∧ i64R 0) ∧ l5_m5.length < 1073741824 ∧ i64R y16) <|
  og (l5_m17 + 1 < 4611686018427387904) <|
  some (Ctl.next (l5_m17 + 1, mput l5_m5 (encK y13.1 y13.2.1 0) y16)))
  (some (Ctl.out l5_m5))
def L_impl_Network_merged_l3 (a0_0 : Int) (l24_m46 : Nat) (l3_m5 : List (Int × Int)) (l32_m11 : Nat) (l32_m9_1 : List (Int × Int × Int)) : Option (Ctl (Nat × (List (Int × Int × Int))) (List (Int × Int × Int))) :=
  cond (decide (((l32_m11 : Nat) : Int) < a0_0))
  (Option.bind (og (i64R ((l24_m46 : Nat) : Int) ∧ i64R ((l32_m11 : Nat) : Int) ∧ i64R 0) <|
    cond (((mget l3_m5 (encK ((l24_m46 : Nat) : Int) ((l32_m11 : Nat) : Int) 0)).getD 0) != 0)
      (og (l32_m9_1.length + 1 ≤ 1073741824 ∧ (l32_m9_1.length + 1) * 24 ≤ 140737488355328) <|
      some (l32_m9_1 ++ ([(((l24_m46 : Nat) : Int), ((l32_m11 : Nat) : Int), (mget l3_m5 (encK ((l24_m46 : Nat) : Int) ((l32_m11 : Nat) : Int) 0)).getD 0)])))
      (some l32_m9_1)) fun l36_m9_1 =>
  og (l32_m11 + 1 < 4611686018427387904) <|
  some (Ctl.next (l32_m11 + 1, l36_m9_1)))
  (some (Ctl.out l32_m9_1))
def L_impl_Network_merged_l2 (a0_0 : Int) (l3_m5 : List (Int × Int)) (l24_m46 : Nat) (l24_m9_1 : List (Int × Int × Int)) : Option (Ctl (Nat × (List (Int × Int × Int))) (List (Int × Int × Int))) :=
  cond (decide (((l24_m46 : Nat) : Int) < a0_0))
  (Option.bind (og (l24_m46 + 1 < 4611686018427387904) <|
    loopM (fun s_ : Nat × (List (Int × Int × Int)) => L_impl_Network_merged_l3 a0_0 l24_m46 l3_m5 s_.1 s_.2) 4611686018427387904 (l24_m46 + 1, l24_m9_1)) fun l28_m9_1 =>
  og (l24_m46 + 1 < 4611686018427387904) <|
  some (Ctl.next (l24_m46 + 1, l28_m9_1)))
  (some (Ctl.out l24_m9_1))
def L_impl_Network_merged (a0_0 : Int) (a0_1 : List (Int × Int × Int)) (a0_2 : List Int) (a0_3 : List Int) (a1 : Int) : Option (Int × (List (Int × Int × Int)) × List Int × List Int) :=
  Option.bind (loopM (fun s_ : Nat × (List (Int × Int)) => L_impl_Network_merged_l1 a0_1 a1 s_.1 s_.2) 4611686018427387904 (0, [])) fun l3_m5 =>
Option.bind (L_impl_clone a0_2) fun y20 =>
Option.bind (L_impl_clone a0_3) fun y21 =>
Option.bind (loopM (fun s_ : Nat × (List (Int × Int × Int)) => L_impl_Network_merged_l2 a0_0 l3_m5 s_.1 s_.2) 4611686018427387904 (0, [])) fun l22_m9_1 =>
some (a0_0, l22_m9_1, y20, y21)
def rv_impl_Network_merged (r : Int × (List (Int × Int × Int)) × List Int × List Int) : RV := ⟨false, [(true, [.sc (.int .i64 r.1), .new 59 (.pair .int (.pair .int .int)) r.2.1, .new 3 .int r.2.2.1, .new 3 .int r.2.2.2])]⟩
theorem ok_impl_Network_merged {a0_0 : Int} {a0_1 : List (Int × Int × Int)} {a0_2 : List Int} {a0_3 : List Int} {a1 : Int} {r : Int × (List (Int × Int × Int)) × List Int × List Int} (h : L_impl_Network_merged a0_0 a0_1 a0_2 a0_3 a1 = some r) : CallOK Tryd.prog Tab 66 [(.agg [(ai a0_0), (.tree (.pair .int (.pair .int .int)) a0_1), (.tree .int a0_2), (.tree .int a0_3)]), (ai a1)] (rv_impl_Network_merged r) := by
  refine call_of_ (by kernel_rfl) Tryd.func66 c_impl_Network_merged (n := 75) (by kernel_rfl) (by simp) (tl := [(0, (.agg [(ai a0_0), (.tree (.pair .int (.pair .int .int)) a0_1), (.tree .int a0_2), (.tree .int a0_3)])), (1, (ai a1))]) rfl ?_
  unfold m_impl_Network_merged
  unfold L_impl_Network_merged at h
  refine seqR ?_
  refine seqR ?_
  refine awp_seqB h (fun (l3_m5 : List (Int × Int)) S_ => S_ = ⟨mkTm [(2, (.box (oi 0 1) 0)), (4, (.box (oi 1 1) 0)), (5, (.mp (oi 2 1)))], mkOb (someL [((oi 0 1), .cells 30 [(ai a0_0), (.tree (.pair .int (.pair .int .int)) a0_1), (.tree .int a0_2), (.tree .int a0_3)]), ((oi 1 1), .cells 30 [(ai 0), .nils, .nils, .nils]), ((oi 2 1), .map 93 .int l3_m5)]), 2⟩) ?_ ?_
  · intro v_ h
    refine seqR ?_
    refine awp_block_ ?_
    refine awp_loopL h (fun t_ S_ => ∃ (l5_m17 : Nat), ∃ (l5_m5 : List (Int × Int)), t_ = (l5_m17, l5_m5) ∧ S_ = ⟨mkTm [(1, (ai a1)), (2, (.box (oi 0 1) 0)), (4, (.box (oi 1 1) 0)), (5, (.mp (oi 2 1))), (15, (.tree (.pair .int (.pair .int .int)) a0_1)), (16, (ai ((a0_1.length : Nat) : Int))), (17, (ai ((l5_m17 : Nat) : Int)))], mkOb (someL [((oi 0 1), .cells 30 [(ai a0_0), (.tree (.pair .int (.pair .int .int)) a0_1), (.tree .int a0_2), (.tree .int a0_3)]), ((oi 1 1), .cells 30 [(ai 0), .nils, .nils, .nils]), ((oi 2 1), .map 93 .int l5_m5)]), 2⟩) ⟨_, (weak_ren [((oi 0 1), (oi 2 1)), ((oi 1 1), (oi 4 2)), ((oi 2 1), (oi 13 3))]), ⟨0, [], rfl, rfl⟩⟩ ?_
    rintro n_ _ _ c_ ⟨l5_m17, l5_m5, rfl, rfl⟩ h hn5
    (try dsimp only at h)
    unfold L_impl_Network_merged_l1 at h
    unfold m_impl_Network_merged_l1
    refine seqR ?_
    refine awp_seqv_ ?_
    rcases cond_some h with ⟨q8, h⟩ | ⟨q8, h⟩
    · have q8_ := of_decide_eq_true q8
      refine awp_condT_ q8 ?_
      refine awp_skip_ (tn_ ?_)
      refine ⟨_, Weak.refl _, ?_⟩
      refine awp_seqv_ ?_
      refine awp_block_ ?_
      refine awp_seqv_ ?_
      obtain ⟨x11, e11, h⟩ := ob_some h
      refine awp_region_ 7 ?_
      refine rs0 (.telt (.pair .int (.pair .int .int)) x11 0) (s_idxT (t := (.pair .int (.pair .int .int))) (xs := a0_1) (k := .i64) (m := ((l5_m17 : Nat) : Int)) (by kernel_rfl) (by kernel_rfl) rfl (nat_nn _) rfl e11) ?_
      refine rsB 3 ?_
      refine rnil (tn_ ?_)
      refine ⟨_, Weak.refl _, ?_⟩
      refine awp_seqv_ ?_
      obtain ⟨y13, h13, h⟩ := ob_some h
      refine awp_region_ 11 ?_
      refine rsl (.agg [(ai x11.1), (ai x11.2.1), (ai x11.2.2)]) (by kernel_rfl) ?_
      refine rcall (.agg [(ai y13.1), (ai y13.2.1), (ai y13.2.2)]) [] [(.agg [(ai x11.1), (ai x11.2.1), (ai x11.2.2)])] _ (caps := []) (args0 := [(.agg [(ai x11.1), (ai x11.2.1), (ai x11.2.2)])]) trivial (by kernel_rfl) (ok_impl_Branch_ordered h13) hb_impl_Branch_ordered ?_
      refine rsB 2 ?_
      refine rnil (tn_ ?_)
      refine ⟨_, Weak.refl _, ?_⟩
      refine seqR ?_
      obtain ⟨g15, h⟩ := og_some h
      obtain ⟨y16, h16, h⟩ := ob_some h
      obtain ⟨g17, h⟩ := og_some h
      refine awp_regionD_ 24 ?_
      refine ds0 (.mp (oi 2 1)) (by kernel_rfl) ?_
      refine dsl (.agg [(ai y13.1), (ai y13.2.1), (ai 0)]) (by kernel_rfl) ?_
      refine ds0 (ai a1) (by kernel_rfl) ?_
      refine ds0 (.mp (oi 2 1)) (by kernel_rfl) ?_
      refine dsl (.agg [(ai y13.1), (ai y13.2.1), (ai 0)]) (by kernel_rfl) ?_
      refine dsl (ai ((mget l5_m5 (encK y13.1 y13.2.1 0)).getD 0)) (s_lookO3 (t := .int) (es := l5_m5) (a := y13.1) (b := y13.2.1) (c := 0) (oi 2 1) (by kernel_rfl) (by kernel_rfl) (by kernel_rfl) g15) ?_
      refine ds0 (.box (oi 7 5) 2) (by kernel_rfl) ?_
      refine dsl (ai x11.2.2) (by kernel_rfl) ?_
      refine ds0 (ai (IntKind.i64.wrap ((mget l5_m5 (encK y13.1 y13.2.1 0)).getD 0 + x11.2.2))) (by kernel_rfl) ?_
      refine dcall (ai y16) [] [(ai a1), (ai (IntKind.i64.wrap ((mget l5_m5 (encK y13.1 y13.2.1 0)).getD 0 + x11.2.2)))] _ (caps := []) (args0 := [(ai a1), (ai (IntKind.i64.wrap ((mget l5_m5 (encK y13.1 y13.2.1 0)).getD 0 + x11.2.2)))]) trivial (by kernel_rfl) (ok_impl_mod h16) hb_impl_mod ?_
      refine dsn2 (oi 2 1) (oi 2 1) (.map 93 .int (mput l5_m5 (encK y13.1 y13.2.1 0) y16)) (s_updI3 (es := l5_m5) (a := y13.1) (b := y13.2.1) (c := 0) (nv := y16) (by kernel_rfl) (by kernel_rfl) (by kernel_rfl) (by kernel_rfl) g17) ?_
      refine dnil (badB_spec (by kernel_rfl)) (bn_ (tn_ ?_))
      refine ⟨_, Weak.refl _, ?_⟩
      obtain ⟨g18, h⟩ := og_some h
      refine awp_region_ 26 ?_
      refine rs0 (ai ((l5_m17 + 1 : Nat) : Int)) (s_add1 (j := l5_m17) (by kernel_rfl) (by kernel_rfl) g18) ?_
      refine rsB 1 ?_
      refine rnil (tn_ ?_)
      obtain rfl := Option.some.inj h
      exact ⟨(l5_m17 + 1, mput l5_m5 (encK y13.1 y13.2.1 0) y16), _, (weak_ren []), ⟨l5_m17 + 1, mput l5_m5 (encK y13.1 y13.2.1 0) y16, rfl, rfl⟩, hn5⟩
    have q8_ := of_decide_eq_false q8
    refine awp_condF_ q8 ?_
    refine awp_exit_ (te_ (te_ (be_ (tn_ ?_))))
    obtain rfl := Option.some.inj h
    have h := hn5
    (try dsimp only at h)
    obtain rfl := Option.some.inj h
    exact ⟨_, (weak_ren []), rfl⟩
  rintro l3_m5 _ rfl h
  (try dsimp only at h)
  refine awp_seqv_ ?_
  obtain ⟨y20, h20, h⟩ := ob_some h
  obtain ⟨y21, h21, h⟩ := ob_some h
  refine awp_regionD_ 13 ?_
  refine ds0 (.box (oi 0 1) 0) (by kernel_rfl) ?_
  refine dsl (ai a0_0) (by kernel_rfl) ?_
  refine ds0 (.box (oi 0 1) 2) (by kernel_rfl) ?_
  refine dsl (.tree .int a0_2) (by kernel_rfl) ?_
  refine dcall (.own (oi 624 6) .int 0 y20.length) [((oi 624 6), some (.arr 3 .int y20))] [(.tree .int a0_2)] _ (caps := []) (args0 := [(.tree .int a0_2)]) trivial (by kernel_rfl) (ok_impl_clone h20) hb_impl_clone ?_
  refine ds0 (.box (oi 0 1) 3) (by kernel_rfl) ?_
  refine dsl (.tree .int a0_3) (by kernel_rfl) ?_
  refine dcall (.own (oi 672 9) .int 0 y21.length) [((oi 672 9), some (.arr 3 .int y21))] [(.tree .int a0_3)] _ (caps := []) (args0 := [(.tree .int a0_3)]) trivial (by kernel_rfl) (ok_impl_clone h21) hb_impl_clone ?_
  refine ds0 (.agg [(ai a0_0), .nils, (.own (oi 624 6) .int 0 y20.length), (.own (oi 672 9) .int 0 y21.length)]) (by kernel_rfl) ?_
  refine ds1 (.box (oi 9 11) 0) (oi 9 11) (.cells 30 [(ai 0), .nils, .nils, .nils]) (by kernel_rfl) ?_
  refine dsn2 (oi 9 11) (oi 9 11) (.cells 30 [(ai a0_0), .nils, (.own (oi 624 6) .int 0 y20.length), (.own (oi 672 9) .int 0 y21.length)]) (by kernel_rfl) ?_
  refine dnil (badB_spec (by kernel_rfl)) (tn_ ?_)
  refine ⟨_, Weak.refl _, ?_⟩
  refine awp_seqB h (fun (l22_m9_1 : List (Int × Int × Int)) S_ => S_ = ⟨mkTm [(4, (.box (oi 0 1) 0)), (9, (.box (oi 1 1) 0))], mkOb (someL [((oi 0 1), .cells 30 [(ai 0), .nils, .nils, .nils]), ((oi 1 1), .cells 30 [(ai a0_0), (.own (oi 2 1) (.pair .int (.pair .int .int)) 0 l22_m9_1.length), (.own (oi 3 1) .int 0 y20.length), (.own (oi 4 1) .int 0 y21.length)]), ((oi 2 1), .arr 59 (.pair .int (.pair .int .int)) l22_m9_1), ((oi 3 1), .arr 3 .int y20), ((oi 4 1), .arr 3 .int y21)]), 2⟩) ?_ ?_
  · intro v_ h
    refine seqR ?_
    refine awp_block_ ?_
    refine awp_loopL h (fun t_ S_ => ∃ (l24_m46 : Nat), ∃ (l24_m9_1 : List (Int × Int × Int)), t_ = (l24_m46, l24_m9_1) ∧ S_ = ⟨mkTm [(2, (.box (oi 0 1) 0)), (4, (.box (oi 1 1) 0)), (5, (.mp (oi 2 1))), (9, (.box (oi 3 1) 0)), (45, (ai a0_0)), (46, (ai ((l24_m46 : Nat) : Int)))], mkOb (someL [((oi 0 1), .cells 30 [(ai a0_0), (.tree (.pair .int (.pair .int .int)) a0_1), (.tree .int a0_2), (.tree .int a0_3)]), ((oi 1 1), .cells 30 [(ai 0), .nils, .nils, .nils]), ((oi 2 1), .map 93 .int l3_m5), ((oi 3 1), .cells 30 [(ai a0_0), (.own (oi 4 1) (.pair .int (.pair .int .int)) 0 l24_m9_1.length), (.own (oi 5 1) .int 0 y20.length), (.own (oi 6 1) .int 0 y21.length)]), ((oi 4 1), .arr 59 (.pair .int (.pair .int .int)) l24_m9_1), ((oi 5 1), .arr 3 .int y20), ((oi 6 1), .arr 3 .int y21)]), 2⟩) ⟨_, ((weak_nil_cell_ 9000 (oi 9 11) 1 30 [(ai a0_0), .nils, (.own (oi 624 6) .int 0 y20.length), (.own (oi 672 9) .int 0 y21.length)] [(ai a0_0), (.own (oi 9000 16) (.pair .int (.pair .int .int)) 0 0), (.own (oi 624 6) .int 0 y20.length), (.own (oi 672 9) .int 0 y21.length)] 59 (.pair .int (.pair .int .int)) rfl (by kernel_rfl) (by kernel_rfl) (by kernel_rfl)).trans (weak_ren [((oi 3 1), (oi 9 11)), ((oi 4 1), (oi 9000 16)), ((oi 5 1), (oi 624 6)), ((oi 6 1), (oi 672 9))])), ⟨0, [], rfl, rfl⟩⟩ ?_
    rintro n_ _ _ c_ ⟨l24_m46, l24_m9_1, rfl, rfl⟩ h hn24
    (try dsimp only at h)
    unfold L_impl_Network_merged_l2 at h
    unfold m_impl_Network_merged_l2
    refine seqR ?_
    refine awp_seqv_ ?_
    rcases cond_some h with ⟨q27, h⟩ | ⟨q27, h⟩
    · have q27_ := of_decide_eq_true q27
      refine awp_condT_ q27 ?_
      refine awp_skip_ (tn_ ?_)
      refine ⟨_, Weak.refl _, ?_⟩
      refine awp_seqB h (fun (l28_m9_1 : List (Int × Int × Int)) S_ => S_ = ⟨mkTm [(2, (.box (oi 0 1) 0)), (4, (.box (oi 1 1) 0)), (5, (.mp (oi 2 1))), (9, (.box (oi 3 1) 0)), (45, (ai a0_0)), (46, (ai ((l24_m46 : Nat) : Int)))], mkOb (someL [((oi 0 1), .cells 30 [(ai a0_0), (.tree (.pair .int (.pair .int .int)) a0_1), (.tree .int a0_2), (.tree .int a0_3)]), ((oi 1 1), .cells 30 [(ai 0), .nils, .nils, .nils]), ((oi 2 1), .map 93 .int l3_m5), ((oi 3 1), .cells 30 [(ai a0_0), (.own (oi 4 1) (.pair .int (.pair .int .int)) 0 l28_m9_1.length), (.own (oi 5 1) .int 0 y20.length), (.own (oi 6 1) .int 0 y21.length)]), ((oi 4 1), .arr 59 (.pair .int (.pair .int .int)) l28_m9_1), ((oi 5 1), .arr 3 .int y20), ((oi 6 1), .arr 3 .int y21)]), 2⟩) ?_ ?_
      · intro v_ h
        refine awp_block_ ?_
        refine seqR ?_
        refine awp_seqv_ ?_
        obtain ⟨g31, h⟩ := og_some h
        refine awp_region_ 8 ?_
        refine rs0 (ai ((l24_m46 : Nat) : Int)) (by kernel_rfl) ?_
        refine rs0 (ai ((l24_m46 + 1 : Nat) : Int)) (s_add1 (j := l24_m46) (by kernel_rfl) (by kernel_rfl) g31) ?_
        refine rsB 1 ?_
        refine rnil (tn_ ?_)
        refine ⟨_, Weak.refl _, ?_⟩
        refine awp_block_ ?_
        refine awp_loopL h (fun t_ S_ => ∃ (l32_m11 : Nat), ∃ (l32_m9_1 : List (Int × Int × Int)), t_ = (l32_m11, l32_m9_1) ∧ S_ = ⟨mkTm [(2, (.box (oi 0 1) 0)), (4, (.box (oi 1 1) 0)), (5, (.mp (oi 2 1))), (9, (.box (oi 3 1) 0)), (10, (ai ((l24_m46 : Nat) : Int))), (11, (ai ((l32_m11 : Nat) : Int))), (45, (ai a0_0)), (46, (ai ((l24_m46 : Nat) : Int)))], mkOb (someL [((oi 0 1), .cells 30 [(ai a0_0), (.tree (.pair .int (.pair .int .int)) a0_1), (.tree .int a0_2), (.tree .int a0_3)]), ((oi 1 1), .cells 30 [(ai 0), .nils, .nils, .nils]), ((oi 2 1), .map 93 .int l3_m5), ((oi 3 1), .cells 30 [(ai a0_0), (.own (oi 4 1) (.pair .int (.pair .int .int)) 0 l32_m9_1.length), (.own (oi 5 1) .int 0 y20.length), (.own (oi 6 1) .int 0 y21.length)]), ((oi 4 1), .arr 59 (.pair .int (.pair .int .int)) l32_m9_1), ((oi 5 1), .arr 3 .int y20), ((oi 6 1), .arr 3 .int y21)]), 2⟩) ⟨_, (weak_ren []), ⟨l24_m46 + 1, l24_m9_1, rfl, rfl⟩⟩ ?_
        rintro n_ _ _ c_ ⟨l32_m11, l32_m9_1, rfl, rfl⟩ h hn32
        (try dsimp only at h)
        unfold L_impl_Network_merged_l3 at h
        unfold m_impl_Network_merged_l3
        refine awp_seqv_ ?_
        refine seqR ?_
        rcases cond_some h with ⟨q35, h⟩ | ⟨q35, h⟩
        · have q35_ := of_decide_eq_true q35
          refine awp_condT_ q35 ?_
          refine awp_skip_ (tn_ ?_)
          refine ⟨_, Weak.refl _, ?_⟩
          refine awp_seqB h (fun (l36_m9_1 : List (Int × Int × Int)) S_ => S_ = ⟨mkTm [(2, (.box (oi 0 1) 0)), (4, (.box (oi 1 1) 0)), (5, (.mp (oi 2 1))), (9, (.box (oi 3 1) 0)), (10, (ai ((l24_m46 : Nat) : Int))), (11, (ai ((l32_m11 : Nat) : Int))), (45, (ai a0_0)), (46, (ai ((l24_m46 : Nat) : Int)))], mkOb (someL [((oi 0 1), .cells 30 [(ai a0_0), (.tree (.pair .int (.pair .int .int)) a0_1), (.tree .int a0_2), (.tree .int a0_3)]), ((oi 1 1), .cells 30 [(ai 0), .nils, .nils, .nils]), ((oi 2 1), .map 93 .int l3_m5), ((oi 3 1), .cells 30 [(ai a0_0), (.own (oi 4 1) (.pair .int (.pair .int .int)) 0 l36_m9_1.length), (.own (oi 5 1) .int 0 y20.length), (.own (oi 6 1) .int 0 y21.length)]), ((oi 4 1), .arr 59 (.pair .int (.pair .int .int)) l36_m9_1), ((oi 5 1), .arr 3 .int y20), ((oi 6 1), .arr 3 .int y21)]), 2⟩) ?_ ?_
          · intro v_ h
            refine awp_block_ ?_
            refine awp_seqv_ ?_
            obtain ⟨g38, h⟩ := og_some h
            refine awp_region_ 12 ?_
            refine rs0 (.mp (oi 2 1)) (by kernel_rfl) ?_
            refine rs0 (ai ((l24_m46 : Nat) : Int)) (by kernel_rfl) ?_
            refine rs0 (ai ((l32_m11 : Nat) : Int)) (by kernel_rfl) ?_
            refine rs0 (.agg [(ai ((l24_m46 : Nat) : Int)), (ai ((l32_m11 : Nat) : Int)), (ai 0)]) (by kernel_rfl) ?_
            refine rsl (ai ((mget l3_m5 (encK ((l24_m46 : Nat) : Int) ((l32_m11 : Nat) : Int) 0)).getD 0)) (s_lookO3 (t := .int) (es := l3_m5) (a := ((l24_m46 : Nat) : Int)) (b := ((l32_m11 : Nat) : Int)) (c := 0) (oi 2 1) (by kernel_rfl) (by kernel_rfl) (by kernel_rfl) g38) ?_
            refine rsB 1 ?_
            refine rnil (tn_ ?_)
            refine ⟨_, Weak.refl _, ?_⟩
            refine seqR ?_
            rcases cond_some h with ⟨q40, h⟩ | ⟨q40, h⟩
            · refine awp_condT_ q40 ?_
              obtain ⟨g41, h⟩ := og_some h
              refine awp_region_ 24 ?_
              refine rs0 (.box (oi 3 1) 1) (by kernel_rfl) ?_
              refine rsl (.own (oi 4 1) (.pair .int (.pair .int .int)) 0 l32_m9_1.length) (by kernel_rfl) ?_
              refine rs0 (ai ((l24_m46 : Nat) : Int)) (by kernel_rfl) ?_
              refine rs0 (ai ((l32_m11 : Nat) : Int)) (by kernel_rfl) ?_
              refine rs0 (ai ((mget l3_m5 (encK ((l24_m46 : Nat) : Int) ((l32_m11 : Nat) : Int) 0)).getD 0)) (by kernel_rfl) ?_
              refine rs0 (.agg [(ai ((l24_m46 : Nat) : Int)), (ai ((l32_m11 : Nat) : Int)), (ai ((mget l3_m5 (encK ((l24_m46 : Nat) : Int) ((l32_m11 : Nat) : Int) 0)).getD 0))]) (by kernel_rfl) ?_
              refine rs1 (.own (oi 70 20) (.pair .int (.pair .int .int)) 0 1) (oi 70 20) (.arr 59 (.pair .int (.pair .int .int)) ([(((l24_m46 : Nat) : Int), ((l32_m11 : Nat) : Int), (mget l3_m5 (encK ((l24_m46 : Nat) : Int) ((l32_m11 : Nat) : Int) 0)).getD 0)])) (by kernel_rfl) ?_
              refine rs2 (.own (oi 4 21) (.pair .int (.pair .int .int)) 0 ((l32_m9_1 ++ ([(((l24_m46 : Nat) : Int), ((l32_m11 : Nat) : Int), (mget l3_m5 (encK ((l24_m46 : Nat) : Int) ((l32_m11 : Nat) : Int) 0)).getD 0)])).length)) (oi 4 1) (oi 4 21) (.arr 59 (.pair .int (.pair .int .int)) (l32_m9_1 ++ ([(((l24_m46 : Nat) : Int), ((l32_m11 : Nat) : Int), (mget l3_m5 (encK ((l24_m46 : Nat) : Int) ((l32_m11 : Nat) : Int) 0)).getD 0)]))) (s_appO (t := (.pair .int (.pair .int .int))) (t' := (.pair .int (.pair .int .int))) (xs := l32_m9_1) (ys := [(((l24_m46 : Nat) : Int), ((l32_m11 : Nat) : Int), (mget l3_m5 (encK ((l24_m46 : Nat) : Int) ((l32_m11 : Nat) : Int) 0)).getD 0)]) (zs := l32_m9_1 ++ ([(((l24_m46 : Nat) : Int), ((l32_m11 : Nat) : Int), (mget l3_m5 (encK ((l24_m46 : Nat) : Int) ((l32_m11 : Nat) : Int) 0)).getD 0)])) (j := (oi 4 1)) (len := l32_m9_1.length) (c := (.own (oi 70 20) (.pair .int (.pair .int .int)) 0 1)) (by kernel_rfl) (by kernel_rfl) rfl (by kernel_rfl) (sr_own (e := 59) (by kernel_rfl) rfl) rfl g41) ?_
              refine rsB 2 ?_
              refine rnil (bn_ (tn_ ?_))
              obtain rfl := Option.some.inj h
              exact ⟨_, (weak_ren [((oi 4 1), (oi 4 21))]), rfl⟩
            refine awp_condF_ q40 ?_
            refine awp_skip_ (bn_ (tn_ ?_))
            obtain rfl := Option.some.inj h
            exact ⟨_, (weak_ren []), rfl⟩
          rintro l36_m9_1 _ rfl h
          (try dsimp only at h)
          obtain ⟨g42, h⟩ := og_some h
          refine awp_region_ 5 ?_
          refine rs0 (ai ((l32_m11 : Nat) : Int)) (by kernel_rfl) ?_
          refine rs0 (ai ((l32_m11 + 1 : Nat) : Int)) (s_add1 (j := l32_m11) (by kernel_rfl) (by kernel_rfl) g42) ?_
          refine rsB 1 ?_
          refine rnil (tn_ ?_)
          obtain rfl := Option.some.inj h
          exact ⟨(l32_m11 + 1, l36_m9_1), _, (weak_ren []), ⟨l32_m11 + 1, l36_m9_1, rfl, rfl⟩, hn32⟩
        have q35_ := of_decide_eq_false q35
        refine awp_condF_ q35 ?_
        refine awp_exit_ (te_ (te_ (be_ (bn_ (tn_ ?_)))))
        obtain rfl := Option.some.inj h
        have h := hn32
        (try dsimp only at h)
        obtain rfl := Option.some.inj h
        exact ⟨_, (weak_ren []), rfl⟩
      rintro l28_m9_1 _ rfl h
      (try dsimp only at h)
      obtain ⟨g43, h⟩ := og_some h
      refine awp_region_ 4 ?_
      refine rs0 (ai ((l24_m46 + 1 : Nat) : Int)) (s_add1 (j := l24_m46) (by kernel_rfl) (by kernel_rfl) g43) ?_
      refine rsB 1 ?_
      refine rnil (tn_ ?_)
      obtain rfl := Option.some.inj h
      exact ⟨(l24_m46 + 1, l28_m9_1), _, (weak_ren []), ⟨l24_m46 + 1, l28_m9_1, rfl, rfl⟩, hn24⟩
    have q27_ := of_decide_eq_false q27
    refine awp_condF_ q27 ?_
    refine awp_exit_ (te_ (te_ (be_ (tn_ ?_))))
    obtain rfl := Option.some.inj h
    have h := hn24
    (try dsimp only at h)
    obtain rfl := Option.some.inj h
    exact ⟨_, (weak_ren [((oi 0 1), (oi 1 1)), ((oi 1 1), (oi 3 1)), ((oi 2 1), (oi 4 1)), ((oi 3 1), (oi 5 1)), ((oi 4 1), (oi 6 1))]), rfl⟩
  rintro l22_m9_1 _ rfl h
  (try dsimp only at h)
  refine seqR ?_
  refine awp_ret_ ?_
  obtain rfl := Option.some.inj h
  exact ret_ [(.agg [(ai a0_0), (.own (oi 2 1) (.pair .int (.pair .int .int)) 0 l22_m9_1.length), (.own (oi 3 1) .int 0 y20.length), (.own (oi 4 1) .int 0 y21.length)])] (p_agg (l_cons (l_sc (by kernel_rfl)) (l_cons (l_own (by kernel_rfl) rfl) (l_cons (l_own (by kernel_rfl) rfl) (l_cons (l_own (by kernel_rfl) rfl) l_nil)))) p_nil)
def m_impl_MergeBranches : AC :=
  (.seq (rg [xo 3 (.i (.box 30 (tm 1))), xo 4 (.i (.alloc 30 [(.int .i64 0), .nils, .nils, .nils])), xo 5 (qm (cb false))])
  (.seq (.seq (rg [xo 6 (qm (tm 0)), xo 7 (.i (.ld false 4 (tm 3))), ⟨(some 8), none, (qc 44 [(tm 6), (tm 7)] [[], [none, (some (.pair .int (.pair .int .int))), (some .int), (some .int)]])⟩, xo 9 (.i (.not (tm 8)))])
  (.cond (tm 9)
    (.seq (rg [xo 10 (.build [(.int .i64 0), .nils, .nils, .nils] []), xn (.st false 4 (tm 4) (tm 10)), xo 5 (qm (cb false))])
    .ret)
    .skip))
  (.seq (rg [xo 11 (.i (.ld false 4 (tm 3))), xo 12 (qm (tm 0)), ⟨(some 13), none, (qc 66 [(tm 11), (tm 12)] [[none, (some (.pair .int (.pair .int .int))), (some .int), (some .int)], []])⟩, xn (.st false 4 (tm 4) (tm 13)), xo 5 (qm (cb true))])
  .ret)))
def r_impl_MergeBranches : List Res := [.cell 4 false 4, .tmp 5]
theorem c_impl_MergeBranches : compiled Tryd.prog Tryd.f31 = some (m_impl_MergeBranches, r_impl_MergeBranches) := by kernel_rfl
theorem hb_impl_MergeBranches : hasBody Tryd.prog 31 = true := by kernel_rfl
def L_impl_MergeBranches (a0 : Int) (a1_0 : Int) (a1_1 : List (Int × Int × Int)) (a1_2 : List Int) (a1_3 : List Int) : Option (Int × (List (Int × Int × Int)) × List Int × List Int × Bool) :=
  Option.bind (L_impl_isNetwork a0 a1_0 a1_1 a1_2 a1_3) fun y4 =>
cond (!y4)
  (some (0, [], [], [], false))
  (Option.bind (L_impl_Network_merged a1_0 a1_1 a1_2 a1_3 a0) fun y8 =>
  some (y8.1, y8.2.1, y8.2.2.1, y8.2.2.2, true))
def rv_impl_MergeBranches (r : Int × (List (Int × Int × Int)) × List Int × List Int × Bool) : RV := ⟨true, [(true, [.sc (.int .i64 r.1), .new 59 (.pair .int (.pair .int .int)) r.2.1, .new 3 .int r.2.2.1, .new 3 .int r.2.2.2.1]), (false, [.sc (.bool r.2.2.2.2)])]⟩
theorem ok_impl_MergeBranches {a0 : Int} {a1_0 : Int} {a1_1 : List (Int × Int × Int)} {a1_2 : List Int} {a1_3 : List Int} {r : Int × (List (Int × Int × Int)) × List Int × List Int × Bool} (h : L_impl_MergeBranches a0 a1_0 a1_1 a1_2 a1_3 = some r) : CallOK Tryd.prog Tab 31 [(ai a0), (.agg [(ai a1_0), (.tree (.pair .int (.pair .int .int)) a1_1), (.tree .int a1_2), (.tree .int a1_3)])] (rv_impl_MergeBranches r) := by
  refine call_of_ (by kernel_rfl) Tryd.func31 c_impl_MergeBranches (n := 14) (by kernel_rfl) (by simp) (tl := [(0, (ai a0)), (1, (.agg [(ai a1_0), (.tree (.pair .int (.pair .int .int)) a1_1), (.tree .int a1_2), (.tree .int a1_3)]))]) rfl ?_
  unfold m_impl_MergeBranches
  unfold L_impl_MergeBranches at h
  refine seqR ?_
  refine awp_seqv_ ?_
  refine awp_seqv_ ?_
  obtain ⟨y4, h4, h⟩ := ob_some h
  refine awp_region_ 8 ?_
  refine rs0 (ai a0) (by kernel_rfl) ?_
  refine rsl (.agg [(ai a1_0), (.tree (.pair .int (.pair .int .int)) a1_1), (.tree .int a1_2), (.tree .int a1_3)]) (by kernel_rfl) ?_
  refine rcall (.bool y4) [] [(ai a0), (.agg [(ai a1_0), (.tree (.pair .int (.pair .int .int)) a1_1), (.tree .int a1_2), (.tree .int a1_3)])] _ (caps := []) (args0 := [(ai a0), (.agg [(ai a1_0), (.tree (.pair .int (.pair .int .int)) a1_1), (.tree .int a1_2), (.tree .int a1_3)])]) trivial (by kernel_rfl) (ok_impl_isNetwork h4) hb_impl_isNetwork ?_
  refine rsB 1 ?_
  refine rnil (tn_ ?_)
  refine ⟨_, Weak.refl _, ?_⟩
  rcases cond_some h with ⟨q5, h⟩ | ⟨q5, h⟩
  · refine awp_condT_ q5 ?_
    refine seqR ?_
    refine awp_ret_ (tr_ ?_)
    obtain rfl := Option.some.inj h
    exact ret_ [(.agg [(ai 0), .nils, .nils, .nils]), (.bool false)] (p_agg (l_cons (l_sc (by kernel_rfl)) (l_cons (l_nils rfl) (l_cons (l_nils rfl) (l_cons (l_nils rfl) l_nil)))) (p_one rfl (l_sc (by kernel_rfl)) p_nil))
  refine awp_condF_ q5 ?_
  refine awp_skip_ (tn_ ?_)
  refine ⟨_, Weak.refl _, ?_⟩
  refine awp_seqv_ ?_
  obtain ⟨y8, h8, h⟩ := ob_some h
  refine awp_region_ 13 ?_
  refine rsl (.agg [(ai a1_0), (.tree (.pair .int (.pair .int .int)) a1_1), (.tree .int a1_2), (.tree .int a1_3)]) (by kernel_rfl) ?_
  refine rs0 (ai a0) (by kernel_rfl) ?_
  refine rcall (.agg [(ai y8.1), (.own (oi 208 10) (.pair .int (.pair .int .int)) 0 y8.2.1.length), (.own (oi 209 10) .int 0 y8.2.2.1.length), (.own (oi 210 10) .int 0 y8.2.2.2.length)]) [((oi 208 10), some (.arr 59 (.pair .int (.pair .int .int)) y8.2.1)), ((oi 209 10), some (.arr 3 .int y8.2.2.1)), ((oi 210 10), some (.arr 3 .int y8.2.2.2))] [(.agg [(ai a1_0), (.tree (.pair .int (.pair .int .int)) a1_1), (.tree .int a1_2), (.tree .int a1_3)]), (ai a0)] _ (caps := []) (args0 := [(.agg [(ai a1_0), (.tree (.pair .int (.pair .int .int)) a1_1), (.tree .int a1_2), (.tree .int a1_3)]), (ai a0)]) trivial (by kernel_rfl) (ok_impl_Network_merged h8) hb_impl_Network_merged ?_
  refine rsB 2 ?_
  refine rnil (tn_ ?_)
  refine ⟨_, Weak.refl _, ?_⟩
  refine awp_ret_ ?_
  obtain rfl := Option.some.inj h
  exact ret_ [(.agg [(ai y8.1), (.own (oi 208 10) (.pair .int (.pair .int .int)) 0 y8.2.1.length), (.own (oi 209 10) .int 0 y8.2.2.1.length), (.own (oi 210 10) .int 0 y8.2.2.2.length)]), (.bool true)] (p_agg (l_cons (l_sc (by kernel_rfl)) (l_cons (l_own (by kernel_rfl) rfl) (l_cons (l_own (by kernel_rfl) rfl) (l_cons (l_own (by kernel_rfl) rfl) l_nil)))) (p_one rfl (l_sc (by kernel_rfl)) p_nil))
def m_laws_FnExactMergeBranches : AC :=
  (.seq (rg [xo 3 (.i (.box 25 (tm 1))), xo 4 (qm (cb false))])
  (.seq (rg [xo 5 (qm (ci 1048576))])
  (.seq (rg [xo 16 (.i (.ld false 4 (tm 3))), xo 17 (qm (tm 5)), ⟨(some 18), none, (qc 12 [(tm 16), (tm 17)] [[none, (some (.pair .int (.pair .int .int))), (some .int), (some .int)], []])⟩, xo 5 (qm (tm 18))])
  (.seq (.seq (rg [xo 19 (qm (tm 5)), xo 20 (qb .lss (tm 19) (ci 0))])
  (.cond (tm 20)
    (.seq (rg [xo 4 (qm (cb true))])
    .ret)
    .skip))
  (.seq (rg [xo 22 (qm (tm 0)), xo 23 (.i (.ld false 4 (tm 3))), ⟨(some 24), none, (qc 14 [(tm 23)] [[none, (some (.pair .int (.pair .int .int))), (some .int), (some .int)]])⟩, ⟨(some 25), none, (qc 30 [(tm 22), (tm 24)] [[], [none, (some (.pair .int (.pair .int .int))), (some .int), (some .int)]])⟩, xo 21 (qm (tm 25)), xo 26 (.i (.extr 0 (tm 21))), xo 27 (.i (.extr 1 (tm 21))), xo 6 (.i (.alloc 30 [(.int .i64 0), .nils, .nils, .nils])), xn (.st false 4 (tm 6) (tm 26)), xo 7 (qm (tm 27))])
  (.seq (rg [xo 28 (.i (.ld false 4 (tm 3))), ⟨(some 29), none, (qc 14 [(tm 28)] [[none, (some (.pair .int (.pair .int .int))), (some .int), (some .int)]])⟩, xo 8 (.i (.alloc 30 [(.int .i64 0), .nils, .nils, .nils])), xn (.st false 4 (tm 8) (tm 29))])
  (.seq (rg [xo 31 (qm (tm 0)), xo 32 (.i (.ld false 4 (tm 8))), ⟨(some 33), none, (qc 31 [(tm 31), (tm 32)] [[], [none, (some (.pair .int (.pair .int .int))), (some .int), (some .int)]])⟩, xo 30 (qm (tm 33)), xo 34 (.i (.extr 0 (tm 30))), xo 35 (.i (.extr 1 (tm 30))), xo 9 (.i (.alloc 30 [(.int .i64 0), .nils, .nils, .nils])), xn (.st false 4 (tm 9) (tm 34)), xo 10 (qm (tm 35))])
  (.seq (.seq (rg [xo 36 (.i (.ld false 4 (tm 9))), xo 37 (.i (.ld false 4 (tm 6))), ⟨(some 38), none, (qc 16 [(tm 36), (tm 37)] [[none, (some (.pair .int (.pair .int .int))), (some .int), (some .int)], [none, (some (.pair .int (.pair .int .int))), (some .int), (some .int)]])⟩, xo 39 (.i (.not (tm 38))), xo 40 (qm (tm 39)), ⟨(some 41), (some (40, false)), (qm (tm 10))⟩, ⟨(some 42), (some (40, false)), (qm (tm 7))⟩, ⟨(some 43), (some (40, false)), (.i (.cmp true 0 (tm 41) (tm 42)))⟩, xo 44 (.i (.pick (tm 40) (cb true) (tm 43)))])
  (.cond (tm 44)
    (.seq (rg [xo 4 (qm (cb false))])
    .ret)
    .skip))
  (.seq (.seq (.region [xo 45 (.i (.ld false 4 (tm 8))), xo 46 (.i (.ld false 4 (tm 3))), ⟨(some 47), none, (qc 14 [(tm 46)] [[none, (some (.pair .int (.pair .int .int))), (some .int), (some .int)]])⟩, ⟨(some 48), none, (qc 16 [(tm 45), (tm 47)] [[none, (some (.pair .int (.pair .int .int))), (some .int), (some .int)], [none, (some (.pair .int (.pair .int .int))), (some .int), (some .int)]])⟩, xo 49 (.i (.not (tm 48)))] true [(0, 2)])
  (.cond (tm 49)
    (.seq (rg [xo 4 (qm (cb false))])
    .ret)
    .skip))
  (.seq (rg [xo 11 (qm (ci 1))])
  (.seq (rg [xo 50 (.i (.ld false 4 (tm 8))), xo 51 (qm (tm 11)), ⟨(some 52), none, (qc 23 [(tm 50), (tm 51)] [[none, (some (.pair .int (.pair .int .int))), (some .int), (some .int)], []])⟩, xo 11 (qm (tm 52))])
  (.seq (.seq (rg [xo 53 (qm (tm 11)), xo 54 (qb .lss (tm 53) (ci 0)), xo 55 (qm (tm 54)), ⟨(some 56), (some (55, false)), (.i (.ld false 4 (tm 9)))⟩, ⟨(some 57), (some (55, false)), (.i (.ld false 4 (tm 6)))⟩, ⟨(some 58), (some (55, false)), (qc 16 [(tm 56), (tm 57)] [[none, (some (.pair .int (.pair .int .int))), (some .int), (some .int)], [none, (some (.pair .int (.pair .int .int))), (some .int), (some .int)]])⟩, ⟨(some 59), (some (55, false)), (.i (.not (tm 58)))⟩, xo 60 (.i (.pick (tm 55) (cb true) (tm 59))), xo 61 (qm (tm 60)), ⟨(some 62), (some (61, false)), (qm (tm 10))⟩, ⟨(some 63), (some (61, false)), (qm (tm 7))⟩, ⟨(some 64), (some (61, false)), (.i (.cmp true 0 (tm 62) (tm 63)))⟩, xo 65 (.i (.pick (tm 61) (cb true) (tm 64)))])
  (.cond (tm 65)
    (.seq (rg [xo 4 (qm (cb false))])
    .ret)
    .skip))
  (.seq (rg [xo 12 (qm (ci 1))])
  (.seq (rg [xo 66 (.i (.ld false 4 (tm 9))), xo 67 (qm (tm 12)), ⟨(some 68), none, (qc 23 [(tm 66), (tm 67)] [[none, (some (.pair .int (.pair .int .int))), (some .int), (some .int)], []])⟩, xo 12 (qm (tm 68))])
  (.seq (rg [xo 13 (qm (ci 1))])
  (.seq (rg [xo 69 (.i (.ld false 4 (tm 9))), xo 70 (qm (tm 13)), ⟨(some 71), none, (qc 24 [(tm 69), (tm 70)] [[none, (some (.pair .int (.pair .int .int))), (some .int), (some .int)], []])⟩, xo 13 (qm (tm 71))])
  (.seq (.seq (rg [xo 72 (qm (tm 13)), xo 73 (qb .lss (tm 72) (ci 0))])
  (.cond (tm 73)
    (.seq (rg [xo 4 (qm (cb false))])
    .ret)
    .skip))
  (.seq (.seq (rg [xo 74 (qm (tm 13)), xo 75 (qm (tm 12)), xo 76 (qb .neq (tm 74) (tm 75))])
  (.cond (tm 76)
    (.seq (rg [xo 4 (qm (cb false))])
    .ret)
    .skip))
  (.seq (rg [xo 78 (qm (tm 0)), xo 79 (.i (.ld false 4 (tm 3))), ⟨(some 80), none, (qc 14 [(tm 79)] [[none, (some (.pair .int (.pair .int .int))), (some .int), (some .int)]])⟩, ⟨(some 81), none, (qc 31 [(tm 78), (tm 80)] [[], [none, (some (.pair .int (.pair .int .int))), (some .int), (some .int)]])⟩, xo 77 (qm (tm 81)), xo 82 (.i (.extr 0 (tm 77))), xo 83 (.i (.extr 1 (tm 77))), xo 14 (.i (.alloc 30 [(.int .i64 0), .nils, .nils, .nils])), xn (.st false 4 (tm 14) (tm 82)), xo 15 (qm (tm 83))])
  (.seq (.seq (rg [xo 84 (.i (.ld false 4 (tm 14))), xo 85 (.i (.ld false 4 (tm 6))), ⟨(some 86), none, (qc 16 [(tm 84), (tm 85)] [[none, (some (.pair .int (.pair .int .int))), (some .int), (some .int)], [none, (some (.pair .int (.pair .int .int))), (some .int), (some .int)]])⟩, xo 87 (.i (.not (tm 86))), xo 88 (qm (tm 87)), ⟨(some 89), (some (88, false)), (qm (tm 15))⟩, ⟨(some 90), (some (88, false)), (qm (tm 7))⟩, ⟨(some 91), (some (88, false)), (.i (.cmp true 0 (tm 89) (tm 90)))⟩, xo 92 (.i (.pick (tm 88) (cb true) (tm 91)))])
  (.cond (tm 92)
    (.seq (rg [xo 4 (qm (cb false))])
    .ret)
    .skip))
  (.seq (rg [xo 13 (qm (ci 1))])
  (.seq (rg [xo 93 (.i (.ld false 4 (tm 9))), xo 94 (qm (tm 13)), ⟨(some 95), none, (qc 24 [(tm 93), (tm 94)] [[none, (some (.pair .int (.pair .int .int))), (some .int), (some .int)], []])⟩, xo 13 (qm (tm 95))])
  (.seq (.seq (rg [xo 96 (qm (tm 13)), xo 97 (qb .lss (tm 96) (ci 0))])
  (.cond (tm 97)
    (.seq (rg [xo 4 (qm (cb false))])
    .ret)
    .skip))
  (.seq (.seq (rg [xo 98 (qm (tm 13)), xo 99 (qm (tm 12)), xo 100 (qb .neq (tm 98) (tm 99))])
  (.cond (tm 100)
    (.seq (rg [xo 4 (qm (cb false))])
    .ret)
    .skip))
  (.seq (rg [xo 4 (qm (cb true))])
  .ret)))))))))))))))))))))))))
def r_laws_FnExactMergeBranches : List Res := [.tmp 4]
theorem c_laws_FnExactMergeBranches : compiled Tryd.prog Tryd.f7 = some (m_laws_FnExactMergeBranches, r_laws_FnExactMergeBranches) := by kernel_rfl
theorem hb_laws_FnExactMergeBranches : hasBody Tryd.prog 7 = true := by kernel_rfl
def L_laws_FnExactMergeBranches (a0 : Int) (a1_0 : Int) (a1_1 : List (Int × Int × Int)) (a1_2 : List Int) (a1_3 : List Int) : Option Bool :=
  Option.bind (L_laws_szNetwork a1_0 a1_1 a1_2 a1_3 1048576) fun y4 =>
cond (decide (y4 < 0))
  (some true)
  (Option.bind (L_laws_toNetwork a1_0 a1_1 a1_2 a1_3) fun y10 =>
  Option.bind (L_spec_MergeBranches a0 y10.1 y10.2.1 y10.2.2.1 y10.2.2.2) fun y11 =>
  Option.bind (L_laws_toNetwork a1_0 a1_1 a1_2 a1_3) fun y13 =>
  Option.bind (L_impl_MergeBranches a0 y13.1 y13.2.1 y13.2.2.1 y13.2.2.2) fun y15 =>
  Option.bind (Option.bind (L_laws_eqNetwork y15.1 y15.2.1 y15.2.2.1 y15.2.2.2.1 y11.1 y11.2.1 y11.2.2.1 y11.2.2.2.1) fun y18 =>
    cond (!y18)
      (some true)
      (some (y15.2.2.2.2 != y11.2.2.2.2))) fun l17_m44 =>
  cond l17_m44
    (some false)
    (Option.bind (L_laws_toNetwork a1_0 a1_1 a1_2 a1_3) fun y24 =>
    Option.bind (L_laws_eqNetwork y13.1 y13.2.1 y13.2.2.1 y13.2.2.2 y24.1 y24.2.1 y24.2.2.1 y24.2.2.2) fun y25 =>
    cond (!y25)
      (some false)
      (Option.bind (L_laws_markNetwork y13.1 y13.2.1 y13.2.2.1 y13.2.2.2 1) fun y30 =>
      og (y30.1.length = y13.2.1.length) <|
      og (y30.2.1.length = y13.2.2.1.length) <|
      og (y30.2.2.1.length = y13.2.2.2.length) <|
      Option.bind (cond (decide (y30.2.2.2 < 0))
          (some true)
          (Option.bind (L_laws_eqNetwork y15.1 y15.2.1 y15.2.2.1 y15.2.2.2.1 y11.1 y11.2.1 y11.2.2.1 y11.2.2.2.1) fun y37 =>
          cond (!y37)
            (some true)
            (some (y15.2.2.2.2 != y11.2.2.2.2)))) fun l35_m65 =>
      cond l35_m65
        (some false)
        (Option.bind (L_laws_markNetwork y15.1 y15.2.1 y15.2.2.1 y15.2.2.2.1 1) fun y43 =>
        og (y43.1.length = y15.2.1.length) <|
        og (y43.2.1.length = y15.2.2.1.length) <|
        og (y43.2.2.1.length = y15.2.2.2.1.length) <|
        Option.bind (L_laws_heldNetwork y15.1 y43.1 y43.2.1 y43.2.2.1 1) fun y49 =>
        cond (decide (y49 < 0))
          (some false)
          (cond (y49 != y43.2.2.2)
            (some false)
            (Option.bind (L_laws_toNetwork a1_0 a1_1 a1_2 a1_3) fun y59 =>
            Option.bind (L_impl_MergeBranches a0 y59.1 y59.2.1 y59.2.2.1 y59.2.2.2) fun y60 =>
            Option.bind (Option.bind (L_laws_eqNetwork y60.1 y60.2.1 y60.2.2.1 y60.2.2.2.1 y11.1 y11.2.1 y11.2.2.1 y11.2.2.2.1) fun y63 =>
              cond (!y63)
                (some true)
                (some (y60.2.2.2.2 != y11.2.2.2.2))) fun l62_m92 =>
            cond l62_m92
              (some false)
              (Option.bind (L_laws_heldNetwork y15.1 y43.1 y43.2.1 y43.2.2.1 1) fun y69 =>
              cond (decide (y69 < 0))
                (some false)
                (cond (y69 != y43.2.2.2)
                  (some false)
                  (some true)))))))))
def rv_laws_FnExactMergeBranches (r : Bool) : RV := ⟨false, [(false, [.sc (.bool r)])]⟩
theorem ok_laws_FnExactMergeBranches {a0 : Int} {a1_0 : Int} {a1_1 : List (Int × Int × Int)} {a1_2 : List Int} {a1_3 : List Int} {r : Bool} (h : L_laws_FnExactMergeBranches a0 a1_0 a1_1 a1_2 a1_3 = some r) : CallOK Tryd.prog Tab 7 [(ai a0), (.agg [(ai a1_0), (.tree (.pair .int (.pair .int .int)) a1_1), (.tree .int a1_2), (.tree .int a1_3)])] (rv_laws_FnExactMergeBranches r) := by
  refine call_of_ (by kernel_rfl) Tryd.func7 c_laws_FnExactMergeBranches (n := 101) (by kernel_rfl) (by simp) (tl := [(0, (ai a0)), (1, (.agg [(ai a1_0), (.tree (.pair .int (.pair .int .int)) a1_1), (.tree .int a1_2), (.tree .int a1_3)]))]) rfl ?_
  unfold m_laws_FnExactMergeBranches
  unfold L_laws_FnExactMergeBranches at h
  refine seqR ?_
  refine seqR ?_
  refine awp_seqv_ ?_
  obtain ⟨y4, h4, h⟩ := ob_some h
  refine awp_region_ 8 ?_
  refine rsl (.agg [(ai a1_0), (.tree (.pair .int (.pair .int .int)) a1_1), (.tree .int a1_2), (.tree .int a1_3)]) (by kernel_rfl) ?_
  refine rs0 (ai 1048576) (by kernel_rfl) ?_
  refine rcall (ai y4) [] [(.agg [(ai a1_0), (.tree (.pair .int (.pair .int .int)) a1_1), (.tree .int a1_2), (.tree .int a1_3)]), (ai 1048576)] _ (caps := []) (args0 := [(.agg [(ai a1_0), (.tree (.pair .int (.pair .int .int)) a1_1), (.tree .int a1_2), (.tree .int a1_3)]), (ai 1048576)]) trivial (by kernel_rfl) (ok_laws_szNetwork h4) hb_laws_szNetwork ?_
  refine rsB 1 ?_
  refine rnil (tn_ ?_)
  refine ⟨_, Weak.refl _, ?_⟩
  refine awp_seqv_ ?_
  refine seqR ?_
  rcases cond_some h with ⟨q7, h⟩ | ⟨q7, h⟩
  · have q7_ := of_decide_eq_true q7
    refine awp_condT_ q7 ?_
    refine seqR ?_
    refine awp_ret_ (tr_ ?_)
    obtain rfl := Option.some.inj h
    exact ret_ [(.bool true)] (p_one rfl (l_sc (by kernel_rfl)) p_nil)
  have q7_ := of_decide_eq_false q7
  refine awp_condF_ q7 ?_
  refine awp_skip_ (tn_ ?_)
  refine ⟨_, Weak.refl _, ?_⟩
  refine awp_seqv_ ?_
  obtain ⟨y10, h10, h⟩ := ob_some h
  obtain ⟨y11, h11, h⟩ := ob_some h
  refine awp_region_ 20 ?_
  refine rs0 (ai a0) (by kernel_rfl) ?_
  refine rsl (.agg [(ai a1_0), (.tree (.pair .int (.pair .int .int)) a1_1), (.tree .int a1_2), (.tree .int a1_3)]) (by kernel_rfl) ?_
  refine rcall (.agg [(ai y10.1), (.own (oi 384 12) (.pair .int (.pair .int .int)) 0 y10.2.1.length), (.own (oi 385 12) .int 0 y10.2.2.1.length), (.own (oi 386 12) .int 0 y10.2.2.2.length)]) [((oi 384 12), some (.arr 59 (.pair .int (.pair .int .int)) y10.2.1)), ((oi 385 12), some (.arr 3 .int y10.2.2.1)), ((oi 386 12), some (.arr 3 .int y10.2.2.2))] [(.agg [(ai a1_0), (.tree (.pair .int (.pair .int .int)) a1_1), (.tree .int a1_2), (.tree .int a1_3)])] _ (caps := []) (args0 := [(.agg [(ai a1_0), (.tree (.pair .int (.pair .int .int)) a1_1), (.tree .int a1_2), (.tree .int a1_3)])]) trivial (by kernel_rfl) (ok_laws_toNetwork h10) hb_laws_toNetwork ?_
  refine rcall (.tup [(.agg [(ai y11.1), (.own (oi 400 13) (.pair .int (.pair .int .int)) 0 y11.2.1.length), (.own (oi 401 13) .int 0 y11.2.2.1.length), (.own (oi 402 13) .int 0 y11.2.2.2.1.length)]), (.bool y11.2.2.2.2)]) [((oi 400 13), some (.arr 59 (.pair .int (.pair .int .int)) y11.2.1)), ((oi 401 13), some (.arr 3 .int y11.2.2.1)), ((oi 402 13), some (.arr 3 .int y11.2.2.2.1))] [(ai a0), (.agg [(ai y10.1), (.own (oi 384 12) (.pair .int (.pair .int .int)) 0 y10.2.1.length), (.own (oi 385 12) .int 0 y10.2.2.1.length), (.own (oi 386 12) .int 0 y10.2.2.2.length)])] _ (caps := []) (args0 := [(ai a0), (.agg [(ai y10.1), (.tree (.pair .int (.pair .int .int)) y10.2.1), (.tree .int y10.2.2.1), (.tree .int y10.2.2.2)])]) trivial (gm_cons (by kernel_rfl) (gm_cons (gd_agg (gm_cons (by kernel_rfl) (gm_cons (gd_own (e := 59) (by kernel_rfl) rfl) (gm_cons (gd_own (e := 3) (by kernel_rfl) rfl) (gm_cons (gd_own (e := 3) (by kernel_rfl) rfl) gm_nil))))) gm_nil)) (ok_spec_MergeBranches h11) hb_spec_MergeBranches ?_
  refine rsB 6 ?_
  refine rnil (tn_ ?_)
  refine ⟨_, Weak.refl _, ?_⟩
  refine awp_seqv_ ?_
  obtain ⟨y13, h13, h⟩ := ob_some h
  refine awp_region_ 24 ?_
  refine rsl (.agg [(ai a1_0), (.tree (.pair .int (.pair .int .int)) a1_1), (.tree .int a1_2), (.tree .int a1_3)]) (by kernel_rfl) ?_
  refine rcall (.agg [(ai y13.1), (.own (oi 464 21) (.pair .int (.pair .int .int)) 0 y13.2.1.length), (.own (oi 465 21) .int 0 y13.2.2.1.length), (.own (oi 466 21) .int 0 y13.2.2.2.length)]) [((oi 464 21), some (.arr 59 (.pair .int (.pair .int .int)) y13.2.1)), ((oi 465 21), some (.arr 3 .int y13.2.2.1)), ((oi 466 21), some (.arr 3 .int y13.2.2.2))] [(.agg [(ai a1_0), (.tree (.pair .int (.pair .int .int)) a1_1), (.tree .int a1_2), (.tree .int a1_3)])] _ (caps := []) (args0 := [(.agg [(ai a1_0), (.tree (.pair .int (.pair .int .int)) a1_1), (.tree .int a1_2), (.tree .int a1_3)])]) trivial (by kernel_rfl) (ok_laws_toNetwork h13) hb_laws_toNetwork ?_
  refine rsB 2 ?_
  refine rnil (tn_ ?_)
  refine ⟨_, Weak.refl _, ?_⟩
  refine awp_seqv_ ?_
  obtain ⟨y15, h15, h⟩ := ob_some h
  refine awp_region_ 33 ?_
  refine rs0 (ai a0) (by kernel_rfl) ?_
  refine rsl (.agg [(ai y13.1), (.own (oi 464 21) (.pair .int (.pair .int .int)) 0 y13.2.1.length), (.own (oi 465 21) .int 0 y13.2.2.1.length), (.own (oi 466 21) .int 0 y13.2.2.2.length)]) (by kernel_rfl) ?_
  refine rcall (.tup [(.agg [(ai y15.1), (.own (oi 528 26) (.pair .int (.pair .int .int)) 0 y15.2.1.length), (.own (oi 529 26) .int 0 y15.2.2.1.length), (.own (oi 530 26) .int 0 y15.2.2.2.1.length)]), (.bool y15.2.2.2.2)]) [((oi 528 26), some (.arr 59 (.pair .int (.pair .int .int)) y15.2.1)), ((oi 529 26), some (.arr 3 .int y15.2.2.1)), ((oi 530 26), some (.arr 3 .int y15.2.2.2.1))] [(ai a0), (.agg [(ai y13.1), (.own (oi 464 21) (.pair .int (.pair .int .int)) 0 y13.2.1.length), (.own (oi 465 21) .int 0 y13.2.2.1.length), (.own (oi 466 21) .int 0 y13.2.2.2.length)])] _ (caps := []) (args0 := [(ai a0), (.agg [(ai y13.1), (.tree (.pair .int (.pair .int .int)) y13.2.1), (.tree .int y13.2.2.1), (.tree .int y13.2.2.2)])]) trivial (gm_cons (by kernel_rfl) (gm_cons (gd_agg (gm_cons (by kernel_rfl) (gm_cons (gd_own (e := 59) (by kernel_rfl) rfl) (gm_cons (gd_own (e := 3) (by kernel_rfl) rfl) (gm_cons (gd_own (e := 3) (by kernel_rfl) rfl) gm_nil))))) gm_nil)) (ok_impl_MergeBranches h15) hb_impl_MergeBranches ?_
  refine rsB 6 ?_
  refine rnil (tn_ ?_)
  refine ⟨_, Weak.refl _, ?_⟩
  refine awp_seqv_ ?_
  refine awp_seqB h (fun (l17_m44 : Bool) S_ => S_ = ⟨mkTm [(0, (ai a0)), (3, (.box (oi 0 1) 0)), (6, (.box (oi 1 1) 0)), (7, (.bool y11.2.2.2.2)), (8, (.box (oi 2 1) 0)), (9, (.box (oi 3 1) 0)), (10, (.bool y15.2.2.2.2)), (44, (.bool l17_m44))], mkOb (someL [((oi 0 1), .cells 25 [(ai a1_0), (.tree (.pair .int (.pair .int .int)) a1_1), (.tree .int a1_2), (.tree .int a1_3)]), ((oi 1 1), .cells 30 [(ai y11.1), (.own (oi 4 1) (.pair .int (.pair .int .int)) 0 y11.2.1.length), (.own (oi 5 1) .int 0 y11.2.2.1.length), (.own (oi 6 1) .int 0 y11.2.2.2.1.length)]), ((oi 2 1), .cells 30 [(ai y13.1), (.own (oi 7 1) (.pair .int (.pair .int .int)) 0 y13.2.1.length), (.own (oi 8 1) .int 0 y13.2.2.1.length), (.own (oi 9 1) .int 0 y13.2.2.2.length)]), ((oi 3 1), .cells 30 [(ai y15.1), (.own (oi 10 1) (.pair .int (.pair .int .int)) 0 y15.2.1.length), (.own (oi 11 1) .int 0 y15.2.2.1.length), (.own (oi 12 1) .int 0 y15.2.2.2.1.length)]), ((oi 4 1), .arr 59 (.pair .int (.pair .int .int)) y11.2.1), ((oi 5 1), .arr 3 .int y11.2.2.1), ((oi 6 1), .arr 3 .int y11.2.2.2.1), ((oi 7 1), .arr 59 (.pair .int (.pair .int .int)) y13.2.1), ((oi 8 1), .arr 3 .int y13.2.2.1), ((oi 9 1), .arr 3 .int y13.2.2.2), ((oi 10 1), .arr 59 (.pair .int (.pair .int .int)) y15.2.1), ((oi 11 1), .arr 3 .int y15.2.2.1), ((oi 12 1), .arr 3 .int y15.2.2.2.1)]), 2⟩) ?_ ?_
  · intro v_ h
    obtain ⟨y18, h18, h⟩ := ob_some h
    rcases cond_some h with ⟨q19, h⟩ | ⟨q19, h⟩
    · refine awp_region_ 42 ?_
      refine rsl (.agg [(ai y15.1), (.own (oi 528 26) (.pair .int (.pair .int .int)) 0 y15.2.1.length), (.own (oi 529 26) .int 0 y15.2.2.1.length), (.own (oi 530 26) .int 0 y15.2.2.2.1.length)]) (by kernel_rfl) ?_
      refine rsl (.agg [(ai y11.1), (.own (oi 400 13) (.pair .int (.pair .int .int)) 0 y11.2.1.length), (.own (oi 401 13) .int 0 y11.2.2.1.length), (.own (oi 402 13) .int 0 y11.2.2.2.1.length)]) (by kernel_rfl) ?_
      refine rcall (.bool y18) [] [(.agg [(ai y15.1), (.own (oi 528 26) (.pair .int (.pair .int .int)) 0 y15.2.1.length), (.own (oi 529 26) .int 0 y15.2.2.1.length), (.own (oi 530 26) .int 0 y15.2.2.2.1.length)]), (.agg [(ai y11.1), (.own (oi 400 13) (.pair .int (.pair .int .int)) 0 y11.2.1.length), (.own (oi 401 13) .int 0 y11.2.2.1.length), (.own (oi 402 13) .int 0 y11.2.2.2.1.length)])] _ (caps := []) (args0 := [(.agg [(ai y15.1), (.tree (.pair .int (.pair .int .int)) y15.2.1), (.tree .int y15.2.2.1), (.tree .int y15.2.2.2.1)]), (.agg [(ai y11.1), (.tree (.pair .int (.pair .int .int)) y11.2.1), (.tree .int y11.2.2.1), (.tree .int y11.2.2.2.1)])]) trivial (gm_cons (gd_agg (gm_cons (by kernel_rfl) (gm_cons (gd_own (e := 59) (by kernel_rfl) rfl) (gm_cons (gd_own (e := 3) (by kernel_rfl) rfl) (gm_cons (gd_own (e := 3) (by kernel_rfl) rfl) gm_nil))))) (gm_cons (gd_agg (gm_cons (by kernel_rfl) (gm_cons (gd_own (e := 59) (by kernel_rfl) rfl) (gm_cons (gd_own (e := 3) (by kernel_rfl) rfl) (gm_cons (gd_own (e := 3) (by kernel_rfl) rfl) gm_nil))))) gm_nil)) (ok_laws_eqNetwork h18) hb_laws_eqNetwork ?_
      refine rs0 (.bool (!y18)) (by kernel_rfl) ?_
      refine rs0 (.bool (!y18)) (by kernel_rfl) ?_
      refine rs0 (.tup []) (s_skip (by kernel_rfl) q19) ?_
      refine rs0 (.tup []) (s_skip (by kernel_rfl) q19) ?_
      refine rs0 (.tup []) (s_skip (by kernel_rfl) q19) ?_
      refine rs0 (.bool true) (s_pickT (by kernel_rfl) q19) ?_
      refine rnil (tn_ ?_)
      obtain rfl := Option.some.inj h
      exact ⟨_, (weak_ren [((oi 0 1), (oi 3 1)), ((oi 1 1), (oi 6 17)), ((oi 4 1), (oi 400 13)), ((oi 5 1), (oi 401 13)), ((oi 6 1), (oi 402 13)), ((oi 2 1), (oi 8 22)), ((oi 7 1), (oi 464 21)), ((oi 8 1), (oi 465 21)), ((oi 9 1), (oi 466 21)), ((oi 3 1), (oi 9 30)), ((oi 10 1), (oi 528 26)), ((oi 11 1), (oi 529 26)), ((oi 12 1), (oi 530 26))]), rfl⟩
    refine awp_region_ 42 ?_
    refine rsl (.agg [(ai y15.1), (.own (oi 528 26) (.pair .int (.pair .int .int)) 0 y15.2.1.length), (.own (oi 529 26) .int 0 y15.2.2.1.length), (.own (oi 530 26) .int 0 y15.2.2.2.1.length)]) (by kernel_rfl) ?_
    refine rsl (.agg [(ai y11.1), (.own (oi 400 13) (.pair .int (.pair .int .int)) 0 y11.2.1.length), (.own (oi 401 13) .int 0 y11.2.2.1.length), (.own (oi 402 13) .int 0 y11.2.2.2.1.length)]) (by kernel_rfl) ?_
    refine rcall (.bool y18) [] [(.agg [(ai y15.1), (.own (oi 528 26) (.pair .int (.pair .int .int)) 0 y15.2.1.length), (.own (oi 529 26) .int 0 y15.2.2.1.length), (.own (oi 530 26) .int 0 y15.2.2.2.1.length)]), (.agg [(ai y11.1), (.own (oi 400 13) (.pair .int (.pair .int .int)) 0 y11.2.1.length), (.own (oi 401 13) .int 0 y11.2.2.1.length), (.own (oi 402 13) .int 0 y11.2.2.2.1.length)])] _ (caps := []) (args0 := [(.agg [(ai y15.1), (.tree (.pair .int (.pair .int .int)) y15.2.1), (.tree .int y15.2.2.1), (.tree .int y15.2.2.2.1)]), (.agg [(ai y11.1), (.tree (.pair .int (.pair .int .int)) y11.2.1), (.tree .int y11.2.2.1), (.tree .int y11.2.2.2.1)])]) trivial (gm_cons (gd_agg (gm_cons (by kernel_rfl) (gm_cons (gd_own (e := 59) (by kernel_rfl) rfl) (gm_cons (gd_own (e := 3) (by kernel_rfl) rfl) (gm_cons (gd_own (e := 3) (by kernel_rfl) rfl) gm_nil))))) (gm_cons (gd_agg (gm_cons (by kernel_rfl) (gm_cons (gd_own (e := 59) (by kernel_rfl) rfl) (gm_cons (gd_own (e := 3) (by kernel_rfl) rfl) (gm_cons (gd_own (e := 3) (by kernel_rfl) rfl) gm_nil))))) gm_nil)) (ok_laws_eqNetwork h18) hb_laws_eqNetwork ?_
    refine rs0 (.bool (!y18)) (by kernel_rfl) ?_
    refine rs0 (.bool (!y18)) (by kernel_rfl) ?_
    refine rs0 (.bool y15.2.2.2.2) (s_gd (by kernel_rfl) q19 (by kernel_rfl)) ?_
    refine rs0 (.bool y11.2.2.2.2) (s_gd (by kernel_rfl) q19 (by kernel_rfl)) ?_
    refine rs0 (.bool (y15.2.2.2.2 != y11.2.2.2.2)) (s_gd (by kernel_rfl) q19 (by kernel_rfl)) ?_
    refine rs0 (.bool (y15.2.2.2.2 != y11.2.2.2.2)) (s_pickF (by kernel_rfl) q19) ?_
    refine rnil (tn_ ?_)
    obtain rfl := Option.some.inj h
    exact ⟨_, (weak_ren [((oi 0 1), (oi 3 1)), ((oi 1 1), (oi 6 17)), ((oi 4 1), (oi 400 13)), ((oi 5 1), (oi 401 13)), ((oi 6 1), (oi 402 13)), ((oi 2 1), (oi 8 22)), ((oi 7 1), (oi 464 21)), ((oi 8 1), (oi 465 21)), ((oi 9 1), (oi 466 21)), ((oi 3 1), (oi 9 30)), ((oi 10 1), (oi 528 26)), ((oi 11 1), (oi 529 26)), ((oi 12 1), (oi 530 26))]), rfl⟩
  rintro l17_m44 _ rfl h
  (try dsimp only at h)
  rcases cond_some h with ⟨q20, h⟩ | ⟨q20, h⟩
  · refine awp_condT_ q20 ?_
    refine seqR ?_
    refine awp_ret_ (tr_ ?_)
    obtain rfl := Option.some.inj h
    exact ret_ [(.bool false)] (p_one rfl (l_sc (by kernel_rfl)) p_nil)
  refine awp_condF_ q20 ?_
  refine awp_skip_ (tn_ ?_)
  refine ⟨_, Weak.refl _, ?_⟩
  refine awp_seqv_ ?_
  refine awp_seqv_ ?_
  obtain ⟨y24, h24, h⟩ := ob_some h
  obtain ⟨y25, h25, h⟩ := ob_some h
  refine awp_regionD_ 7 ?_
  refine dsl (.agg [(ai y13.1), (.own (oi 7 1) (.pair .int (.pair .int .int)) 0 y13.2.1.length), (.own (oi 8 1) .int 0 y13.2.2.1.length), (.own (oi 9 1) .int 0 y13.2.2.2.length)]) (by kernel_rfl) ?_
  refine dsl (.agg [(ai a1_0), (.tree (.pair .int (.pair .int .int)) a1_1), (.tree .int a1_2), (.tree .int a1_3)]) (by kernel_rfl) ?_
  refine dcall (.agg [(ai y24.1), (.own (oi 752 4) (.pair .int (.pair .int .int)) 0 y24.2.1.length), (.own (oi 753 4) .int 0 y24.2.2.1.length), (.own (oi 754 4) .int 0 y24.2.2.2.length)]) [((oi 752 4), some (.arr 59 (.pair .int (.pair .int .int)) y24.2.1)), ((oi 753 4), some (.arr 3 .int y24.2.2.1)), ((oi 754 4), some (.arr 3 .int y24.2.2.2))] [(.agg [(ai a1_0), (.tree (.pair .int (.pair .int .int)) a1_1), (.tree .int a1_2), (.tree .int a1_3)])] _ (caps := []) (args0 := [(.agg [(ai a1_0), (.tree (.pair .int (.pair .int .int)) a1_1), (.tree .int a1_2), (.tree .int a1_3)])]) trivial (by kernel_rfl) (ok_laws_toNetwork h24) hb_laws_toNetwork ?_
  refine dcall (.bool y25) [] [(.agg [(ai y13.1), (.own (oi 7 1) (.pair .int (.pair .int .int)) 0 y13.2.1.length), (.own (oi 8 1) .int 0 y13.2.2.1.length), (.own (oi 9 1) .int 0 y13.2.2.2.length)]), (.agg [(ai y24.1), (.own (oi 752 4) (.pair .int (.pair .int .int)) 0 y24.2.1.length), (.own (oi 753 4) .int 0 y24.2.2.1.length), (.own (oi 754 4) .int 0 y24.2.2.2.length)])] _ (caps := []) (args0 := [(.agg [(ai y13.1), (.tree (.pair .int (.pair .int .int)) y13.2.1), (.tree .int y13.2.2.1), (.tree .int y13.2.2.2)]), (.agg [(ai y24.1), (.tree (.pair .int (.pair .int .int)) y24.2.1), (.tree .int y24.2.2.1), (.tree .int y24.2.2.2)])]) trivial (gm_cons (gd_agg (gm_cons (by kernel_rfl) (gm_cons (gd_own (e := 59) (by kernel_rfl) rfl) (gm_cons (gd_own (e := 3) (by kernel_rfl) rfl) (gm_cons (gd_own (e := 3) (by kernel_rfl) rfl) gm_nil))))) (gm_cons (gd_agg (gm_cons (by kernel_rfl) (gm_cons (gd_own (e := 59) (by kernel_rfl) rfl) (gm_cons (gd_own (e := 3) (by kernel_rfl) rfl) (gm_cons (gd_own (e := 3) (by kernel_rfl) rfl) gm_nil))))) gm_nil)) (ok_laws_eqNetwork h25) hb_laws_eqNetwork ?_
  refine ds0 (.bool (!y25)) (by kernel_rfl) ?_
  refine dnil (badB_spec (by kernel_rfl)) (tn_ ?_)
  refine ⟨_, Weak.refl _, ?_⟩
  rcases cond_some h with ⟨q26, h⟩ | ⟨q26, h⟩
  · refine awp_condT_ q26 ?_
    refine seqR ?_
    refine awp_ret_ (tr_ ?_)
    obtain rfl := Option.some.inj h
    exact ret_ [(.bool false)] (p_one rfl (l_sc (by kernel_rfl)) p_nil)
  refine awp_condF_ q26 ?_
  refine awp_skip_ (tn_ ?_)
  refine ⟨_, Weak.refl _, ?_⟩
  refine seqR ?_
  refine awp_seqv_ ?_
  obtain ⟨y30, h30, h⟩ := ob_some h
  obtain ⟨g31, h⟩ := og_some h
  obtain ⟨g32, h⟩ := og_some h
  obtain ⟨g33, h⟩ := og_some h
  refine awp_region_ 12 ?_
  refine rsl (.agg [(ai y13.1), (.own (oi 7 1) (.pair .int (.pair .int .int)) 0 y13.2.1.length), (.own (oi 8 1) .int 0 y13.2.2.1.length), (.own (oi 9 1) .int 0 y13.2.2.2.length)]) (by kernel_rfl) ?_
  refine rs0 (ai 1) (by kernel_rfl) ?_
  refine rcallM (ai y30.2.2.2) [((oi 7 1), some (.arr 59 (.pair .int (.pair .int .int)) y30.1)), ((oi 8 1), some (.arr 3 .int y30.2.1)), ((oi 9 1), some (.arr 3 .int y30.2.2.1)), ((oi 7 1), none), ((oi 8 1), none), ((oi 9 1), none)] [((oi 0 0), (oi 7 1)), ((oi 1 0), (oi 8 1)), ((oi 2 0), (oi 9 1))] [(.agg [(ai y13.1), (.own (oi 7 1) (.pair .int (.pair .int .int)) 0 y13.2.1.length), (.own (oi 8 1) .int 0 y13.2.2.1.length), (.own (oi 9 1) .int 0 y13.2.2.2.length)]), (ai 1)] (caps := []) trivial (ok_laws_markNetwork h30 rfl rfl rfl) hb_laws_markNetwork ⟨(by kernel_rfl), ⟨(by kernel_rfl), ⟨(by kernel_rfl), trivial⟩⟩⟩ (.cons (.agg (.cons (.ren (by kernel_rfl)) (.cons (.ren (by kernel_rfl)) (.cons (.ren (by kernel_rfl)) (.cons (.ren (by kernel_rfl)) .nil))))) (.cons (.ren (by kernel_rfl)) .nil)) (reachL_mem (by kernel_rfl) (by kernel_rfl) ⟨(re_arg (by kernel_rfl)), ⟨(re_arg (by kernel_rfl)), ⟨(re_arg (by kernel_rfl)), trivial⟩⟩⟩) ?_
  refine rsB 1 ?_
  refine rnil (tn_ ?_)
  refine ⟨_, Weak.refl _, ?_⟩
  refine awp_seqv_ ?_
  refine awp_seqB h (fun (l35_m65 : Bool) S_ => S_ = ⟨mkTm [(0, (ai a0)), (3, (.box (oi 0 1) 0)), (6, (.box (oi 1 1) 0)), (7, (.bool y11.2.2.2.2)), (9, (.box (oi 2 1) 0)), (65, (.bool l35_m65))], mkOb (someL [((oi 0 1), .cells 25 [(ai a1_0), (.tree (.pair .int (.pair .int .int)) a1_1), (.tree .int a1_2), (.tree .int a1_3)]), ((oi 1 1), .cells 30 [(ai y11.1), (.own (oi 3 1) (.pair .int (.pair .int .int)) 0 y11.2.1.length), (.own (oi 4 1) .int 0 y11.2.2.1.length), (.own (oi 5 1) .int 0 y11.2.2.2.1.length)]), ((oi 2 1), .cells 30 [(ai y15.1), (.own (oi 6 1) (.pair .int (.pair .int .int)) 0 y15.2.1.length), (.own (oi 7 1) .int 0 y15.2.2.1.length), (.own (oi 8 1) .int 0 y15.2.2.2.1.length)]), ((oi 3 1), .arr 59 (.pair .int (.pair .int .int)) y11.2.1), ((oi 4 1), .arr 3 .int y11.2.2.1), ((oi 5 1), .arr 3 .int y11.2.2.2.1), ((oi 6 1), .arr 59 (.pair .int (.pair .int .int)) y15.2.1), ((oi 7 1), .arr 3 .int y15.2.2.1), ((oi 8 1), .arr 3 .int y15.2.2.2.1)]), 2⟩) ?_ ?_
  · intro v_ h
    rcases cond_some h with ⟨q36, h⟩ | ⟨q36, h⟩
    · have q36_ := of_decide_eq_true q36
      refine awp_region_ 25 ?_
      refine rs0 (ai y30.2.2.2) (by kernel_rfl) ?_
      refine rs0 (.bool (decide (y30.2.2.2 < 0))) (by kernel_rfl) ?_
      refine rs0 (.bool (decide (y30.2.2.2 < 0))) (by kernel_rfl) ?_
      refine rs0 (.tup []) (s_skip (by kernel_rfl) q36) ?_
      refine rs0 (.tup []) (s_skip (by kernel_rfl) q36) ?_
      refine rs0 (.tup []) (s_skip (by kernel_rfl) q36) ?_
      refine rs0 (.tup []) (s_skip (by kernel_rfl) q36) ?_
      refine rs0 (.bool true) (s_pickT (by kernel_rfl) q36) ?_
      refine rsB 5 ?_
      refine rnil (tn_ ?_)
      obtain rfl := Option.some.inj h
      exact ⟨_, (weak_ren [((oi 3 1), (oi 4 1)), ((oi 4 1), (oi 5 1)), ((oi 5 1), (oi 6 1)), ((oi 2 1), (oi 3 1)), ((oi 6 1), (oi 10 1)), ((oi 7 1), (oi 11 1)), ((oi 8 1), (oi 12 1))]), rfl⟩
    have q36_ := of_decide_eq_false q36
    obtain ⟨y37, h37, h⟩ := ob_some h
    rcases cond_some h with ⟨q38, h⟩ | ⟨q38, h⟩
    · refine awp_region_ 25 ?_
      refine rs0 (ai y30.2.2.2) (by kernel_rfl) ?_
      refine rs0 (.bool (decide (y30.2.2.2 < 0))) (by kernel_rfl) ?_
      refine rs0 (.bool (decide (y30.2.2.2 < 0))) (by kernel_rfl) ?_
      refine rsl (.agg [(ai y15.1), (.own (oi 10 1) (.pair .int (.pair .int .int)) 0 y15.2.1.length), (.own (oi 11 1) .int 0 y15.2.2.1.length), (.own (oi 12 1) .int 0 y15.2.2.2.1.length)]) (s_gd (by kernel_rfl) q36 (by kernel_rfl)) ?_
      refine rsl (.agg [(ai y11.1), (.own (oi 4 1) (.pair .int (.pair .int .int)) 0 y11.2.1.length), (.own (oi 5 1) .int 0 y11.2.2.1.length), (.own (oi 6 1) .int 0 y11.2.2.2.1.length)]) (s_gd (by kernel_rfl) q36 (by kernel_rfl)) ?_
      refine rcall (.bool y37) [] [(.agg [(ai y15.1), (.own (oi 10 1) (.pair .int (.pair .int .int)) 0 y15.2.1.length), (.own (oi 11 1) .int 0 y15.2.2.1.length), (.own (oi 12 1) .int 0 y15.2.2.2.1.length)]), (.agg [(ai y11.1), (.own (oi 4 1) (.pair .int (.pair .int .int)) 0 y11.2.1.length), (.own (oi 5 1) .int 0 y11.2.2.1.length), (.own (oi 6 1) .int 0 y11.2.2.2.1.length)])] _ (caps := []) (args0 := [(.agg [(ai y15.1), (.tree (.pair .int (.pair .int .int)) y15.2.1), (.tree .int y15.2.2.1), (.tree .int y15.2.2.2.1)]), (.agg [(ai y11.1), (.tree (.pair .int (.pair .int .int)) y11.2.1), (.tree .int y11.2.2.1), (.tree .int y11.2.2.2.1)])]) (gdOK_b (by kernel_rfl) q36) (gm_cons (gd_agg (gm_cons (by kernel_rfl) (gm_cons (gd_own (e := 59) (by kernel_rfl) rfl) (gm_cons (gd_own (e := 3) (by kernel_rfl) rfl) (gm_cons (gd_own (e := 3) (by kernel_rfl) rfl) gm_nil))))) (gm_cons (gd_agg (gm_cons (by kernel_rfl) (gm_cons (gd_own (e := 59) (by kernel_rfl) rfl) (gm_cons (gd_own (e := 3) (by kernel_rfl) rfl) (gm_cons (gd_own (e := 3) (by kernel_rfl) rfl) gm_nil))))) gm_nil)) (ok_laws_eqNetwork h37) hb_laws_eqNetwork ?_
      refine rs0 (.bool (!y37)) (s_gd (by kernel_rfl) q36 (by kernel_rfl)) ?_
      refine rs0 (.bool (!y37)) (s_pickF (by kernel_rfl) q36) ?_
      refine rs0 (.bool (!y37)) (by kernel_rfl) ?_
      refine rs0 (.tup []) (s_skip (by kernel_rfl) q38) ?_
      refine rs0 (.tup []) (s_skip (by kernel_rfl) q38) ?_
      refine rs0 (.tup []) (s_skip (by kernel_rfl) q38) ?_
      refine rs0 (.bool true) (s_pickT (by kernel_rfl) q38) ?_
      refine rnil (tn_ ?_)
      obtain rfl := Option.some.inj h
      exact ⟨_, (weak_ren [((oi 3 1), (oi 4 1)), ((oi 4 1), (oi 5 1)), ((oi 5 1), (oi 6 1)), ((oi 2 1), (oi 3 1)), ((oi 6 1), (oi 10 1)), ((oi 7 1), (oi 11 1)), ((oi 8 1), (oi 12 1))]), rfl⟩
    refine awp_region_ 25 ?_
    refine rs0 (ai y30.2.2.2) (by kernel_rfl) ?_
    refine rs0 (.bool (decide (y30.2.2.2 < 0))) (by kernel_rfl) ?_
    refine rs0 (.bool (decide (y30.2.2.2 < 0))) (by kernel_rfl) ?_
    refine rsl (.agg [(ai y15.1), (.own (oi 10 1) (.pair .int (.pair .int .int)) 0 y15.2.1.length), (.own (oi 11 1) .int 0 y15.2.2.1.length), (.own (oi 12 1) .int 0 y15.2.2.2.1.length)]) (s_gd (by kernel_rfl) q36 (by kernel_rfl)) ?_
    refine rsl (.agg [(ai y11.1), (.own (oi 4 1) (.pair .int (.pair .int .int)) 0 y11.2.1.length), (.own (oi 5 1) .int 0 y11.2.2.1.length), (.own (oi 6 1) .int 0 y11.2.2.2.1.length)]) (s_gd (by kernel_rfl) q36 (by kernel_rfl)) ?_
    refine rcall (.bool y37) [] [(.agg [(ai y15.1), (.own (oi 10 1) (.pair .int (.pair .int .int)) 0 y15.2.1.length), (.own (oi 11 1) .int 0 y15.2.2.1.length), (.own (oi 12 1) .int 0 y15.2.2.2.1.length)]), (.agg [(ai y11.1), (.own (oi 4 1) (.pair .int (.pair .int .int)) 0 y11.2.1.length), (.own (oi 5 1) .int 0 y11.2.2.1.length), (.own (oi 6 1) .int 0 y11.2.2.2.1.length)])] _ (caps := []) (args0 := [(.agg [(ai y15.1), (.tree (.pair .int (.pair .int .int)) y15.2.1), (.tree .int y15.2.2.1), (.tree .int y15.2.2.2.1)]), (.agg [(ai y11.1), (.tree (.pair .int (.pair .int .int)) y11.2.1), (.tree .int y11.2.2.1), (.tree .int y11.2.2.2.1)])]) (gdOK_b (by kernel_rfl) q36) (gm_cons (gd_agg (gm_cons (by kernel_rfl) (gm_cons (gd_own (e := 59) (by kernel_rfl) rfl) (gm_cons (gd_own (e := 3) (by kernel_rfl) rfl) (gm_cons (gd_own (e := 3) (by kernel_rfl) rfl) gm_nil))))) (gm_cons (gd_agg (gm_cons (by kernel_rfl) (gm_cons (gd_own (e := 59) (by kernel_rfl) rfl) (gm_cons (gd_own (e := 3) (by kernel_rfl) rfl) (gm_cons (gd_own (e := 3) (by kernel_rfl) rfl) gm_nil))))) gm_nil)) (ok_laws_eqNetwork h37) hb_laws_eqNetwork ?_
    refine rs0 (.bool (!y37)) (s_gd (by kernel_rfl) q36 (by kernel_rfl)) ?_
    refine rs0 (.bool (!y37)) (s_pickF (by kernel_rfl) q36) ?_
    refine rs0 (.bool (!y37)) (by kernel_rfl) ?_
    refine rs0 (.bool y15.2.2.2.2) (s_gd (by kernel_rfl) q38 (by kernel_rfl)) ?_
    refine rs0 (.bool y11.2.2.2.2) (s_gd (by kernel_rfl) q38 (by kernel_rfl)) ?_
    refine rs0 (.bool (y15.2.2.2.2 != y11.2.2.2.2)) (s_gd (by kernel_rfl) q38 (by kernel_rfl)) ?_
    refine rs0 (.bool (y15.2.2.2.2 != y11.2.2.2.2)) (s_pickF (by kernel_rfl) q38) ?_
    refine rnil (tn_ ?_)
    obtain rfl := Option.some.inj h
    exact ⟨_, (weak_ren [((oi 3 1), (oi 4 1)), ((oi 4 1), (oi 5 1)), ((oi 5 1), (oi 6 1)), ((oi 2 1), (oi 3 1)), ((oi 6 1), (oi 10 1)), ((oi 7 1), (oi 11 1)), ((oi 8 1), (oi 12 1))]), rfl⟩
  rintro l35_m65 _ rfl h
  (try dsimp only at h)
  rcases cond_some h with ⟨q39, h⟩ | ⟨q39, h⟩
  · refine awp_condT_ q39 ?_
    refine seqR ?_
    refine awp_ret_ (tr_ ?_)
    obtain rfl := Option.some.inj h
    exact ret_ [(.bool false)] (p_one rfl (l_sc (by kernel_rfl)) p_nil)
  refine awp_condF_ q39 ?_
  refine awp_skip_ (tn_ ?_)
  refine ⟨_, Weak.refl _, ?_⟩
  refine seqR ?_
  refine awp_seqv_ ?_
  obtain ⟨y43, h43, h⟩ := ob_some h
  obtain ⟨g44, h⟩ := og_some h
  obtain ⟨g45, h⟩ := og_some h
  obtain ⟨g46, h⟩ := og_some h
  refine awp_region_ 7 ?_
  refine rsl (.agg [(ai y15.1), (.own (oi 6 1) (.pair .int (.pair .int .int)) 0 y15.2.1.length), (.own (oi 7 1) .int 0 y15.2.2.1.length), (.own (oi 8 1) .int 0 y15.2.2.2.1.length)]) (by kernel_rfl) ?_
  refine rs0 (ai 1) (by kernel_rfl) ?_
  refine rcallM (ai y43.2.2.2) [((oi 6 1), some (.arr 59 (.pair .int (.pair .int .int)) y43.1)), ((oi 7 1), some (.arr 3 .int y43.2.1)), ((oi 8 1), some (.arr 3 .int y43.2.2.1)), ((oi 6 1), none), ((oi 7 1), none), ((oi 8 1), none)] [((oi 0 0), (oi 6 1)), ((oi 1 0), (oi 7 1)), ((oi 2 0), (oi 8 1))] [(.agg [(ai y15.1), (.own (oi 6 1) (.pair .int (.pair .int .int)) 0 y15.2.1.length), (.own (oi 7 1) .int 0 y15.2.2.1.length), (.own (oi 8 1) .int 0 y15.2.2.2.1.length)]), (ai 1)] (caps := []) trivial (ok_laws_markNetwork h43 rfl rfl rfl) hb_laws_markNetwork ⟨(by kernel_rfl), ⟨(by kernel_rfl), ⟨(by kernel_rfl), trivial⟩⟩⟩ (.cons (.agg (.cons (.ren (by kernel_rfl)) (.cons (.ren (by kernel_rfl)) (.cons (.ren (by kernel_rfl)) (.cons (.ren (by kernel_rfl)) .nil))))) (.cons (.ren (by kernel_rfl)) .nil)) (reachL_mem (by kernel_rfl) (by kernel_rfl) ⟨(re_arg (by kernel_rfl)), ⟨(re_arg (by kernel_rfl)), ⟨(re_arg (by kernel_rfl)), trivial⟩⟩⟩) ?_
  refine rsB 1 ?_
  refine rnil (tn_ ?_)
  refine ⟨_, Weak.refl _, ?_⟩
  refine seqR ?_
  refine awp_seqv_ ?_
  obtain ⟨y49, h49, h⟩ := ob_some h
  refine awp_region_ 12 ?_
  refine rsl (.agg [(ai y15.1), (.own (oi 6 1) (.pair .int (.pair .int .int)) 0 y15.2.1.length), (.own (oi 7 1) .int 0 y15.2.2.1.length), (.own (oi 8 1) .int 0 y15.2.2.2.1.length)]) (by kernel_rfl) ?_
  refine rs0 (ai 1) (by kernel_rfl) ?_
  refine rcall (ai y49) [] [(.agg [(ai y15.1), (.own (oi 6 1) (.pair .int (.pair .int .int)) 0 y15.2.1.length), (.own (oi 7 1) .int 0 y15.2.2.1.length), (.own (oi 8 1) .int 0 y15.2.2.2.1.length)]), (ai 1)] _ (caps := []) (args0 := [(.agg [(ai y15.1), (.tree (.pair .int (.pair .int .int)) y43.1), (.tree .int y43.2.1), (.tree .int y43.2.2.1)]), (ai 1)]) trivial (gm_cons (gd_agg (gm_cons (by kernel_rfl) (gm_cons (gd_own (e := 59) (by kernel_rfl) g44.symm) (gm_cons (gd_own (e := 3) (by kernel_rfl) g45.symm) (gm_cons (gd_own (e := 3) (by kernel_rfl) g46.symm) gm_nil))))) (gm_cons (by kernel_rfl) gm_nil)) (ok_laws_heldNetwork h49) hb_laws_heldNetwork ?_
  refine rsB 1 ?_
  refine rnil (tn_ ?_)
  refine ⟨_, Weak.refl _, ?_⟩
  refine awp_seqv_ ?_
  refine seqR ?_
  rcases cond_some h with ⟨q52, h⟩ | ⟨q52, h⟩
  · have q52_ := of_decide_eq_true q52
    refine awp_condT_ q52 ?_
    refine seqR ?_
    refine awp_ret_ (tr_ ?_)
    obtain rfl := Option.some.inj h
    exact ret_ [(.bool false)] (p_one rfl (l_sc (by kernel_rfl)) p_nil)
  have q52_ := of_decide_eq_false q52
  refine awp_condF_ q52 ?_
  refine awp_skip_ (tn_ ?_)
  refine ⟨_, Weak.refl _, ?_⟩
  refine awp_seqv_ ?_
  refine seqR ?_
  rcases cond_some h with ⟨q56, h⟩ | ⟨q56, h⟩
  · refine awp_condT_ q56 ?_
    refine seqR ?_
    refine awp_ret_ (tr_ ?_)
    obtain rfl := Option.some.inj h
    exact ret_ [(.bool false)] (p_one rfl (l_sc (by kernel_rfl)) p_nil)
  refine awp_condF_ q56 ?_
  refine awp_skip_ (tn_ ?_)
  refine ⟨_, Weak.refl _, ?_⟩
  refine awp_seqv_ ?_
  obtain ⟨y59, h59, h⟩ := ob_some h
  obtain ⟨y60, h60, h⟩ := ob_some h
  refine awp_region_ 27 ?_
  refine rs0 (ai a0) (by kernel_rfl) ?_
  refine rsl (.agg [(ai a1_0), (.tree (.pair .int (.pair .int .int)) a1_1), (.tree .int a1_2), (.tree .int a1_3)]) (by kernel_rfl) ?_
  refine rcall (.agg [(ai y59.1), (.own (oi 1280 19) (.pair .int (.pair .int .int)) 0 y59.2.1.length), (.own (oi 1281 19) .int 0 y59.2.2.1.length), (.own (oi 1282 19) .int 0 y59.2.2.2.length)]) [((oi 1280 19), some (.arr 59 (.pair .int (.pair .int .int)) y59.2.1)), ((oi 1281 19), some (.arr 3 .int y59.2.2.1)), ((oi 1282 19), some (.arr 3 .int y59.2.2.2))] [(.agg [(ai a1_0), (.tree (.pair .int (.pair .int .int)) a1_1), (.tree .int a1_2), (.tree .int a1_3)])] _ (caps := []) (args0 := [(.agg [(ai a1_0), (.tree (.pair .int (.pair .int .int)) a1_1), (.tree .int a1_2), (.tree .int a1_3)])]) trivial (by kernel_rfl) (ok_laws_toNetwork h59) hb_laws_toNetwork ?_
  refine rcall (.tup [(.agg [(ai y60.1), (.own (oi 1296 20) (.pair .int (.pair .int .int)) 0 y60.2.1.length), (.own (oi 1297 20) .int 0 y60.2.2.1.length), (.own (oi 1298 20) .int 0 y60.2.2.2.1.length)]), (.bool y60.2.2.2.2)]) [((oi 1296 20), some (.arr 59 (.pair .int (.pair .int .int)) y60.2.1)), ((oi 1297 20), some (.arr 3 .int y60.2.2.1)), ((oi 1298 20), some (.arr 3 .int y60.2.2.2.1))] [(ai a0), (.agg [(ai y59.1), (.own (oi 1280 19) (.pair .int (.pair .int .int)) 0 y59.2.1.length), (.own (oi 1281 19) .int 0 y59.2.2.1.length), (.own (oi 1282 19) .int 0 y59.2.2.2.length)])] _ (caps := []) (args0 := [(ai a0), (.agg [(ai y59.1), (.tree (.pair .int (.pair .int .int)) y59.2.1), (.tree .int y59.2.2.1), (.tree .int y59.2.2.2)])]) trivial (gm_cons (by kernel_rfl) (gm_cons (gd_agg (gm_cons (by kernel_rfl) (gm_cons (gd_own (e := 59) (by kernel_rfl) rfl) (gm_cons (gd_own (e := 3) (by kernel_rfl) rfl) (gm_cons (gd_own (e := 3) (by kernel_rfl) rfl) gm_nil))))) gm_nil)) (ok_impl_MergeBranches h60) hb_impl_MergeBranches ?_
  refine rsB 6 ?_
  refine rnil (tn_ ?_)
  refine ⟨_, Weak.refl _, ?_⟩
  refine awp_seqv_ ?_
  refine awp_seqB h (fun (l62_m92 : Bool) S_ => S_ = ⟨mkTm [(9, (.box (oi 0 1) 0)), (12, (ai y43.2.2.2)), (92, (.bool l62_m92))], mkOb (someL [((oi 0 1), .cells 30 [(ai y15.1), (.own (oi 1 1) (.pair .int (.pair .int .int)) 0 y43.1.length), (.own (oi 2 1) .int 0 y43.2.1.length), (.own (oi 3 1) .int 0 y43.2.2.1.length)]), ((oi 1 1), .arr 59 (.pair .int (.pair .int .int)) y43.1), ((oi 2 1), .arr 3 .int y43.2.1), ((oi 3 1), .arr 3 .int y43.2.2.1)]), 2⟩) ?_ ?_
  · intro v_ h
    obtain ⟨y63, h63, h⟩ := ob_some h
    rcases cond_some h with ⟨q64, h⟩ | ⟨q64, h⟩
    · refine awp_region_ 36 ?_
      refine rsl (.agg [(ai y60.1), (.own (oi 1296 20) (.pair .int (.pair .int .int)) 0 y60.2.1.length), (.own (oi 1297 20) .int 0 y60.2.2.1.length), (.own (oi 1298 20) .int 0 y60.2.2.2.1.length)]) (by kernel_rfl) ?_
      refine rsl (.agg [(ai y11.1), (.own (oi 3 1) (.pair .int (.pair .int .int)) 0 y11.2.1.length), (.own (oi 4 1) .int 0 y11.2.2.1.length), (.own (oi 5 1) .int 0 y11.2.2.2.1.length)]) (by kernel_rfl) ?_
      refine rcall (.bool y63) [] [(.agg [(ai y60.1), (.own (oi 1296 20) (.pair .int (.pair .int .int)) 0 y60.2.1.length), (.own (oi 1297 20) .int 0 y60.2.2.1.length), (.own (oi 1298 20) .int 0 y60.2.2.2.1.length)]), (.agg [(ai y11.1), (.own (oi 3 1) (.pair .int (.pair .int .int)) 0 y11.2.1.length), (.own (oi 4 1) .int 0 y11.2.2.1.length), (.own (oi 5 1) .int 0 y11.2.2.2.1.length)])] _ (caps := []) (args0 := [(.agg [(ai y60.1), (.tree (.pair .int (.pair .int .int)) y60.2.1), (.tree .int y60.2.2.1), (.tree .int y60.2.2.2.1)]), (.agg [(ai y11.1), (.tree (.pair .int (.pair .int .int)) y11.2.1), (.tree .int y11.2.2.1), (.tree .int y11.2.2.2.1)])]) trivial (gm_cons (gd_agg (gm_cons (by kernel_rfl) (gm_cons (gd_own (e := 59) (by kernel_rfl) rfl) (gm_cons (gd_own (e := 3) (by kernel_rfl) rfl) (gm_cons (gd_own (e := 3) (by kernel_rfl) rfl) gm_nil))))) (gm_cons (gd_agg (gm_cons (by kernel_rfl) (gm_cons (gd_own (e := 59) (by kernel_rfl) rfl) (gm_cons (gd_own (e := 3) (by kernel_rfl) rfl) (gm_cons (gd_own (e := 3) (by kernel_rfl) rfl) gm_nil))))) gm_nil)) (ok_laws_eqNetwork h63) hb_laws_eqNetwork ?_
      refine rs0 (.bool (!y63)) (by kernel_rfl) ?_
      refine rs0 (.bool (!y63)) (by kernel_rfl) ?_
      refine rs0 (.tup []) (s_skip (by kernel_rfl) q64) ?_
      refine rs0 (.tup []) (s_skip (by kernel_rfl) q64) ?_
      refine rs0 (.tup []) (s_skip (by kernel_rfl) q64) ?_
      refine rs0 (.bool true) (s_pickT (by kernel_rfl) q64) ?_
      refine rnil (tn_ ?_)
      obtain rfl := Option.some.inj h
      exact ⟨_, ((weak_ob_ (oi 2 1) (.cells 30 [(ai y15.1), (.own (oi 6 1) (.pair .int (.pair .int .int)) 0 y15.2.1.length), (.own (oi 7 1) .int 0 y15.2.2.1.length), (.own (oi 8 1) .int 0 y15.2.2.2.1.length)]) (.cells 30 [(ai y15.1), (.own (oi 6 1) (.pair .int (.pair .int .int)) 0 y43.1.length), (.own (oi 7 1) .int 0 y15.2.2.1.length), (.own (oi 8 1) .int 0 y15.2.2.2.1.length)]) (by kernel_rfl) (congrArg (fun z_ => (.cells 30 [(ai y15.1), (.own (oi 6 1) (.pair .int (.pair .int .int)) 0 z_), (.own (oi 7 1) .int 0 y15.2.2.1.length), (.own (oi 8 1) .int 0 y15.2.2.2.1.length)] : Ob)) (g44.symm : y15.2.1.length = y43.1.length))).trans ((weak_ob_ (oi 2 1) (.cells 30 [(ai y15.1), (.own (oi 6 1) (.pair .int (.pair .int .int)) 0 y43.1.length), (.own (oi 7 1) .int 0 y15.2.2.1.length), (.own (oi 8 1) .int 0 y15.2.2.2.1.length)]) (.cells 30 [(ai y15.1), (.own (oi 6 1) (.pair .int (.pair .int .int)) 0 y43.1.length), (.own (oi 7 1) .int 0 y43.2.1.length), (.own (oi 8 1) .int 0 y15.2.2.2.1.length)]) (by kernel_rfl) (congrArg (fun z_ => (.cells 30 [(ai y15.1), (.own (oi 6 1) (.pair .int (.pair .int .int)) 0 y43.1.length), (.own (oi 7 1) .int 0 z_), (.own (oi 8 1) .int 0 y15.2.2.2.1.length)] : Ob)) (g45.symm : y15.2.2.1.length = y43.2.1.length))).trans ((weak_ob_ (oi 2 1) (.cells 30 [(ai y15.1), (.own (oi 6 1) (.pair .int (.pair .int .int)) 0 y43.1.length), (.own (oi 7 1) .int 0 y43.2.1.length), (.own (oi 8 1) .int 0 y15.2.2.2.1.length)]) (.cells 30 [(ai y15.1), (.own (oi 6 1) (.pair .int (.pair .int .int)) 0 y43.1.length), (.own (oi 7 1) .int 0 y43.2.1.length), (.own (oi 8 1) .int 0 y43.2.2.1.length)]) (by kernel_rfl) (congrArg (fun z_ => (.cells 30 [(ai y15.1), (.own (oi 6 1) (.pair .int (.pair .int .int)) 0 y43.1.length), (.own (oi 7 1) .int 0 y43.2.1.length), (.own (oi 8 1) .int 0 z_)] : Ob)) (g46.symm : y15.2.2.2.1.length = y43.2.2.1.length))).trans (weak_ren [((oi 0 1), (oi 2 1)), ((oi 1 1), (oi 6 1)), ((oi 2 1), (oi 7 1)), ((oi 3 1), (oi 8 1))])))), rfl⟩
    refine awp_region_ 36 ?_
    refine rsl (.agg [(ai y60.1), (.own (oi 1296 20) (.pair .int (.pair .int .int)) 0 y60.2.1.length), (.own (oi 1297 20) .int 0 y60.2.2.1.length), (.own (oi 1298 20) .int 0 y60.2.2.2.1.length)]) (by kernel_rfl) ?_
    refine rsl (.agg [(ai y11.1), (.own (oi 3 1) (.pair .int (.pair .int .int)) 0 y11.2.1.length), (.own (oi 4 1) .int 0 y11.2.2.1.length), (.own (oi 5 1) .int 0 y11.2.2.2.1.length)]) (by kernel_rfl) ?_
    refine rcall (.bool y63) [] [(.agg [(ai y60.1), (.own (oi 1296 20) (.pair .int (.pair .int .int)) 0 y60.2.1.length), (.own (oi 1297 20) .int 0 y60.2.2.1.length), (.own (oi 1298 20) .int 0 y60.2.2.2.1.length)]), (.agg [(ai y11.1), (.own (oi 3 1) (.pair .int (.pair .int .int)) 0 y11.2.1.length), (.own (oi 4 1) .int 0 y11.2.2.1.length), (.own (oi 5 1) .int 0 y11.2.2.2.1.length)])] _ (caps := []) (args0 := [(.agg [(ai y60.1), (.tree (.pair .int (.pair .int .int)) y60.2.1), (.tree .int y60.2.2.1), (.tree .int y60.2.2.2.1)]), (.agg [(ai y11.1), (.tree (.pair .int (.pair .int .int)) y11.2.1), (.tree .int y11.2.2.1), (.tree .int y11.2.2.2.1)])]) trivial (gm_cons (gd_agg (gm_cons (by kernel_rfl) (gm_cons (gd_own (e := 59) (by kernel_rfl) rfl) (gm_cons (gd_own (e := 3) (by kernel_rfl) rfl) (gm_cons (gd_own (e := 3) (by kernel_rfl) rfl) gm_nil))))) (gm_cons (gd_agg (gm_cons (by kernel_rfl) (gm_cons (gd_own (e := 59) (by kernel_rfl) rfl) (gm_cons (gd_own (e := 3) (by kernel_rfl) rfl) (gm_cons (gd_own (e := 3) (by kernel_rfl) rfl) gm_nil))))) gm_nil)) (ok_laws_eqNetwork h63) hb_laws_eqNetwork ?_
    refine rs0 (.bool (!y63)) (by kernel_rfl) ?_
    refine rs0 (.bool (!y63)) (by kernel_rfl) ?_
    refine rs0 (.bool y60.2.2.2.2) (s_gd (by kernel_rfl) q64 (by kernel_rfl)) ?_
    refine rs0 (.bool y11.2.2.2.2) (s_gd (by kernel_rfl) q64 (by kernel_rfl)) ?_
    refine rs0 (.bool (y60.2.2.2.2 != y11.2.2.2.2)) (s_gd (by kernel_rfl) q64 (by kernel_rfl)) ?_
    refine rs0 (.bool (y60.2.2.2.2 != y11.2.2.2.2)) (s_pickF (by kernel_rfl) q64) ?_
    refine rnil (tn_ ?_)
    obtain rfl := Option.some.inj h
    exact ⟨_, ((weak_ob_ (oi 2 1) (.cells 30 [(ai y15.1), (.own (oi 6 1) (.pair .int (.pair .int .int)) 0 y15.2.1.length), (.own (oi 7 1) .int 0 y15.2.2.1.length), (.own (oi 8 1) .int 0 y15.2.2.2.1.length)]) (.cells 30 [(ai y15.1), (.own (oi 6 1) (.pair .int (.pair .int .int)) 0 y43.1.length), (.own (oi 7 1) .int 0 y15.2.2.1.length), (.own (oi 8 1) .int 0 y15.2.2.2.1.length)]) (by kernel_rfl) (congrArg (fun z_ => (.cells 30 [(ai y15.1), (.own (oi 6 1) (.pair .int (.pair .int .int)) 0 z_), (.own (oi 7 1) .int 0 y15.2.2.1.length), (.own (oi 8 1) .int 0 y15.2.2.2.1.length)] : Ob)) (g44.symm : y15.2.1.length = y43.1.length))).trans ((weak_ob_ (oi 2 1) (.cells 30 [(ai y15.1), (.own (oi 6 1) (.pair .int (.pair .int .int)) 0 y43.1.length), (.own (oi 7 1) .int 0 y15.2.2.1.length), (.own (oi 8 1) .int 0 y15.2.2.2.1.length)]) (.cells 30 [(ai y15.1), (.own (oi 6 1) (.pair .int (.pair .int .int)) 0 y43.1.length), (.own (oi 7 1) .int 0 y43.2.1.length), (.own (oi 8 1) .int 0 y15.2.2.2.1.length)]) (by kernel_rfl) (congrArg (fun z_ => (.cells 30 [(ai y15.1), (.own (oi 6 1) (.pair .int (.pair .int .int)) 0 y43.1.length), (.own (oi 7 1) .int 0 z_), (.own (oi 8 1) .int 0 y15.2.2.2.1.length)] : Ob)) (g45.symm : y15.2.2.1.length = y43.2.1.length))).trans ((weak_ob_ (oi 2 1) (.cells 30 [(ai y15.1), (.own (oi 6 1) (.pair .int (.pair .int .int)) 0 y43.1.length), (.own (oi 7 1) .int 0 y43.2.1.length), (.own (oi 8 1) .int 0 y15.2.2.2.1.length)]) (.cells 30 [(ai y15.1), (.own (oi 6 1) (.pair .int (.pair .int .int)) 0 y43.1.length), (.own (oi 7 1) .int 0 y43.2.1.length), (.own (oi 8 1) .int 0 y43.2.2.1.length)]) (by kernel_rfl) (congrArg (fun z_ => (.cells 30 [(ai y15.1), (.own (oi 6 1) (.pair .int (.pair .int .int)) 0 y43.1.length), (.own (oi 7 1) .int 0 y43.2.1.length), (.own (oi 8 1) .int 0 z_)] : Ob)) (g46.symm : y15.2.2.2.1.length = y43.2.2.1.length))).trans (weak_ren [((oi 0 1), (oi 2 1)), ((oi 1 1), (oi 6 1)), ((oi 2 1), (oi 7 1)), ((oi 3 1), (oi 8 1))])))), rfl⟩
  rintro l62_m92 _ rfl h
  (try dsimp only at h)
  rcases cond_some h with ⟨q65, h⟩ | ⟨q65, h⟩
  · refine awp_condT_ q65 ?_
    refine seqR ?_
    refine awp_ret_ (tr_ ?_)
    obtain rfl := Option.some.inj h
    exact ret_ [(.bool false)] (p_one rfl (l_sc (by kernel_rfl)) p_nil)
  refine awp_condF_ q65 ?_
  refine awp_skip_ (tn_ ?_)
  refine ⟨_, Weak.refl _, ?_⟩
  refine seqR ?_
  refine awp_seqv_ ?_
  obtain ⟨y69, h69, h⟩ := ob_some h
  refine awp_region_ 7 ?_
  refine rsl (.agg [(ai y15.1), (.own (oi 1 1) (.pair .int (.pair .int .int)) 0 y43.1.length), (.own (oi 2 1) .int 0 y43.2.1.length), (.own (oi 3 1) .int 0 y43.2.2.1.length)]) (by kernel_rfl) ?_
  refine rs0 (ai 1) (by kernel_rfl) ?_
  refine rcall (ai y69) [] [(.agg [(ai y15.1), (.own (oi 1 1) (.pair .int (.pair .int .int)) 0 y43.1.length), (.own (oi 2 1) .int 0 y43.2.1.length), (.own (oi 3 1) .int 0 y43.2.2.1.length)]), (ai 1)] _ (caps := []) (args0 := [(.agg [(ai y15.1), (.tree (.pair .int (.pair .int .int)) y43.1), (.tree .int y43.2.1), (.tree .int y43.2.2.1)]), (ai 1)]) trivial (gm_cons (gd_agg (gm_cons (by kernel_rfl) (gm_cons (gd_own (e := 59) (by kernel_rfl) rfl) (gm_cons (gd_own (e := 3) (by kernel_rfl) rfl) (gm_cons (gd_own (e := 3) (by kernel_rfl) rfl) gm_nil))))) (gm_cons (by kernel_rfl) gm_nil)) (ok_laws_heldNetwork h69) hb_laws_heldNetwork ?_
  refine rsB 1 ?_
  refine rnil (tn_ ?_)
  refine ⟨_, Weak.refl _, ?_⟩
  refine awp_seqv_ ?_
  refine seqR ?_
  rcases cond_some h with ⟨q72, h⟩ | ⟨q72, h⟩
  · have q72_ := of_decide_eq_true q72
    refine awp_condT_ q72 ?_
    refine seqR ?_
    refine awp_ret_ (tr_ ?_)
    obtain rfl := Option.some.inj h
    exact ret_ [(.bool false)] (p_one rfl (l_sc (by kernel_rfl)) p_nil)
  have q72_ := of_decide_eq_false q72
  refine awp_condF_ q72 ?_
  refine awp_skip_ (tn_ ?_)
  refine ⟨_, Weak.refl _, ?_⟩
  refine awp_seqv_ ?_
  refine seqR ?_
  rcases cond_some h with ⟨q76, h⟩ | ⟨q76, h⟩
  · refine awp_condT_ q76 ?_
    refine seqR ?_
    refine awp_ret_ (tr_ ?_)
    obtain rfl := Option.some.inj h
    exact ret_ [(.bool false)] (p_one rfl (l_sc (by kernel_rfl)) p_nil)
  refine awp_condF_ q76 ?_
  refine awp_skip_ (tn_ ?_)
  refine ⟨_, Weak.refl _, ?_⟩
  refine seqR ?_
  refine awp_ret_ ?_
  obtain rfl := Option.some.inj h
  exact ret_ [(.bool true)] (p_one rfl (l_sc (by kernel_rfl)) p_nil)
end Go.Proofs.YtefolocdfgelcaaDoor
