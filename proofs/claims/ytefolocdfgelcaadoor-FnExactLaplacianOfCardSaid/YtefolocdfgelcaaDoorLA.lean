/- Partial functions in place of code, and that the code does what they say: LA. No condition. -/
import Derived.Test.YtefolocdfgelcaaDoorMB
namespace Go.Proofs.YtefolocdfgelcaaDoor
open Go.RowKit Go.Deep
set_option maxRecDepth 4000
def m_spec_fdAdd : AC :=
  (.seq (.region [⟨(some 6), none, (.i (.mov (.cst (.int .i64 0))))⟩] false [])
  (.seq (.region [⟨(some 7), none, (.i (.mov (.tmp 1)))⟩, ⟨(some 8), none, (.i (.mov (.tmp 2)))⟩, ⟨(some 9), none, (.i (.bin .add (.tmp 7) (.tmp 8)))⟩, ⟨(some 10), none, (.i (.mov (.tmp 0)))⟩, ⟨(some 11), none, (.i (.bin .rem (.tmp 9) (.tmp 10)))⟩, ⟨(some 6), none, (.i (.mov (.tmp 11)))⟩] false [])
  .ret))
def r_spec_fdAdd : List Res := [.tmp 6]
theorem c_spec_fdAdd : compiled Tryd.prog Tryd.f48 = some (m_spec_fdAdd, r_spec_fdAdd) := by kernel_rfl
theorem hb_spec_fdAdd : hasBody Tryd.prog 48 = true := by kernel_rfl
def L_spec_fdAdd (a0 : Int) (a1 : Int) (a2 : Int) : Option Int :=
  og (a0 ≠ 0) <|
some (Int.tmod (IntKind.i64.wrap (a1 + a2)) a0)
def rv_spec_fdAdd (r : Int) : RV := ⟨false, [(false, [.sc (.int .i64 r)])]⟩
theorem ok_spec_fdAdd {a0 : Int} {a1 : Int} {a2 : Int} {r : Int} (h : L_spec_fdAdd a0 a1 a2 = some r) : CallOK Tryd.prog Tab 48 [(.int .i64 a0), (.int .i64 a1), (.int .i64 a2)] (rv_spec_fdAdd r) := by
  refine call_of_ (by kernel_rfl) Tryd.func48 c_spec_fdAdd (n := 12) (by kernel_rfl) (by simp) (tl := [(0, (.int .i64 a0)), (1, (.int .i64 a1)), (2, (.int .i64 a2))]) rfl ?_
  unfold m_spec_fdAdd
  unfold L_spec_fdAdd at h
  refine awp_seqv_ ?_
  refine awp_region_ 2 (by kernel_rfl) ?_
  refine rs0 (.int .i64 0) (by kernel_rfl) ?_
  refine rnil (tn_ ?_)
  refine ⟨_, Weak.refl _, ?_⟩
  refine awp_seqv_ ?_
  obtain ⟨g3, h⟩ := og_some h
  refine awp_region_ 8 (by kernel_rfl) ?_
  refine rs0 (.int .i64 a1) (by kernel_rfl) ?_
  refine rs0 (.int .i64 a2) (by kernel_rfl) ?_
  refine rs0 (.int .i64 (IntKind.i64.wrap (a1 + a2))) (by kernel_rfl) ?_
  refine rs0 (.int .i64 a0) (by kernel_rfl) ?_
  refine rs0 (.int .i64 (Int.tmod (IntKind.i64.wrap (a1 + a2)) a0)) (s_rem (k := .i64) (a := IntKind.i64.wrap (a1 + a2)) (b := a0) (by kernel_rfl) (by kernel_rfl) g3) ?_
  refine rs0 (.int .i64 (Int.tmod (IntKind.i64.wrap (a1 + a2)) a0)) (by kernel_rfl) ?_
  refine rnil (tn_ ?_)
  refine ⟨_, Weak.refl _, ?_⟩
  refine awp_ret_ ?_
  obtain rfl := Option.some.inj h
  exact ret_ [(.int .i64 (Int.tmod (IntKind.i64.wrap (a1 + a2)) a0))] (by simp) (by kernel_rfl) (p_one rfl (l_sc (by kernel_rfl)) p_nil) (by kernel_rfl) (by kernel_rfl)
def m_spec_fdSub : AC :=
  (.seq (.region [⟨(some 6), none, (.i (.mov (.cst (.int .i64 0))))⟩] false [])
  (.seq (.region [⟨(some 7), none, (.i (.mov (.tmp 1)))⟩, ⟨(some 8), none, (.i (.mov (.tmp 0)))⟩, ⟨(some 9), none, (.i (.bin .add (.tmp 7) (.tmp 8)))⟩, ⟨(some 10), none, (.i (.mov (.tmp 2)))⟩, ⟨(some 11), none, (.i (.bin .sub (.tmp 9) (.tmp 10)))⟩, ⟨(some 12), none, (.i (.mov (.tmp 0)))⟩, ⟨(some 13), none, (.i (.bin .rem (.tmp 11) (.tmp 12)))⟩, ⟨(some 6), none, (.i (.mov (.tmp 13)))⟩] false [])
  .ret))
def r_spec_fdSub : List Res := [.tmp 6]
theorem c_spec_fdSub : compiled Tryd.prog Tryd.f47 = some (m_spec_fdSub, r_spec_fdSub) := by kernel_rfl
theorem hb_spec_fdSub : hasBody Tryd.prog 47 = true := by kernel_rfl
def L_spec_fdSub (a0 : Int) (a1 : Int) (a2 : Int) : Option Int :=
  og (a0 ≠ 0) <|
some (Int.tmod (IntKind.i64.wrap ((IntKind.i64.wrap (a1 + a0)) - a2)) a0)
def rv_spec_fdSub (r : Int) : RV := ⟨false, [(false, [.sc (.int .i64 r)])]⟩
theorem ok_spec_fdSub {a0 : Int} {a1 : Int} {a2 : Int} {r : Int} (h : L_spec_fdSub a0 a1 a2 = some r) : CallOK Tryd.prog Tab 47 [(.int .i64 a0), (.int .i64 a1), (.int .i64 a2)] (rv_spec_fdSub r) := by
  refine call_of_ (by kernel_rfl) Tryd.func47 c_spec_fdSub (n := 14) (by kernel_rfl) (by simp) (tl := [(0, (.int .i64 a0)), (1, (.int .i64 a1)), (2, (.int .i64 a2))]) rfl ?_
  unfold m_spec_fdSub
  unfold L_spec_fdSub at h
  refine awp_seqv_ ?_
  refine awp_region_ 2 (by kernel_rfl) ?_
  refine rs0 (.int .i64 0) (by kernel_rfl) ?_
  refine rnil (tn_ ?_)
  refine ⟨_, Weak.refl _, ?_⟩
  refine awp_seqv_ ?_
  obtain ⟨g3, h⟩ := og_some h
  refine awp_region_ 10 (by kernel_rfl) ?_
  refine rs0 (.int .i64 a1) (by kernel_rfl) ?_
  refine rs0 (.int .i64 a0) (by kernel_rfl) ?_
  refine rs0 (.int .i64 (IntKind.i64.wrap (a1 + a0))) (by kernel_rfl) ?_
  refine rs0 (.int .i64 a2) (by kernel_rfl) ?_
  refine rs0 (.int .i64 (IntKind.i64.wrap ((IntKind.i64.wrap (a1 + a0)) - a2))) (by kernel_rfl) ?_
  refine rs0 (.int .i64 a0) (by kernel_rfl) ?_
  refine rs0 (.int .i64 (Int.tmod (IntKind.i64.wrap ((IntKind.i64.wrap (a1 + a0)) - a2)) a0)) (s_rem (k := .i64) (a := IntKind.i64.wrap ((IntKind.i64.wrap (a1 + a0)) - a2)) (b := a0) (by kernel_rfl) (by kernel_rfl) g3) ?_
  refine rs0 (.int .i64 (Int.tmod (IntKind.i64.wrap ((IntKind.i64.wrap (a1 + a0)) - a2)) a0)) (by kernel_rfl) ?_
  refine rnil (tn_ ?_)
  refine ⟨_, Weak.refl _, ?_⟩
  refine awp_ret_ ?_
  obtain rfl := Option.some.inj h
  exact ret_ [(.int .i64 (Int.tmod (IntKind.i64.wrap ((IntKind.i64.wrap (a1 + a0)) - a2)) a0))] (by simp) (by kernel_rfl) (p_one rfl (l_sc (by kernel_rfl)) p_nil) (by kernel_rfl) (by kernel_rfl)
def m_spec_nwLaplacian_l1 : AC :=
  (.seq (.region [⟨(some 17), none, (.i (.bin .lss (.tmp 16) (.tmp 15)))⟩] false [])
  (.seq (.cond (.tmp 17)
    .skip
    (.exit 0))
  (.seq (.block 1 (.seq (.region [⟨(some 18), none, (.i (.idx 3 (.tmp 14) (.tmp 16)))⟩, ⟨(some 19), none, (.i (.ld false 3 (.tmp 18)))⟩, ⟨(some 7), none, (.i (.alloc 59 [(.int .i64 0), (.int .i64 0), (.int .i64 0)]))⟩, ⟨none, none, (.st false 3 (.tmp 7) (.tmp 19))⟩] false [])
  (.seq (.region [⟨(some 20), none, (.i (.fld 1 (.tmp 5)))⟩, ⟨(some 21), none, (.i (.ld true 1 (.tmp 20)))⟩, ⟨(some 22), none, (.i (.fld 0 (.tmp 7)))⟩, ⟨(some 23), none, (.i (.ld true 1 (.tmp 22)))⟩, ⟨(some 24), none, (.i (.idx 1 (.tmp 21) (.tmp 23)))⟩, ⟨(some 25), none, (.i (.ld true 1 (.tmp 24)))⟩, ⟨(some 26), none, (.i (.fld 0 (.tmp 7)))⟩, ⟨(some 27), none, (.i (.ld true 1 (.tmp 26)))⟩, ⟨(some 28), none, (.i (.mov (.tmp 0)))⟩, ⟨(some 29), none, (.i (.fld 1 (.tmp 5)))⟩, ⟨(some 30), none, (.i (.ld true 1 (.tmp 29)))⟩, ⟨(some 31), none, (.i (.fld 0 (.tmp 7)))⟩, ⟨(some 32), none, (.i (.ld true 1 (.tmp 31)))⟩, ⟨(some 33), none, (.i (.idx 1 (.tmp 30) (.tmp 32)))⟩, ⟨(some 34), none, (.i (.ld true 1 (.tmp 33)))⟩, ⟨(some 35), none, (.i (.fld 0 (.tmp 7)))⟩, ⟨(some 36), none, (.i (.ld true 1 (.tmp 35)))⟩, ⟨(some 37), none, (.i (.idx 1 (.tmp 34) (.tmp 36)))⟩, ⟨(some 38), none, (.i (.ld true 1 (.tmp 37)))⟩, ⟨(some 39), none, (.i (.fld 2 (.tmp 7)))⟩, ⟨(some 40), none, (.i (.ld true 1 (.tmp 39)))⟩, ⟨(some 41), none, (.call (.cst (.fn 48 [])) [(.tmp 28), (.tmp 38), (.tmp 40)] [[], [], []])⟩, ⟨(some 42), none, (.i (.idx 1 (.tmp 25) (.tmp 27)))⟩, ⟨none, none, (.st true 1 (.tmp 42) (.tmp 41))⟩] true [(1, 21), (3, 21), (5, 21), (7, 21)])
  (.seq (.region [⟨(some 43), none, (.i (.fld 1 (.tmp 5)))⟩, ⟨(some 44), none, (.i (.ld true 1 (.tmp 43)))⟩, ⟨(some 45), none, (.i (.fld 1 (.tmp 7)))⟩, ⟨(some 46), none, (.i (.ld true 1 (.tmp 45)))⟩, ⟨(some 47), none, (.i (.idx 1 (.tmp 44) (.tmp 46)))⟩, ⟨(some 48), none, (.i (.ld true 1 (.tmp 47)))⟩, ⟨(some 49), none, (.i (.fld 1 (.tmp 7)))⟩, ⟨(some 50), none, (.i (.ld true 1 (.tmp 49)))⟩, ⟨(some 51), none, (.i (.mov (.tmp 0)))⟩, ⟨(some 52), none, (.i (.fld 1 (.tmp 5)))⟩, ⟨(some 53), none, (.i (.ld true 1 (.tmp 52)))⟩, ⟨(some 54), none, (.i (.fld 1 (.tmp 7)))⟩, ⟨(some 55), none, (.i (.ld true 1 (.tmp 54)))⟩, ⟨(some 56), none, (.i (.idx 1 (.tmp 53) (.tmp 55)))⟩, ⟨(some 57), none, (.i (.ld true 1 (.tmp 56)))⟩, ⟨(some 58), none, (.i (.fld 1 (.tmp 7)))⟩, ⟨(some 59), none, (.i (.ld true 1 (.tmp 58)))⟩, ⟨(some 60), none, (.i (.idx 1 (.tmp 57) (.tmp 59)))⟩, ⟨(some 61), none, (.i (.ld true 1 (.tmp 60)))⟩, ⟨(some 62), none, (.i (.fld 2 (.tmp 7)))⟩, ⟨(some 63), none, (.i (.ld true 1 (.tmp 62)))⟩, ⟨(some 64), none, (.call (.cst (.fn 48 [])) [(.tmp 51), (.tmp 61), (.tmp 63)] [[], [], []])⟩, ⟨(some 65), none, (.i (.idx 1 (.tmp 48) (.tmp 50)))⟩, ⟨none, none, (.st true 1 (.tmp 65) (.tmp 64))⟩] true [(1, 21), (3, 21), (5, 21), (7, 21)])
  (.seq (.region [⟨(some 66), none, (.i (.fld 1 (.tmp 5)))⟩, ⟨(some 67), none, (.i (.ld true 1 (.tmp 66)))⟩, ⟨(some 68), none, (.i (.fld 0 (.tmp 7)))⟩, ⟨(some 69), none, (.i (.ld true 1 (.tmp 68)))⟩, ⟨(some 70), none, (.i (.idx 1 (.tmp 67) (.tmp 69)))⟩, ⟨(some 71), none, (.i (.ld true 1 (.tmp 70)))⟩, ⟨(some 72), none, (.i (.fld 1 (.tmp 7)))⟩, ⟨(some 73), none, (.i (.ld true 1 (.tmp 72)))⟩, ⟨(some 74), none, (.i (.mov (.tmp 0)))⟩, ⟨(some 75), none, (.i (.fld 1 (.tmp 5)))⟩, ⟨(some 76), none, (.i (.ld true 1 (.tmp 75)))⟩, ⟨(some 77), none, (.i (.fld 0 (.tmp 7)))⟩, ⟨(some 78), none, (.i (.ld true 1 (.tmp 77)))⟩, ⟨(some 79), none, (.i (.idx 1 (.tmp 76) (.tmp 78)))⟩, ⟨(some 80), none, (.i (.ld true 1 (.tmp 79)))⟩, ⟨(some 81), none, (.i (.fld 1 (.tmp 7)))⟩, ⟨(some 82), none, (.i (.ld true 1 (.tmp 81)))⟩, ⟨(some 83), none, (.i (.idx 1 (.tmp 80) (.tmp 82)))⟩, ⟨(some 84), none, (.i (.ld true 1 (.tmp 83)))⟩, ⟨(some 85), none, (.i (.fld 2 (.tmp 7)))⟩, ⟨(some 86), none, (.i (.ld true 1 (.tmp 85)))⟩, ⟨(some 87), none, (.call (.cst (.fn 47 [])) [(.tmp 74), (.tmp 84), (.tmp 86)] [[], [], []])⟩, ⟨(some 88), none, (.i (.idx 1 (.tmp 71) (.tmp 73)))⟩, ⟨none, none, (.st true 1 (.tmp 88) (.tmp 87))⟩] true [(1, 21), (3, 21), (5, 21), (7, 21)])
  (.region [⟨(some 89), none, (.i (.fld 1 (.tmp 5)))⟩, ⟨(some 90), none, (.i (.ld true 1 (.tmp 89)))⟩, ⟨(some 91), none, (.i (.fld 1 (.tmp 7)))⟩, ⟨(some 92), none, (.i (.ld true 1 (.tmp 91)))⟩, ⟨(some 93), none, (.i (.idx 1 (.tmp 90) (.tmp 92)))⟩, ⟨(some 94), none, (.i (.ld true 1 (.tmp 93)))⟩, ⟨(some 95), none, (.i (.fld 0 (.tmp 7)))⟩, ⟨(some 96), none, (.i (.ld true 1 (.tmp 95)))⟩, ⟨(some 97), none, (.i (.mov (.tmp 0)))⟩, ⟨(some 98), none, (.i (.fld 1 (.tmp 5)))⟩, ⟨(some 99), none, (.i (.ld true 1 (.tmp 98)))⟩, ⟨(some 100), none, (.i (.fld 1 (.tmp 7)))⟩, ⟨(some 101), none, (.i (.ld true 1 (.tmp 100)))⟩, ⟨(some 102), none, (.i (.idx 1 (.tmp 99) (.tmp 101)))⟩, ⟨(some 103), none, (.i (.ld true 1 (.tmp 102)))⟩, ⟨(some 104), none, (.i (.fld 0 (.tmp 7)))⟩, ⟨(some 105), none, (.i (.ld true 1 (.tmp 104)))⟩, ⟨(some 106), none, (.i (.idx 1 (.tmp 103) (.tmp 105)))⟩, ⟨(some 107), none, (.i (.ld true 1 (.tmp 106)))⟩, ⟨(some 108), none, (.i (.fld 2 (.tmp 7)))⟩, ⟨(some 109), none, (.i (.ld true 1 (.tmp 108)))⟩, ⟨(some 110), none, (.call (.cst (.fn 47 [])) [(.tmp 97), (.tmp 107), (.tmp 109)] [[], [], []])⟩, ⟨(some 111), none, (.i (.idx 1 (.tmp 94) (.tmp 96)))⟩, ⟨none, none, (.st true 1 (.tmp 111) (.tmp 110))⟩] true [(1, 21), (3, 21), (5, 21), (7, 21)]))))))
  (.region [⟨(some 112), none, (.i (.bin .add (.tmp 16) (.cst (.int .i64 1))))⟩, ⟨(some 16), none, (.i (.mov (.tmp 112)))⟩] false []))))
def m_spec_nwLaplacian : AC :=
  (.seq (.region [⟨(some 3), none, (.i (.box 30 (.tmp 1)))⟩, ⟨(some 4), none, (.i (.alloc 44 [(.int .i64 0), .nils]))⟩] false [])
  (.seq (.region [⟨(some 8), none, (.i (.fld 0 (.tmp 3)))⟩, ⟨(some 9), none, (.i (.ld true 1 (.tmp 8)))⟩, ⟨(some 10), none, (.i (.fld 0 (.tmp 3)))⟩, ⟨(some 11), none, (.i (.ld true 1 (.tmp 10)))⟩, ⟨(some 12), none, (.call (.cst (.fn 96 [])) [(.tmp 9), (.tmp 11)] [[], []])⟩, ⟨(some 5), none, (.i (.alloc 44 [(.int .i64 0), .nils]))⟩, ⟨none, none, (.st false 2 (.tmp 5) (.tmp 12))⟩] false [])
  (.seq (.seq (.region [⟨(some 13), none, (.i (.fld 1 (.tmp 3)))⟩, ⟨(some 14), none, (.i (.ld true 1 (.tmp 13)))⟩, ⟨(some 15), none, (.i (.len (.tmp 14)))⟩, ⟨(some 16), none, (.i (.mov (.cst (.int .i64 0))))⟩] false [])
  (.block 0 (.loop m_spec_nwLaplacian_l1)))
  (.seq (.region [⟨(some 113), none, (.i (.ld false 2 (.tmp 5)))⟩, ⟨none, none, (.st false 2 (.tmp 4) (.tmp 113))⟩] false [])
  .ret))))
def r_spec_nwLaplacian : List Res := [.cell 4 false 2]
theorem c_spec_nwLaplacian : compiled Tryd.prog Tryd.f59 = some (m_spec_nwLaplacian, r_spec_nwLaplacian) := by kernel_rfl
theorem hb_spec_nwLaplacian : hasBody Tryd.prog 59 = true := by kernel_rfl
def L_spec_nwLaplacian_l1 (a1_1 : List (Int × Int × Int)) (a0 : Int) (l7_m16 : Nat) (l7_m5_1 : List (List Int)) : Option (Ctl (Nat × List (List Int)) (List (List Int))) :=
  cond (decide (((l7_m16 : Nat) : Int) < ((a1_1.length : Nat) : Int)))
  (Option.bind (a1_1[l7_m16]?) fun x13 =>
  Option.bind (getI l7_m5_1 x13.1) fun x15 =>
  Option.bind (getI x15 x13.1) fun x16 =>
  Option.bind (L_spec_fdAdd a0 x16 x13.2.2) fun y17 =>
  Option.bind (getI (l7_m5_1.set x13.1.toNat (x15.set x13.1.toNat y17)) x13.2.1) fun x19 =>
  Option.bind (getI x19 x13.2.1) fun x20 =>
  Option.bind (L_spec_fdAdd a0 x20 x13.2.2) fun y21 =>
  Option.bind (getI ((l7_m5_1.set x13.1.toNat (x15.set x13.1.toNat y17)).set x13.2.1.toNat (x19.set x13.2.1.toNat y21)) x13.1) fun x23 =>
  Option.bind (getI x23 x13.2.1) fun x24 =>
  Option.bind (L_spec_fdSub a0 x24 x13.2.2) fun y25 =>
  Option.bind (getI (((l7_m5_1.set x13.1.toNat (x15.set x13.1.toNat y17)).set x13.2.1.toNat (x19.set x13.2.1.toNat y21)).set x13.1.toNat (x23.set x13.2.1.toNat y25)) x13.2.1) fun x26 =>
  Option.bind (getI x26 x13.1) fun x27 =>
  Option.bind (L_spec_fdSub a0 x27 x13.2.2) fun y28 =>
  og (l7_m16 + 1 < 4611686018427387904) <|
  some (Ctl.next (l7_m16 + 1, (((l7_m5_1.set x13.1.toNat (x15.set x13.1.toNat y17)).set x13.2.1.toNat (x19.set x13.2.1.toNat y21)).set x13.1.toNat (x23.set x13.2.1.toNat y25)).set x13.2.1.toNat (x26.set x13.1.toNat y28))))
  (some (Ctl.out l7_m5_1))
def L_spec_nwLaplacian (a0 : Int) (a1_0 : Int) (a1_1 : List (Int × Int × Int)) (a1_2 : List Int) (a1_3 : List Int) : Option (List (List Int)) :=
  Option.bind (L_spec_mxZero a1_0 a1_0) fun y4 =>
Option.bind (loopM (fun s_ : Nat × List (List Int) => L_spec_nwLaplacian_l1 a1_1 a0 s_.1 s_.2) 4611686018427387904 (0, y4)) fun l5_m5_1 =>
some l5_m5_1
theorem ok_spec_nwLaplacian {a0 : Int} {a1_0 : Int} {a1_1 : List (Int × Int × Int)} {a1_2 : List Int} {a1_3 : List Int} {r : List (List Int)} (h : L_spec_nwLaplacian a0 a1_0 a1_1 a1_2 a1_3 = some r) : CallM Tryd.prog Tab 59 [(.int .i64 a0), (.agg [(.int .i64 a1_0), (.tree (.pair .int (.pair .int .int)) a1_1), (.tree .int a1_2), (.tree .int a1_3)])] [] (.agg [(.int .i64 a1_0), (.own ((1, 0), 1) (.slice .int) 0 r.length)]) [(((0, 0), 1), .cells 44 [(.int .i64 a1_0), (.own ((1, 0), 1) (.slice .int) 0 r.length)]), (((1, 0), 1), .mat 23 ((2, 0), 1) .int r), (((2, 0), 1), .pool 3 .int r)] := by
  refine callM_of_ (by kernel_rfl) Tryd.func59 c_spec_nwLaplacian (n := 114) (by kernel_rfl) (by simp) (tl := [(0, (.int .i64 a0)), (1, (.agg [(.int .i64 a1_0), (.tree (.pair .int (.pair .int .int)) a1_1), (.tree .int a1_2), (.tree .int a1_3)]))]) rfl (by kernel_rfl) trivial ⟨trivial, ⟨⟨3, (.tail _ (.tail _ (.head _)))⟩, ⟨trivial, trivial⟩⟩⟩ ?_
  unfold m_spec_nwLaplacian
  unfold L_spec_nwLaplacian at h
  refine awp_seqv_ ?_
  refine awp_region_ 3 (by kernel_rfl) ?_
  refine rs1 (.box ((3, 0), 1) 0) ((3, 0), 1) (.cells 30 [(.int .i64 a1_0), (.tree (.pair .int (.pair .int .int)) a1_1), (.tree .int a1_2), (.tree .int a1_3)]) (by kernel_rfl) ?_
  refine rs1 (.box ((4, 0), 2) 0) ((4, 0), 2) (.cells 44 [(.int .i64 0), .nils]) (by kernel_rfl) ?_
  refine rnil (tn_ ?_)
  refine ⟨_, Weak.refl _, ?_⟩
  refine awp_seqv_ ?_
  obtain ⟨y4, h4, h⟩ := ob_some h
  refine awp_region_ 10 (by kernel_rfl) ?_
  refine rs0 (.box ((3, 0), 1) 0) (by kernel_rfl) ?_
  refine rsl (.int .i64 a1_0) (by kernel_rfl) ?_
  refine rs0 (.box ((3, 0), 1) 0) (by kernel_rfl) ?_
  refine rsl (.int .i64 a1_0) (by kernel_rfl) ?_
  refine rcallM (.agg [(.int .i64 a1_0), (.own ((193, 0), 7) (.slice .int) 0 y4.length)]) [(((192, 0), 7), some (.cells 44 [(.int .i64 a1_0), (.own ((193, 0), 7) (.slice .int) 0 y4.length)])), (((193, 0), 7), some (.mat 23 ((194, 0), 7) .int y4)), (((194, 0), 7), some (.pool 3 .int y4))] [] [(.int .i64 a1_0), (.int .i64 a1_0)] (caps := []) trivial (by kernel_rfl) (by kernel_rfl) (ok_spec_mxZero h4) hb_spec_mxZero (by kernel_rfl) trivial (.cons (.ren (by kernel_rfl)) (.cons (.ren (by kernel_rfl)) .nil)) (reachL_mem (by kernel_rfl) (by kernel_rfl) trivial) (by kernel_rfl) (by kernel_rfl) ?_
  refine rs1 (.box ((5, 0), 8) 0) ((5, 0), 8) (.cells 44 [(.int .i64 0), .nils]) (by kernel_rfl) ?_
  refine rsn2 ((5, 0), 8) ((5, 0), 8) (.cells 44 [(.int .i64 a1_0), (.own ((193, 0), 7) (.slice .int) 0 y4.length)]) (by kernel_rfl) ?_
  refine rnil (tn_ ?_)
  refine ⟨_, Weak.refl _, ?_⟩
  refine awp_seqB h (fun (l5_m5_1 : List (List Int)) S_ => S_ = ⟨mkTm [(4, (.box ((0, 0), 1) 0)), (5, (.box ((1, 0), 1) 0))], mkOb (someL [(((0, 0), 1), .cells 44 [(.int .i64 0), .nils]), (((1, 0), 1), .cells 44 [(.int .i64 a1_0), (.own ((2, 0), 1) (.slice .int) 0 l5_m5_1.length)]), (((2, 0), 1), .mat 23 ((3, 0), 1) .int l5_m5_1), (((3, 0), 1), .pool 3 .int l5_m5_1)]), 2⟩) ?_ ?_
  · intro v_ h
    refine awp_seqv_ ?_
    refine awp_region_ 14 (by kernel_rfl) ?_
    refine rs0 (.box ((3, 0), 1) 1) (by kernel_rfl) ?_
    refine rsl (.tree (.pair .int (.pair .int .int)) a1_1) (by kernel_rfl) ?_
    refine rs0 (.int .i64 ((a1_1.length : Nat) : Int)) (by kernel_rfl) ?_
    refine rs0 (.int .i64 0) (by kernel_rfl) ?_
    refine rnil (tn_ ?_)
    refine ⟨_, Weak.refl _, ?_⟩
    refine awp_block_ ?_
    refine awp_loopL h (fun t_ S_ => ∃ (l7_m16 : Nat), ∃ (l7_m5_1 : List (List Int)), t_ = (l7_m16, l7_m5_1) ∧ S_ = ⟨mkTm [(0, (.int .i64 a0)), (4, (.box ((0, 0), 1) 0)), (5, (.box ((1, 0), 1) 0)), (14, (.tree (.pair .int (.pair .int .int)) a1_1)), (15, (.int .i64 ((a1_1.length : Nat) : Int))), (16, (.int .i64 ((l7_m16 : Nat) : Int)))], mkOb (someL [(((0, 0), 1), .cells 44 [(.int .i64 0), .nils]), (((1, 0), 1), .cells 44 [(.int .i64 a1_0), (.own ((2, 0), 1) (.slice .int) 0 l7_m5_1.length)]), (((2, 0), 1), .mat 23 ((3, 0), 1) .int l7_m5_1), (((3, 0), 1), .pool 3 .int l7_m5_1)]), 2⟩) ⟨_, (weak_ren [(((0, 0), 1), ((4, 0), 2)), (((1, 0), 1), ((5, 0), 8)), (((2, 0), 1), ((193, 0), 7)), (((3, 0), 1), ((194, 0), 7))] (by kernel_rfl) (obsR_of (by kernel_rfl)) (by kernel_rfl)), ⟨0, y4, rfl, rfl⟩⟩ ?_
    · rintro n_ _ _ c_ ⟨l7_m16, l7_m5_1, rfl, rfl⟩ h hn7
      (try dsimp only at h)
      unfold L_spec_nwLaplacian_l1 at h
      unfold m_spec_nwLaplacian_l1
      refine awp_seqv_ ?_
      refine awp_region_ 3 (by kernel_rfl) ?_
      refine rs0 (.bool (decide (((l7_m16 : Nat) : Int) < ((a1_1.length : Nat) : Int)))) (by kernel_rfl) ?_
      refine rnil (tn_ ?_)
      refine ⟨_, Weak.refl _, ?_⟩
      refine awp_seqv_ ?_
      rcases cond_some h with ⟨q10, h⟩ | ⟨q10, h⟩
      · have q10_ := of_decide_eq_true q10
        refine awp_condT_ q10 (by kernel_rfl) ?_
        refine awp_skip_ (tn_ ?_)
        refine ⟨_, Weak.refl _, ?_⟩
        refine awp_seqv_ ?_
        refine awp_block_ ?_
        refine awp_seqv_ ?_
        obtain ⟨x13, e13, h⟩ := ob_some h
        refine awp_region_ 7 (by kernel_rfl) ?_
        refine rs0 (.telt (.pair .int (.pair .int .int)) x13 0) (s_idxT (t := (.pair .int (.pair .int .int))) (xs := a1_1) (k := .i64) (m := ((l7_m16 : Nat) : Int)) (by kernel_rfl) (by kernel_rfl) rfl (nat_nn _) rfl e13) ?_
        refine rs0 (.agg [(.int .i64 x13.1), (.int .i64 x13.2.1), (.int .i64 x13.2.2)]) (by kernel_rfl) ?_
        refine rs1 (.box ((7, 0), 5) 0) ((7, 0), 5) (.cells 59 [(.int .i64 0), (.int .i64 0), (.int .i64 0)]) (by kernel_rfl) ?_
        refine rsn2 ((7, 0), 5) ((7, 0), 5) (.cells 59 [(.int .i64 x13.1), (.int .i64 x13.2.1), (.int .i64 x13.2.2)]) (by kernel_rfl) ?_
        refine rnil (tn_ ?_)
        refine ⟨_, Weak.refl _, ?_⟩
        refine awp_seqv_ ?_
        obtain ⟨x15, f15, h⟩ := ob_some h
        obtain ⟨p15, b15, e15⟩ := getI_some f15
        obtain ⟨x16, f16, h⟩ := ob_some h
        obtain ⟨p16, b16, e16⟩ := getI_some f16
        obtain ⟨y17, h17, h⟩ := ob_some h
        refine awp_regionD_ 31 (by kernel_rfl) ?_
        refine ds0 (.box ((1, 0), 1) 1) (by kernel_rfl) ?_
        refine dsl (.own ((2, 0), 1) (.slice .int) 0 l7_m5_1.length) (by kernel_rfl) ?_
        refine ds0 (.box ((7, 0), 5) 0) (by kernel_rfl) ?_
        refine dsl (.int .i64 x13.1) (by kernel_rfl) ?_
        refine ds0 (.elt ((2, 0), 1) x13.1.toNat 0) (s_idxO (t := (.slice .int)) (o := ((2, 0), 1)) (len := l7_m5_1.length) (k := .i64) (m := x13.1) (by kernel_rfl) (by kernel_rfl) rfl p15 rfl (getN_lt e15)) ?_
        refine dsl (.own (kid ((3, 0), 1) x13.1.toNat) .int 0 x15.length) (s_ldM (o := ((2, 0), 1)) (p := ((3, 0), 1)) (e1 := 23) (u := .int) (xss := l7_m5_1) (row := x15) (j := x13.1.toNat) (by kernel_rfl) (by kernel_rfl) e15) ?_
        refine ds0 (.box ((7, 0), 5) 0) (by kernel_rfl) ?_
        refine dsl (.int .i64 x13.1) (by kernel_rfl) ?_
        refine ds0 (.int .i64 a0) (by kernel_rfl) ?_
        refine ds0 (.box ((1, 0), 1) 1) (by kernel_rfl) ?_
        refine dsl (.own ((2, 0), 1) (.slice .int) 0 l7_m5_1.length) (by kernel_rfl) ?_
        refine ds0 (.box ((7, 0), 5) 0) (by kernel_rfl) ?_
        refine dsl (.int .i64 x13.1) (by kernel_rfl) ?_
        refine ds0 (.elt ((2, 0), 1) x13.1.toNat 0) (s_idxO (t := (.slice .int)) (o := ((2, 0), 1)) (len := l7_m5_1.length) (k := .i64) (m := x13.1) (by kernel_rfl) (by kernel_rfl) rfl p15 rfl (getN_lt e15)) ?_
        refine dsl (.own (kid ((3, 0), 1) x13.1.toNat) .int 0 x15.length) (s_ldM (o := ((2, 0), 1)) (p := ((3, 0), 1)) (e1 := 23) (u := .int) (xss := l7_m5_1) (row := x15) (j := x13.1.toNat) (by kernel_rfl) (by kernel_rfl) e15) ?_
        refine ds0 (.box ((7, 0), 5) 0) (by kernel_rfl) ?_
        refine dsl (.int .i64 x13.1) (by kernel_rfl) ?_
        refine ds0 (.elt (kid ((3, 0), 1) x13.1.toNat) x13.1.toNat 0) (s_idxO (t := .int) (o := (kid ((3, 0), 1) x13.1.toNat)) (len := x15.length) (k := .i64) (m := x13.1) (by kernel_rfl) (by kernel_rfl) rfl p16 rfl (getN_lt e16)) ?_
        refine dsl (.int .i64 x16) (s_ldE (i := (kid ((3, 0), 1) x13.1.toNat)) (j := x13.1.toNat) (k := 0) (e := 3) (t := .int) (xs := x15) (by kernel_rfl) (only1.trans (mkOb_kid (by kernel_rfl) e15)) e16 (by kernel_rfl)) ?_
        refine ds0 (.box ((7, 0), 5) 2) (by kernel_rfl) ?_
        refine dsl (.int .i64 x13.2.2) (by kernel_rfl) ?_
        refine dcall (.int .i64 y17) [] [(.int .i64 a0), (.int .i64 x16), (.int .i64 x13.2.2)] _ (caps := []) (args0 := [(.int .i64 a0), (.int .i64 x16), (.int .i64 x13.2.2)]) trivial (by kernel_rfl) (by kernel_rfl) (by kernel_rfl) (by kernel_rfl) (ok_spec_fdAdd h17) hb_spec_fdAdd (by kernel_rfl) ?_
        refine ds0 (.elt (kid ((3, 0), 1) x13.1.toNat) x13.1.toNat 0) (s_idxO (t := .int) (o := (kid ((3, 0), 1) x13.1.toNat)) (len := x15.length) (k := .i64) (m := x13.1) (by kernel_rfl) (by kernel_rfl) rfl p16 rfl (getN_lt e16)) ?_
        refine dsn2 (kid ((3, 0), 1) x13.1.toNat) (kid ((3, 0), 1) x13.1.toNat) (.arr 3 .int (x15.set x13.1.toNat y17)) (s_stE (i := (kid ((3, 0), 1) x13.1.toNat)) (j := x13.1.toNat) (k := 0) (e := 3) (t := .int) (xs := x15) (cs := [(.int .i64 y17)]) (x1 := y17) (by kernel_rfl) (only1.trans (mkOb_kid (by kernel_rfl) e15)) e16 (by kernel_rfl) (by kernel_rfl)) ?_
        refine xd_ob (ob_row (o := ((2, 0), 1)) (p := ((3, 0), 1)) (e1 := 23) (e := 3) (u := .int) (xss := l7_m5_1) (k := x13.1.toNat) (row := x15) (row' := x15.set x13.1.toNat y17) (by kernel_rfl) rfl (by kernel_rfl) e15 List.length_set) ?_
        refine dnil (badB_spec (by kernel_rfl)) (tn_ ?_)
        refine ⟨_, Weak.refl _, ?_⟩
        refine awp_seqv_ ?_
        obtain ⟨x19, f19, h⟩ := ob_some h
        obtain ⟨p19, b19, e19⟩ := getI_some f19
        obtain ⟨x20, f20, h⟩ := ob_some h
        obtain ⟨p20, b20, e20⟩ := getI_some f20
        obtain ⟨y21, h21, h⟩ := ob_some h
        refine awp_regionD_ 55 (by kernel_rfl) ?_
        refine ds0 (.box ((1, 0), 1) 1) (by kernel_rfl) ?_
        refine dsl (.own ((2, 0), 1) (.slice .int) 0 l7_m5_1.length) (by kernel_rfl) ?_
        refine ds0 (.box ((7, 0), 5) 1) (by kernel_rfl) ?_
        refine dsl (.int .i64 x13.2.1) (by kernel_rfl) ?_
        refine ds0 (.elt ((2, 0), 1) x13.2.1.toNat 0) (s_idxO (t := (.slice .int)) (o := ((2, 0), 1)) (len := l7_m5_1.length) (k := .i64) (m := x13.2.1) (by kernel_rfl) (by kernel_rfl) rfl p19 rfl (by rw [(Eq.trans (b := l7_m5_1.length) rfl List.length_set.symm)]; exact getN_lt e19)) ?_
        refine dsl (.own (kid ((3, 0), 1) x13.2.1.toNat) .int 0 x19.length) (s_ldM (o := ((2, 0), 1)) (p := ((3, 0), 1)) (e1 := 23) (u := .int) (xss := l7_m5_1.set x13.1.toNat (x15.set x13.1.toNat y17)) (row := x19) (j := x13.2.1.toNat) (by kernel_rfl) (by kernel_rfl) e19) ?_
        refine ds0 (.box ((7, 0), 5) 1) (by kernel_rfl) ?_
        refine dsl (.int .i64 x13.2.1) (by kernel_rfl) ?_
        refine ds0 (.int .i64 a0) (by kernel_rfl) ?_
        refine ds0 (.box ((1, 0), 1) 1) (by kernel_rfl) ?_
        refine dsl (.own ((2, 0), 1) (.slice .int) 0 l7_m5_1.length) (by kernel_rfl) ?_
        refine ds0 (.box ((7, 0), 5) 1) (by kernel_rfl) ?_
        refine dsl (.int .i64 x13.2.1) (by kernel_rfl) ?_
        refine ds0 (.elt ((2, 0), 1) x13.2.1.toNat 0) (s_idxO (t := (.slice .int)) (o := ((2, 0), 1)) (len := l7_m5_1.length) (k := .i64) (m := x13.2.1) (by kernel_rfl) (by kernel_rfl) rfl p19 rfl (by rw [(Eq.trans (b := l7_m5_1.length) rfl List.length_set.symm)]; exact getN_lt e19)) ?_
        refine dsl (.own (kid ((3, 0), 1) x13.2.1.toNat) .int 0 x19.length) (s_ldM (o := ((2, 0), 1)) (p := ((3, 0), 1)) (e1 := 23) (u := .int) (xss := l7_m5_1.set x13.1.toNat (x15.set x13.1.toNat y17)) (row := x19) (j := x13.2.1.toNat) (by kernel_rfl) (by kernel_rfl) e19) ?_
        refine ds0 (.box ((7, 0), 5) 1) (by kernel_rfl) ?_
        refine dsl (.int .i64 x13.2.1) (by kernel_rfl) ?_
        refine ds0 (.elt (kid ((3, 0), 1) x13.2.1.toNat) x13.2.1.toNat 0) (s_idxO (t := .int) (o := (kid ((3, 0), 1) x13.2.1.toNat)) (len := x19.length) (k := .i64) (m := x13.2.1) (by kernel_rfl) (by kernel_rfl) rfl p20 rfl (getN_lt e20)) ?_
        refine dsl (.int .i64 x20) (s_ldE (i := (kid ((3, 0), 1) x13.2.1.toNat)) (j := x13.2.1.toNat) (k := 0) (e := 3) (t := .int) (xs := x19) (by kernel_rfl) (only1.trans (mkOb_kid (by kernel_rfl) e19)) e20 (by kernel_rfl)) ?_
        refine ds0 (.box ((7, 0), 5) 2) (by kernel_rfl) ?_
        refine dsl (.int .i64 x13.2.2) (by kernel_rfl) ?_
        refine dcall (.int .i64 y21) [] [(.int .i64 a0), (.int .i64 x20), (.int .i64 x13.2.2)] _ (caps := []) (args0 := [(.int .i64 a0), (.int .i64 x20), (.int .i64 x13.2.2)]) trivial (by kernel_rfl) (by kernel_rfl) (by kernel_rfl) (by kernel_rfl) (ok_spec_fdAdd h21) hb_spec_fdAdd (by kernel_rfl) ?_
        refine ds0 (.elt (kid ((3, 0), 1) x13.2.1.toNat) x13.2.1.toNat 0) (s_idxO (t := .int) (o := (kid ((3, 0), 1) x13.2.1.toNat)) (len := x19.length) (k := .i64) (m := x13.2.1) (by kernel_rfl) (by kernel_rfl) rfl p20 rfl (getN_lt e20)) ?_
        refine dsn2 (kid ((3, 0), 1) x13.2.1.toNat) (kid ((3, 0), 1) x13.2.1.toNat) (.arr 3 .int (x19.set x13.2.1.toNat y21)) (s_stE (i := (kid ((3, 0), 1) x13.2.1.toNat)) (j := x13.2.1.toNat) (k := 0) (e := 3) (t := .int) (xs := x19) (cs := [(.int .i64 y21)]) (x1 := y21) (by kernel_rfl) (only1.trans (mkOb_kid (by kernel_rfl) e19)) e20 (by kernel_rfl) (by kernel_rfl)) ?_
        refine xd_ob (ob_row (o := ((2, 0), 1)) (p := ((3, 0), 1)) (e1 := 23) (e := 3) (u := .int) (xss := l7_m5_1.set x13.1.toNat (x15.set x13.1.toNat y17)) (k := x13.2.1.toNat) (row := x19) (row' := x19.set x13.2.1.toNat y21) (by kernel_rfl) rfl (by kernel_rfl) e19 List.length_set) ?_
        refine dnil (badB_spec (by kernel_rfl)) (tn_ ?_)
        refine ⟨_, Weak.refl _, ?_⟩
        refine awp_seqv_ ?_
        obtain ⟨x23, f23, h⟩ := ob_some h
        obtain ⟨p23, b23, e23⟩ := getI_some f23
        obtain ⟨x24, f24, h⟩ := ob_some h
        obtain ⟨p24, b24, e24⟩ := getI_some f24
        obtain ⟨y25, h25, h⟩ := ob_some h
        refine awp_regionD_ 79 (by kernel_rfl) ?_
        refine ds0 (.box ((1, 0), 1) 1) (by kernel_rfl) ?_
        refine dsl (.own ((2, 0), 1) (.slice .int) 0 l7_m5_1.length) (by kernel_rfl) ?_
        refine ds0 (.box ((7, 0), 5) 0) (by kernel_rfl) ?_
        refine dsl (.int .i64 x13.1) (by kernel_rfl) ?_
        refine ds0 (.elt ((2, 0), 1) x13.1.toNat 0) (s_idxO (t := (.slice .int)) (o := ((2, 0), 1)) (len := l7_m5_1.length) (k := .i64) (m := x13.1) (by kernel_rfl) (by kernel_rfl) rfl p23 rfl (by rw [(Eq.trans (b := (l7_m5_1.set x13.1.toNat (x15.set x13.1.toNat y17)).length) (Eq.trans (b := l7_m5_1.length) rfl List.length_set.symm) List.length_set.symm)]; exact getN_lt e23)) ?_
        refine dsl (.own (kid ((3, 0), 1) x13.1.toNat) .int 0 x23.length) (s_ldM (o := ((2, 0), 1)) (p := ((3, 0), 1)) (e1 := 23) (u := .int) (xss := (l7_m5_1.set x13.1.toNat (x15.set x13.1.toNat y17)).set x13.2.1.toNat (x19.set x13.2.1.toNat y21)) (row := x23) (j := x13.1.toNat) (by kernel_rfl) (by kernel_rfl) e23) ?_
        refine ds0 (.box ((7, 0), 5) 1) (by kernel_rfl) ?_
        refine dsl (.int .i64 x13.2.1) (by kernel_rfl) ?_
        refine ds0 (.int .i64 a0) (by kernel_rfl) ?_
        refine ds0 (.box ((1, 0), 1) 1) (by kernel_rfl) ?_
        refine dsl (.own ((2, 0), 1) (.slice .int) 0 l7_m5_1.length) (by kernel_rfl) ?_
        refine ds0 (.box ((7, 0), 5) 0) (by kernel_rfl) ?_
        refine dsl (.int .i64 x13.1) (by kernel_rfl) ?_
        refine ds0 (.elt ((2, 0), 1) x13.1.toNat 0) (s_idxO (t := (.slice .int)) (o := ((2, 0), 1)) (len := l7_m5_1.length) (k := .i64) (m := x13.1) (by kernel_rfl) (by kernel_rfl) rfl p23 rfl (by rw [(Eq.trans (b := (l7_m5_1.set x13.1.toNat (x15.set x13.1.toNat y17)).length) (Eq.trans (b := l7_m5_1.length) rfl List.length_set.symm) List.length_set.symm)]; exact getN_lt e23)) ?_
        refine dsl (.own (kid ((3, 0), 1) x13.1.toNat) .int 0 x23.length) (s_ldM (o := ((2, 0), 1)) (p := ((3, 0), 1)) (e1 := 23) (u := .int) (xss := (l7_m5_1.set x13.1.toNat (x15.set x13.1.toNat y17)).set x13.2.1.toNat (x19.set x13.2.1.toNat y21)) (row := x23) (j := x13.1.toNat) (by kernel_rfl) (by kernel_rfl) e23) ?_
        refine ds0 (.box ((7, 0), 5) 1) (by kernel_rfl) ?_
        refine dsl (.int .i64 x13.2.1) (by kernel_rfl) ?_
        refine ds0 (.elt (kid ((3, 0), 1) x13.1.toNat) x13.2.1.toNat 0) (s_idxO (t := .int) (o := (kid ((3, 0), 1) x13.1.toNat)) (len := x23.length) (k := .i64) (m := x13.2.1) (by kernel_rfl) (by kernel_rfl) rfl p24 rfl (getN_lt e24)) ?_
        refine dsl (.int .i64 x24) (s_ldE (i := (kid ((3, 0), 1) x13.1.toNat)) (j := x13.2.1.toNat) (k := 0) (e := 3) (t := .int) (xs := x23) (by kernel_rfl) (only1.trans (mkOb_kid (by kernel_rfl) e23)) e24 (by kernel_rfl)) ?_
        refine ds0 (.box ((7, 0), 5) 2) (by kernel_rfl) ?_
        refine dsl (.int .i64 x13.2.2) (by kernel_rfl) ?_
        refine dcall (.int .i64 y25) [] [(.int .i64 a0), (.int .i64 x24), (.int .i64 x13.2.2)] _ (caps := []) (args0 := [(.int .i64 a0), (.int .i64 x24), (.int .i64 x13.2.2)]) trivial (by kernel_rfl) (by kernel_rfl) (by kernel_rfl) (by kernel_rfl) (ok_spec_fdSub h25) hb_spec_fdSub (by kernel_rfl) ?_
        refine ds0 (.elt (kid ((3, 0), 1) x13.1.toNat) x13.2.1.toNat 0) (s_idxO (t := .int) (o := (kid ((3, 0), 1) x13.1.toNat)) (len := x23.length) (k := .i64) (m := x13.2.1) (by kernel_rfl) (by kernel_rfl) rfl p24 rfl (getN_lt e24)) ?_
        refine dsn2 (kid ((3, 0), 1) x13.1.toNat) (kid ((3, 0), 1) x13.1.toNat) (.arr 3 .int (x23.set x13.2.1.toNat y25)) (s_stE (i := (kid ((3, 0), 1) x13.1.toNat)) (j := x13.2.1.toNat) (k := 0) (e := 3) (t := .int) (xs := x23) (cs := [(.int .i64 y25)]) (x1 := y25) (by kernel_rfl) (only1.trans (mkOb_kid (by kernel_rfl) e23)) e24 (by kernel_rfl) (by kernel_rfl)) ?_
        refine xd_ob (ob_row (o := ((2, 0), 1)) (p := ((3, 0), 1)) (e1 := 23) (e := 3) (u := .int) (xss := (l7_m5_1.set x13.1.toNat (x15.set x13.1.toNat y17)).set x13.2.1.toNat (x19.set x13.2.1.toNat y21)) (k := x13.1.toNat) (row := x23) (row' := x23.set x13.2.1.toNat y25) (by kernel_rfl) rfl (by kernel_rfl) e23 List.length_set) ?_
        refine dnil (badB_spec (by kernel_rfl)) (tn_ ?_)
        refine ⟨_, Weak.refl _, ?_⟩
        obtain ⟨x26, f26, h⟩ := ob_some h
        obtain ⟨p26, b26, e26⟩ := getI_some f26
        obtain ⟨x27, f27, h⟩ := ob_some h
        obtain ⟨p27, b27, e27⟩ := getI_some f27
        obtain ⟨y28, h28, h⟩ := ob_some h
        refine awp_regionD_ 103 (by kernel_rfl) ?_
        refine ds0 (.box ((1, 0), 1) 1) (by kernel_rfl) ?_
        refine dsl (.own ((2, 0), 1) (.slice .int) 0 l7_m5_1.length) (by kernel_rfl) ?_
        refine ds0 (.box ((7, 0), 5) 1) (by kernel_rfl) ?_
        refine dsl (.int .i64 x13.2.1) (by kernel_rfl) ?_
        refine ds0 (.elt ((2, 0), 1) x13.2.1.toNat 0) (s_idxO (t := (.slice .int)) (o := ((2, 0), 1)) (len := l7_m5_1.length) (k := .i64) (m := x13.2.1) (by kernel_rfl) (by kernel_rfl) rfl p26 rfl (by rw [(Eq.trans (b := ((l7_m5_1.set x13.1.toNat (x15.set x13.1.toNat y17)).set x13.2.1.toNat (x19.set x13.2.1.toNat y21)).length) (Eq.trans (b := (l7_m5_1.set x13.1.toNat (x15.set x13.1.toNat y17)).length) (Eq.trans (b := l7_m5_1.length) rfl List.length_set.symm) List.length_set.symm) List.length_set.symm)]; exact getN_lt e26)) ?_
        refine dsl (.own (kid ((3, 0), 1) x13.2.1.toNat) .int 0 x26.length) (s_ldM (o := ((2, 0), 1)) (p := ((3, 0), 1)) (e1 := 23) (u := .int) (xss := ((l7_m5_1.set x13.1.toNat (x15.set x13.1.toNat y17)).set x13.2.1.toNat (x19.set x13.2.1.toNat y21)).set x13.1.toNat (x23.set x13.2.1.toNat y25)) (row := x26) (j := x13.2.1.toNat) (by kernel_rfl) (by kernel_rfl) e26) ?_
        refine ds0 (.box ((7, 0), 5) 0) (by kernel_rfl) ?_
        refine dsl (.int .i64 x13.1) (by kernel_rfl) ?_
        refine ds0 (.int .i64 a0) (by kernel_rfl) ?_
        refine ds0 (.box ((1, 0), 1) 1) (by kernel_rfl) ?_
        refine dsl (.own ((2, 0), 1) (.slice .int) 0 l7_m5_1.length) (by kernel_rfl) ?_
        refine ds0 (.box ((7, 0), 5) 1) (by kernel_rfl) ?_
        refine dsl (.int .i64 x13.2.1) (by kernel_rfl) ?_
        refine ds0 (.elt ((2, 0), 1) x13.2.1.toNat 0) (s_idxO (t := (.slice .int)) (o := ((2, 0), 1)) (len := l7_m5_1.length) (k := .i64) (m := x13.2.1) (by kernel_rfl) (by kernel_rfl) rfl p26 rfl (by rw [(Eq.trans (b := ((l7_m5_1.set x13.1.toNat (x15.set x13.1.toNat y17)).set x13.2.1.toNat (x19.set x13.2.1.toNat y21)).length) (Eq.trans (b := (l7_m5_1.set x13.1.toNat (x15.set x13.1.toNat y17)).length) (Eq.trans (b := l7_m5_1.length) rfl List.length_set.symm) List.length_set.symm) List.length_set.symm)]; exact getN_lt e26)) ?_
        refine dsl (.own (kid ((3, 0), 1) x13.2.1.toNat) .int 0 x26.length) (s_ldM (o := ((2, 0), 1)) (p := ((3, 0), 1)) (e1 := 23) (u := .int) (xss := ((l7_m5_1.set x13.1.toNat (x15.set x13.1.toNat y17)).set x13.2.1.toNat (x19.set x13.2.1.toNat y21)).set x13.1.toNat (x23.set x13.2.1.toNat y25)) (row := x26) (j := x13.2.1.toNat) (by kernel_rfl) (by kernel_rfl) e26) ?_
        refine ds0 (.box ((7, 0), 5) 0) (by kernel_rfl) ?_
        refine dsl (.int .i64 x13.1) (by kernel_rfl) ?_
        refine ds0 (.elt (kid ((3, 0), 1) x13.2.1.toNat) x13.1.toNat 0) (s_idxO (t := .int) (o := (kid ((3, 0), 1) x13.2.1.toNat)) (len := x26.length) (k := .i64) (m := x13.1) (by kernel_rfl) (by kernel_rfl) rfl p27 rfl (getN_lt e27)) ?_
        refine dsl (.int .i64 x27) (s_ldE (i := (kid ((3, 0), 1) x13.2.1.toNat)) (j := x13.1.toNat) (k := 0) (e := 3) (t := .int) (xs := x26) (by kernel_rfl) (only1.trans (mkOb_kid (by kernel_rfl) e26)) e27 (by kernel_rfl)) ?_
        refine ds0 (.box ((7, 0), 5) 2) (by kernel_rfl) ?_
        refine dsl (.int .i64 x13.2.2) (by kernel_rfl) ?_
        refine dcall (.int .i64 y28) [] [(.int .i64 a0), (.int .i64 x27), (.int .i64 x13.2.2)] _ (caps := []) (args0 := [(.int .i64 a0), (.int .i64 x27), (.int .i64 x13.2.2)]) trivial (by kernel_rfl) (by kernel_rfl) (by kernel_rfl) (by kernel_rfl) (ok_spec_fdSub h28) hb_spec_fdSub (by kernel_rfl) ?_
        refine ds0 (.elt (kid ((3, 0), 1) x13.2.1.toNat) x13.1.toNat 0) (s_idxO (t := .int) (o := (kid ((3, 0), 1) x13.2.1.toNat)) (len := x26.length) (k := .i64) (m := x13.1) (by kernel_rfl) (by kernel_rfl) rfl p27 rfl (getN_lt e27)) ?_
        refine dsn2 (kid ((3, 0), 1) x13.2.1.toNat) (kid ((3, 0), 1) x13.2.1.toNat) (.arr 3 .int (x26.set x13.1.toNat y28)) (s_stE (i := (kid ((3, 0), 1) x13.2.1.toNat)) (j := x13.1.toNat) (k := 0) (e := 3) (t := .int) (xs := x26) (cs := [(.int .i64 y28)]) (x1 := y28) (by kernel_rfl) (only1.trans (mkOb_kid (by kernel_rfl) e26)) e27 (by kernel_rfl) (by kernel_rfl)) ?_
        refine xd_ob (ob_row (o := ((2, 0), 1)) (p := ((3, 0), 1)) (e1 := 23) (e := 3) (u := .int) (xss := ((l7_m5_1.set x13.1.toNat (x15.set x13.1.toNat y17)).set x13.2.1.toNat (x19.set x13.2.1.toNat y21)).set x13.1.toNat (x23.set x13.2.1.toNat y25)) (k := x13.2.1.toNat) (row := x26) (row' := x26.set x13.1.toNat y28) (by kernel_rfl) rfl (by kernel_rfl) e26 List.length_set) ?_
        refine dnil (badB_spec (by kernel_rfl)) (bn_ (tn_ ?_))
        refine ⟨_, Weak.refl _, ?_⟩
        obtain ⟨g29, h⟩ := og_some h
        refine awp_region_ 105 (by kernel_rfl) ?_
        refine rs0 (.int .i64 ((l7_m16 + 1 : Nat) : Int)) (s_add1 (j := l7_m16) (by kernel_rfl) (by kernel_rfl) g29) ?_
        refine rs0 (.int .i64 ((l7_m16 + 1 : Nat) : Int)) (by kernel_rfl) ?_
        refine rnil (tn_ ?_)
        obtain rfl := Option.some.inj h
        exact ⟨(l7_m16 + 1, (((l7_m5_1.set x13.1.toNat (x15.set x13.1.toNat y17)).set x13.2.1.toNat (x19.set x13.2.1.toNat y21)).set x13.1.toNat (x23.set x13.2.1.toNat y25)).set x13.2.1.toNat (x26.set x13.1.toNat y28)), _, ((weak_ob_ ((1, 0), 1) (.cells 44 [(.int .i64 a1_0), (.own ((2, 0), 1) (.slice .int) 0 l7_m5_1.length)]) (.cells 44 [(.int .i64 a1_0), (.own ((2, 0), 1) (.slice .int) 0 (((((l7_m5_1.set x13.1.toNat (x15.set x13.1.toNat y17)).set x13.2.1.toNat (x19.set x13.2.1.toNat y21)).set x13.1.toNat (x23.set x13.2.1.toNat y25)).set x13.2.1.toNat (x26.set x13.1.toNat y28)).length))]) (by kernel_rfl) (congrArg (fun z_ => (.cells 44 [(.int .i64 a1_0), (.own ((2, 0), 1) (.slice .int) 0 z_)] : Ob)) ((Eq.trans (b := (((l7_m5_1.set x13.1.toNat (x15.set x13.1.toNat y17)).set x13.2.1.toNat (x19.set x13.2.1.toNat y21)).set x13.1.toNat (x23.set x13.2.1.toNat y25)).length) (Eq.trans (b := ((l7_m5_1.set x13.1.toNat (x15.set x13.1.toNat y17)).set x13.2.1.toNat (x19.set x13.2.1.toNat y21)).length) (Eq.trans (b := (l7_m5_1.set x13.1.toNat (x15.set x13.1.toNat y17)).length) (Eq.trans (b := l7_m5_1.length) rfl List.length_set.symm) List.length_set.symm) List.length_set.symm) List.length_set.symm) : l7_m5_1.length = ((((l7_m5_1.set x13.1.toNat (x15.set x13.1.toNat y17)).set x13.2.1.toNat (x19.set x13.2.1.toNat y21)).set x13.1.toNat (x23.set x13.2.1.toNat y25)).set x13.2.1.toNat (x26.set x13.1.toNat y28)).length))).trans (weak_ren [] (by kernel_rfl) (obsR_of (by kernel_rfl)) (by kernel_rfl))), ⟨l7_m16 + 1, (((l7_m5_1.set x13.1.toNat (x15.set x13.1.toNat y17)).set x13.2.1.toNat (x19.set x13.2.1.toNat y21)).set x13.1.toNat (x23.set x13.2.1.toNat y25)).set x13.2.1.toNat (x26.set x13.1.toNat y28), rfl, rfl⟩, hn7⟩
      · have q10_ := of_decide_eq_false q10
        refine awp_condF_ q10 (by kernel_rfl) ?_
        refine awp_exit_ (te_ (te_ (be_ (tn_ ?_))))
        obtain rfl := Option.some.inj h
        have h := hn7
        (try dsimp only at h)
        obtain rfl := Option.some.inj h
        exact ⟨_, (weak_ren [] (by kernel_rfl) (obsR_of (by kernel_rfl)) (by kernel_rfl)), rfl⟩
  · rintro l5_m5_1 _ rfl h
    (try dsimp only at h)
    refine awp_seqv_ ?_
    refine awp_region_ 4 (by kernel_rfl) ?_
    refine rsl (.agg [(.int .i64 a1_0), (.own ((2, 0), 1) (.slice .int) 0 l5_m5_1.length)]) (by kernel_rfl) ?_
    refine rsn2 ((0, 0), 1) ((0, 0), 1) (.cells 44 [(.int .i64 a1_0), (.own ((2, 0), 1) (.slice .int) 0 l5_m5_1.length)]) (by kernel_rfl) ?_
    refine rnil (tn_ ?_)
    refine ⟨_, Weak.refl _, ?_⟩
    refine awp_ret_ ?_
    obtain rfl := Option.some.inj h
    exact retM_ [(.agg [(.int .i64 a1_0), (.own ((1, 0), 1) (.slice .int) 0 l5_m5_1.length)])] (by simp) (weak_ren (tl := [(4, (.box ((0, 0), 1) 0))]) (g := 2) [(((1, 0), 1), ((2, 0), 1)), (((2, 0), 1), ((3, 0), 1))] (by kernel_rfl) (obsR_of (by kernel_rfl)) (by kernel_rfl)) (by kernel_rfl) (by kernel_rfl) (by kernel_rfl)
def m_impl_zeros : AC :=
  (.seq (.region [⟨(some 2), none, (.i (.mov (.cst .nils)))⟩] false [])
  (.seq (.region [⟨(some 3), none, (.i (.mov (.tmp 0)))⟩, ⟨(some 4), none, (.make 3 .int 8 (.tmp 3) (.tmp 3))⟩, ⟨(some 2), none, (.i (.mov (.tmp 4)))⟩] false [])
  .ret))
def r_impl_zeros : List Res := [.tmp 2]
theorem c_impl_zeros : compiled Tryd.prog Tryd.f76 = some (m_impl_zeros, r_impl_zeros) := by kernel_rfl
theorem hb_impl_zeros : hasBody Tryd.prog 76 = true := by kernel_rfl
def L_impl_zeros (a0 : Int) : Option (List Int) :=
  og (0 ≤ a0 ∧ a0 ≤ a0 ∧ a0 ≤ 1073741824 ∧ (8 : Int) * a0 ≤ 140737488355328) <|
some (List.replicate a0.toNat (0 : Int))
def rv_impl_zeros (r : List Int) : RV := ⟨false, [(false, [.new 3 .int r])]⟩
theorem ok_impl_zeros {a0 : Int} {r : List Int} (h : L_impl_zeros a0 = some r) : CallOK Tryd.prog Tab 76 [(.int .i64 a0)] (rv_impl_zeros r) := by
  refine call_of_ (by kernel_rfl) Tryd.func76 c_impl_zeros (n := 5) (by kernel_rfl) (by simp) (tl := [(0, (.int .i64 a0))]) rfl ?_
  unfold m_impl_zeros
  unfold L_impl_zeros at h
  refine awp_seqv_ ?_
  refine awp_region_ 2 (by kernel_rfl) ?_
  refine rs0 .nils (by kernel_rfl) ?_
  refine rnil (tn_ ?_)
  refine ⟨_, Weak.refl _, ?_⟩
  refine awp_seqv_ ?_
  obtain ⟨g3, h⟩ := og_some h
  refine awp_region_ 5 (by kernel_rfl) ?_
  refine rs0 (.int .i64 a0) (by kernel_rfl) ?_
  refine rs1 (.own ((4, 0), 3) .int 0 a0.toNat) ((4, 0), 3) (.arr 3 .int (List.replicate a0.toNat (0 : Int))) (s_make (t := .int) (k := .i64) (k' := .i64) (m := a0) (m' := a0) (by kernel_rfl) (by kernel_rfl) g3 rfl) ?_
  refine rs0 (.own ((4, 0), 3) .int 0 a0.toNat) (by kernel_rfl) ?_
  refine rnil (tn_ ?_)
  refine ⟨_, Weak.refl _, ?_⟩
  refine awp_ret_ ?_
  obtain rfl := Option.some.inj h
  exact ret_ [(.own ((4, 0), 3) .int 0 a0.toNat)] (by simp) (by kernel_rfl) (p_one rfl (l_own (by kernel_rfl) List.length_replicate.symm) p_nil) (by kernel_rfl) (by kernel_rfl)
def m_impl_mod : AC :=
  (.seq (.region [⟨(some 4), none, (.i (.mov (.cst (.int .i64 0))))⟩] false [])
  (.seq (.region [⟨(some 5), none, (.i (.mov (.tmp 1)))⟩, ⟨(some 6), none, (.i (.mov (.tmp 0)))⟩, ⟨(some 7), none, (.i (.bin .rem (.tmp 5) (.tmp 6)))⟩, ⟨(some 1), none, (.i (.mov (.tmp 7)))⟩] false [])
  (.seq (.seq (.region [⟨(some 8), none, (.i (.mov (.tmp 1)))⟩, ⟨(some 9), none, (.i (.bin .lss (.tmp 8) (.cst (.int .i64 0))))⟩] false [])
  (.cond (.tmp 9)
    (.region [⟨(some 10), none, (.i (.mov (.tmp 1)))⟩, ⟨(some 11), none, (.i (.mov (.tmp 0)))⟩, ⟨(some 12), none, (.i (.bin .add (.tmp 10) (.tmp 11)))⟩, ⟨(some 1), none, (.i (.mov (.tmp 12)))⟩] false [])
    .skip))
  (.seq (.region [⟨(some 13), none, (.i (.mov (.tmp 1)))⟩, ⟨(some 4), none, (.i (.mov (.tmp 13)))⟩] false [])
  .ret))))
def r_impl_mod : List Res := [.tmp 4]
theorem c_impl_mod : compiled Tryd.prog Tryd.f51 = some (m_impl_mod, r_impl_mod) := by kernel_rfl
theorem hb_impl_mod : hasBody Tryd.prog 51 = true := by kernel_rfl
def L_impl_mod (a0 : Int) (a1 : Int) : Option Int :=
  og (a0 ≠ 0) <|
Option.bind (cond (decide (Int.tmod a1 a0 < 0))
    (some (IntKind.i64.wrap (Int.tmod a1 a0 + a0)))
    (some (Int.tmod a1 a0))) fun l4_m1 =>
some l4_m1
def rv_impl_mod (r : Int) : RV := ⟨false, [(false, [.sc (.int .i64 r)])]⟩
theorem ok_impl_mod {a0 : Int} {a1 : Int} {r : Int} (h : L_impl_mod a0 a1 = some r) : CallOK Tryd.prog Tab 51 [(.int .i64 a0), (.int .i64 a1)] (rv_impl_mod r) := by
  refine call_of_ (by kernel_rfl) Tryd.func51 c_impl_mod (n := 14) (by kernel_rfl) (by simp) (tl := [(0, (.int .i64 a0)), (1, (.int .i64 a1))]) rfl ?_
  unfold m_impl_mod
  unfold L_impl_mod at h
  refine awp_seqv_ ?_
  refine awp_region_ 2 (by kernel_rfl) ?_
  refine rs0 (.int .i64 0) (by kernel_rfl) ?_
  refine rnil (tn_ ?_)
  refine ⟨_, Weak.refl _, ?_⟩
  refine awp_seqv_ ?_
  obtain ⟨g3, h⟩ := og_some h
  refine awp_region_ 6 (by kernel_rfl) ?_
  refine rs0 (.int .i64 a1) (by kernel_rfl) ?_
  refine rs0 (.int .i64 a0) (by kernel_rfl) ?_
  refine rs0 (.int .i64 (Int.tmod a1 a0)) (s_rem (k := .i64) (a := a1) (b := a0) (by kernel_rfl) (by kernel_rfl) g3) ?_
  refine rs0 (.int .i64 (Int.tmod a1 a0)) (by kernel_rfl) ?_
  refine rnil (tn_ ?_)
  refine ⟨_, Weak.refl _, ?_⟩
  refine awp_seqB h (fun (l4_m1 : Int) S_ => S_ = ⟨mkTm [(1, (.int .i64 l4_m1))], mkOb (someL []), 2⟩) ?_ ?_
  · intro v_ h
    refine awp_seqv_ ?_
    refine awp_region_ 8 (by kernel_rfl) ?_
    refine rs0 (.int .i64 (Int.tmod a1 a0)) (by kernel_rfl) ?_
    refine rs0 (.bool (decide (Int.tmod a1 a0 < 0))) (by kernel_rfl) ?_
    refine rnil (tn_ ?_)
    refine ⟨_, Weak.refl _, ?_⟩
    rcases cond_some h with ⟨q6, h⟩ | ⟨q6, h⟩
    · have q6_ := of_decide_eq_true q6
      refine awp_condT_ q6 (by kernel_rfl) ?_
      refine awp_region_ 12 (by kernel_rfl) ?_
      refine rs0 (.int .i64 (Int.tmod a1 a0)) (by kernel_rfl) ?_
      refine rs0 (.int .i64 a0) (by kernel_rfl) ?_
      refine rs0 (.int .i64 (IntKind.i64.wrap (Int.tmod a1 a0 + a0))) (by kernel_rfl) ?_
      refine rs0 (.int .i64 (IntKind.i64.wrap (Int.tmod a1 a0 + a0))) (by kernel_rfl) ?_
      refine rnil (tn_ ?_)
      obtain rfl := Option.some.inj h
      exact ⟨_, (weak_ren [] (by kernel_rfl) (obsR_of (by kernel_rfl)) (by kernel_rfl)), rfl⟩
    · have q6_ := of_decide_eq_false q6
      refine awp_condF_ q6 (by kernel_rfl) ?_
      refine awp_skip_ (tn_ ?_)
      obtain rfl := Option.some.inj h
      exact ⟨_, (weak_ren [] (by kernel_rfl) (obsR_of (by kernel_rfl)) (by kernel_rfl)), rfl⟩
  · rintro l4_m1 _ rfl h
    (try dsimp only at h)
    refine awp_seqv_ ?_
    refine awp_region_ 4 (by kernel_rfl) ?_
    refine rs0 (.int .i64 l4_m1) (by kernel_rfl) ?_
    refine rs0 (.int .i64 l4_m1) (by kernel_rfl) ?_
    refine rnil (tn_ ?_)
    refine ⟨_, Weak.refl _, ?_⟩
    refine awp_ret_ ?_
    obtain rfl := Option.some.inj h
    exact ret_ [(.int .i64 l4_m1)] (by simp) (by kernel_rfl) (p_one rfl (l_sc (by kernel_rfl)) p_nil) (by kernel_rfl) (by kernel_rfl)
def m_impl_Network_laplacian_l2 : AC :=
  (.seq (.region [⟨(some 28), none, (.i (.bin .lss (.tmp 27) (.tmp 26)))⟩] false [])
  (.seq (.cond (.tmp 28)
    .skip
    (.exit 2))
  (.seq (.block 3 (.seq (.region [⟨(some 29), none, (.i (.idx 3 (.tmp 25) (.tmp 27)))⟩, ⟨(some 30), none, (.i (.ld false 3 (.tmp 29)))⟩, ⟨(some 8), none, (.i (.alloc 59 [(.int .i64 0), (.int .i64 0), (.int .i64 0)]))⟩, ⟨none, none, (.st false 3 (.tmp 8) (.tmp 30))⟩] false [])
  (.seq (.region [⟨(some 31), none, (.i (.mov (.tmp 5)))⟩, ⟨(some 32), none, (.i (.fld 0 (.tmp 8)))⟩, ⟨(some 33), none, (.i (.ld true 1 (.tmp 32)))⟩, ⟨(some 34), none, (.i (.idx 1 (.tmp 31) (.tmp 33)))⟩, ⟨(some 35), none, (.i (.ld true 1 (.tmp 34)))⟩, ⟨(some 36), none, (.i (.fld 0 (.tmp 8)))⟩, ⟨(some 37), none, (.i (.ld true 1 (.tmp 36)))⟩, ⟨(some 38), none, (.i (.mov (.tmp 1)))⟩, ⟨(some 39), none, (.i (.mov (.tmp 5)))⟩, ⟨(some 40), none, (.i (.fld 0 (.tmp 8)))⟩, ⟨(some 41), none, (.i (.ld true 1 (.tmp 40)))⟩, ⟨(some 42), none, (.i (.idx 1 (.tmp 39) (.tmp 41)))⟩, ⟨(some 43), none, (.i (.ld true 1 (.tmp 42)))⟩, ⟨(some 44), none, (.i (.fld 0 (.tmp 8)))⟩, ⟨(some 45), none, (.i (.ld true 1 (.tmp 44)))⟩, ⟨(some 46), none, (.i (.idx 1 (.tmp 43) (.tmp 45)))⟩, ⟨(some 47), none, (.i (.ld true 1 (.tmp 46)))⟩, ⟨(some 48), none, (.i (.fld 2 (.tmp 8)))⟩, ⟨(some 49), none, (.i (.ld true 1 (.tmp 48)))⟩, ⟨(some 50), none, (.i (.bin .add (.tmp 47) (.tmp 49)))⟩, ⟨(some 51), none, (.call (.cst (.fn 51 [])) [(.tmp 38), (.tmp 50)] [[], []])⟩, ⟨(some 52), none, (.i (.idx 1 (.tmp 35) (.tmp 37)))⟩, ⟨none, none, (.st true 1 (.tmp 52) (.tmp 51))⟩] true [(2, 20), (4, 20), (6, 20)])
  (.seq (.region [⟨(some 53), none, (.i (.mov (.tmp 5)))⟩, ⟨(some 54), none, (.i (.fld 1 (.tmp 8)))⟩, ⟨(some 55), none, (.i (.ld true 1 (.tmp 54)))⟩, ⟨(some 56), none, (.i (.idx 1 (.tmp 53) (.tmp 55)))⟩, ⟨(some 57), none, (.i (.ld true 1 (.tmp 56)))⟩, ⟨(some 58), none, (.i (.fld 1 (.tmp 8)))⟩, ⟨(some 59), none, (.i (.ld true 1 (.tmp 58)))⟩, ⟨(some 60), none, (.i (.mov (.tmp 1)))⟩, ⟨(some 61), none, (.i (.mov (.tmp 5)))⟩, ⟨(some 62), none, (.i (.fld 1 (.tmp 8)))⟩, ⟨(some 63), none, (.i (.ld true 1 (.tmp 62)))⟩, ⟨(some 64), none, (.i (.idx 1 (.tmp 61) (.tmp 63)))⟩, ⟨(some 65), none, (.i (.ld true 1 (.tmp 64)))⟩, ⟨(some 66), none, (.i (.fld 1 (.tmp 8)))⟩, ⟨(some 67), none, (.i (.ld true 1 (.tmp 66)))⟩, ⟨(some 68), none, (.i (.idx 1 (.tmp 65) (.tmp 67)))⟩, ⟨(some 69), none, (.i (.ld true 1 (.tmp 68)))⟩, ⟨(some 70), none, (.i (.fld 2 (.tmp 8)))⟩, ⟨(some 71), none, (.i (.ld true 1 (.tmp 70)))⟩, ⟨(some 72), none, (.i (.bin .add (.tmp 69) (.tmp 71)))⟩, ⟨(some 73), none, (.call (.cst (.fn 51 [])) [(.tmp 60), (.tmp 72)] [[], []])⟩, ⟨(some 74), none, (.i (.idx 1 (.tmp 57) (.tmp 59)))⟩, ⟨none, none, (.st true 1 (.tmp 74) (.tmp 73))⟩] true [(2, 20), (4, 20), (6, 20)])
  (.seq (.region [⟨(some 75), none, (.i (.mov (.tmp 5)))⟩, ⟨(some 76), none, (.i (.fld 0 (.tmp 8)))⟩, ⟨(some 77), none, (.i (.ld true 1 (.tmp 76)))⟩, ⟨(some 78), none, (.i (.idx 1 (.tmp 75) (.tmp 77)))⟩, ⟨(some 79), none, (.i (.ld true 1 (.tmp 78)))⟩, ⟨(some 80), none, (.i (.fld 1 (.tmp 8)))⟩, ⟨(some 81), none, (.i (.ld true 1 (.tmp 80)))⟩, ⟨(some 82), none, (.i (.mov (.tmp 1)))⟩, ⟨(some 83), none, (.i (.mov (.tmp 5)))⟩, ⟨(some 84), none, (.i (.fld 0 (.tmp 8)))⟩, ⟨(some 85), none, (.i (.ld true 1 (.tmp 84)))⟩, ⟨(some 86), none, (.i (.idx 1 (.tmp 83) (.tmp 85)))⟩, ⟨(some 87), none, (.i (.ld true 1 (.tmp 86)))⟩, ⟨(some 88), none, (.i (.fld 1 (.tmp 8)))⟩, ⟨(some 89), none, (.i (.ld true 1 (.tmp 88)))⟩, ⟨(some 90), none, (.i (.idx 1 (.tmp 87) (.tmp 89)))⟩, ⟨(some 91), none, (.i (.ld true 1 (.tmp 90)))⟩, ⟨(some 92), none, (.i (.fld 2 (.tmp 8)))⟩, ⟨(some 93), none, (.i (.ld true 1 (.tmp 92)))⟩, ⟨(some 94), none, (.i (.bin .sub (.tmp 91) (.tmp 93)))⟩, ⟨(some 95), none, (.call (.cst (.fn 51 [])) [(.tmp 82), (.tmp 94)] [[], []])⟩, ⟨(some 96), none, (.i (.idx 1 (.tmp 79) (.tmp 81)))⟩, ⟨none, none, (.st true 1 (.tmp 96) (.tmp 95))⟩] true [(2, 20), (4, 20), (6, 20)])
  (.region [⟨(some 97), none, (.i (.mov (.tmp 5)))⟩, ⟨(some 98), none, (.i (.fld 1 (.tmp 8)))⟩, ⟨(some 99), none, (.i (.ld true 1 (.tmp 98)))⟩, ⟨(some 100), none, (.i (.idx 1 (.tmp 97) (.tmp 99)))⟩, ⟨(some 101), none, (.i (.ld true 1 (.tmp 100)))⟩, ⟨(some 102), none, (.i (.fld 0 (.tmp 8)))⟩, ⟨(some 103), none, (.i (.ld true 1 (.tmp 102)))⟩, ⟨(some 104), none, (.i (.mov (.tmp 1)))⟩, ⟨(some 105), none, (.i (.mov (.tmp 5)))⟩, ⟨(some 106), none, (.i (.fld 1 (.tmp 8)))⟩, ⟨(some 107), none, (.i (.ld true 1 (.tmp 106)))⟩, ⟨(some 108), none, (.i (.idx 1 (.tmp 105) (.tmp 107)))⟩, ⟨(some 109), none, (.i (.ld true 1 (.tmp 108)))⟩, ⟨(some 110), none, (.i (.fld 0 (.tmp 8)))⟩, ⟨(some 111), none, (.i (.ld true 1 (.tmp 110)))⟩, ⟨(some 112), none, (.i (.idx 1 (.tmp 109) (.tmp 111)))⟩, ⟨(some 113), none, (.i (.ld true 1 (.tmp 112)))⟩, ⟨(some 114), none, (.i (.fld 2 (.tmp 8)))⟩, ⟨(some 115), none, (.i (.ld true 1 (.tmp 114)))⟩, ⟨(some 116), none, (.i (.bin .sub (.tmp 113) (.tmp 115)))⟩, ⟨(some 117), none, (.call (.cst (.fn 51 [])) [(.tmp 104), (.tmp 116)] [[], []])⟩, ⟨(some 118), none, (.i (.idx 1 (.tmp 101) (.tmp 103)))⟩, ⟨none, none, (.st true 1 (.tmp 118) (.tmp 117))⟩] true [(2, 20), (4, 20), (6, 20)]))))))
  (.region [⟨(some 119), none, (.i (.bin .add (.tmp 27) (.cst (.int .i64 1))))⟩, ⟨(some 27), none, (.i (.mov (.tmp 119)))⟩] false []))))
def m_impl_Network_laplacian_l1 : AC :=
  (.seq (.region [⟨(some 15), none, (.i (.bin .lss (.tmp 14) (.tmp 13)))⟩] false [])
  (.seq (.cond (.tmp 15)
    .skip
    (.exit 0))
  (.seq (.block 1 (.seq (.region [⟨(some 16), none, (.i (.mov (.tmp 14)))⟩, ⟨(some 6), none, (.i (.mov (.tmp 16)))⟩] false [])
  (.region [⟨(some 17), none, (.i (.mov (.tmp 5)))⟩, ⟨(some 18), none, (.i (.mov (.tmp 6)))⟩, ⟨(some 19), none, (.i (.fld 0 (.tmp 2)))⟩, ⟨(some 20), none, (.i (.ld true 1 (.tmp 19)))⟩, ⟨(some 21), none, (.call (.cst (.fn 76 [])) [(.tmp 20)] [[]])⟩, ⟨(some 22), none, (.i (.idx 1 (.tmp 17) (.tmp 18)))⟩, ⟨none, none, (.st true 1 (.tmp 22) (.tmp 21))⟩] false [])))
  (.region [⟨(some 23), none, (.i (.bin .add (.tmp 14) (.cst (.int .i64 1))))⟩, ⟨(some 14), none, (.i (.mov (.tmp 23)))⟩] false []))))
def m_impl_Network_laplacian : AC :=
  (.seq (.region [⟨(some 2), none, (.i (.box 30 (.tmp 0)))⟩, ⟨(some 4), none, (.i (.mov (.cst .nils)))⟩] false [])
  (.seq (.region [⟨(some 9), none, (.i (.fld 0 (.tmp 2)))⟩, ⟨(some 10), none, (.i (.ld true 1 (.tmp 9)))⟩, ⟨(some 11), none, (.makeV 23 (.slice .int) 24 [.nils] (.tmp 10) (.tmp 10))⟩, ⟨(some 5), none, (.i (.mov (.tmp 11)))⟩] false [])
  (.seq (.seq (.region [⟨(some 12), none, (.i (.mov (.tmp 5)))⟩, ⟨(some 13), none, (.i (.len (.tmp 12)))⟩, ⟨(some 14), none, (.i (.mov (.cst (.int .i64 0))))⟩] false [])
  (.block 0 (.loop m_impl_Network_laplacian_l1)))
  (.seq (.seq (.region [⟨(some 24), none, (.i (.fld 1 (.tmp 2)))⟩, ⟨(some 25), none, (.i (.ld true 1 (.tmp 24)))⟩, ⟨(some 26), none, (.i (.len (.tmp 25)))⟩, ⟨(some 27), none, (.i (.mov (.cst (.int .i64 0))))⟩] false [])
  (.block 2 (.loop m_impl_Network_laplacian_l2)))
  (.seq (.region [⟨(some 120), none, (.i (.mov (.tmp 5)))⟩, ⟨(some 4), none, (.i (.mov (.tmp 120)))⟩] false [])
  .ret)))))
def r_impl_Network_laplacian : List Res := [.tmp 4]
theorem c_impl_Network_laplacian : compiled Tryd.prog Tryd.f60 = some (m_impl_Network_laplacian, r_impl_Network_laplacian) := by kernel_rfl
theorem hb_impl_Network_laplacian : hasBody Tryd.prog 60 = true := by kernel_rfl
def L_impl_Network_laplacian_l1 (a0_0 : Int) (l7_m14 : Nat) (l7_m5 : List (List Int)) : Option (Ctl (Nat × List (List Int)) (List (List Int))) :=
  cond (decide (((l7_m14 : Nat) : Int) < ((a0_0.toNat : Nat) : Int)))
  (Option.bind (L_impl_zeros a0_0) fun y13 =>
  Option.bind (l7_m5[l7_m14]?) fun x14 =>
  og (l7_m14 + 1 < 4611686018427387904) <|
  some (Ctl.next (l7_m14 + 1, l7_m5.set l7_m14 y13)))
  (some (Ctl.out l7_m5))
def L_impl_Network_laplacian_l2 (a0_1 : List (Int × Int × Int)) (a1 : Int) (l18_m27 : Nat) (l18_m5 : List (List Int)) : Option (Ctl (Nat × List (List Int)) (List (List Int))) :=
  cond (decide (((l18_m27 : Nat) : Int) < ((a0_1.length : Nat) : Int)))
  (Option.bind (a0_1[l18_m27]?) fun x24 =>
  Option.bind (getI l18_m5 x24.1) fun x26 =>
  Option.bind (getI x26 x24.1) fun x27 =>
  Option.bind (L_impl_mod a1 (IntKind.i64.wrap (x27 + x24.2.2))) fun y28 =>
  Option.bind (getI (l18_m5.set x24.1.toNat (x26.set x24.1.toNat y28)) x24.2.1) fun x30 =>
  Option.bind (getI x30 x24.2.1) fun x31 =>
  Option.bind (L_impl_mod a1 (IntKind.i64.wrap (x31 + x24.2.2))) fun y32 =>
  Option.bind (getI ((l18_m5.set x24.1.toNat (x26.set x24.1.toNat y28)).set x24.2.1.toNat (x30.set x24.2.1.toNat y32)) x24.1) fun x34 =>
  Option.bind (getI x34 x24.2.1) fun x35 =>
  Option.bind (L_impl_mod a1 (IntKind.i64.wrap (x35 - x24.2.2))) fun y36 =>
  Option.bind (getI (((l18_m5.set x24.1.toNat (x26.set x24.1.toNat y28)).set x24.2.1.toNat (x30.set x24.2.1.toNat y32)).set x24.1.toNat (x34.set x24.2.1.toNat y36)) x24.2.1) fun x37 =>
  Option.bind (getI x37 x24.1) fun x38 =>
  Option.bind (L_impl_mod a1 (IntKind.i64.wrap (x38 - x24.2.2))) fun y39 =>
  og (l18_m27 + 1 < 4611686018427387904) <|
  some (Ctl.next (l18_m27 + 1, (((l18_m5.set x24.1.toNat (x26.set x24.1.toNat y28)).set x24.2.1.toNat (x30.set x24.2.1.toNat y32)).set x24.1.toNat (x34.set x24.2.1.toNat y36)).set x24.2.1.toNat (x37.set x24.1.toNat y39))))
  (some (Ctl.out l18_m5))
def L_impl_Network_laplacian (a0_0 : Int) (a0_1 : List (Int × Int × Int)) (a0_2 : List Int) (a0_3 : List Int) (a1 : Int) : Option (List (List Int)) :=
  og (0 ≤ a0_0 ∧ a0_0 ≤ a0_0 ∧ a0_0 ≤ 1073741824 ∧ (24 : Int) * a0_0 ≤ 140737488355328) <|
Option.bind (loopM (fun s_ : Nat × List (List Int) => L_impl_Network_laplacian_l1 a0_0 s_.1 s_.2) 4611686018427387904 (0, List.replicate a0_0.toNat ([] : List Int))) fun l5_m5 =>
Option.bind (loopM (fun s_ : Nat × List (List Int) => L_impl_Network_laplacian_l2 a0_1 a1 s_.1 s_.2) 4611686018427387904 (0, l5_m5)) fun l16_m5 =>
some l16_m5
theorem ok_impl_Network_laplacian {a0_0 : Int} {a0_1 : List (Int × Int × Int)} {a0_2 : List Int} {a0_3 : List Int} {a1 : Int} {r : List (List Int)} (h : L_impl_Network_laplacian a0_0 a0_1 a0_2 a0_3 a1 = some r) : CallM Tryd.prog Tab 60 [(.agg [(.int .i64 a0_0), (.tree (.pair .int (.pair .int .int)) a0_1), (.tree .int a0_2), (.tree .int a0_3)]), (.int .i64 a1)] [] (.own ((0, 0), 1) (.slice .int) 0 r.length) [(((0, 0), 1), .mat 23 ((1, 0), 1) .int r), (((1, 0), 1), .pool 3 .int r)] := by
  refine callM_of_ (by kernel_rfl) Tryd.func60 c_impl_Network_laplacian (n := 121) (by kernel_rfl) (by simp) (tl := [(0, (.agg [(.int .i64 a0_0), (.tree (.pair .int (.pair .int .int)) a0_1), (.tree .int a0_2), (.tree .int a0_3)])), (1, (.int .i64 a1))]) rfl (by kernel_rfl) trivial ⟨⟨3, (.tail _ (.head _))⟩, ⟨trivial, trivial⟩⟩ ?_
  unfold m_impl_Network_laplacian
  unfold L_impl_Network_laplacian at h
  refine awp_seqv_ ?_
  refine awp_region_ 3 (by kernel_rfl) ?_
  refine rs1 (.box ((2, 0), 1) 0) ((2, 0), 1) (.cells 30 [(.int .i64 a0_0), (.tree (.pair .int (.pair .int .int)) a0_1), (.tree .int a0_2), (.tree .int a0_3)]) (by kernel_rfl) ?_
  refine rs0 .nils (by kernel_rfl) ?_
  refine rnil (tn_ ?_)
  refine ⟨_, Weak.refl _, ?_⟩
  refine awp_seqv_ ?_
  obtain ⟨g4, h⟩ := og_some h
  refine awp_region_ 7 (by kernel_rfl) ?_
  refine rs0 (.box ((2, 0), 1) 0) (by kernel_rfl) ?_
  refine rsl (.int .i64 a0_0) (by kernel_rfl) ?_
  refine rmakeM (.own ((176, 0), 5) (.slice .int) 0 a0_0.toNat) ((176, 0), 5) 23 3 .int (List.replicate a0_0.toNat ([] : List Int)) trivial (s_makeM (j := a0_0.toNat) (k := .i64) (k' := .i64) (m := a0_0) (c := a0_0) 3 (by kernel_rfl) (by kernel_rfl) g4 (by kernel_rfl) rfl) (by kernel_rfl) (by rw [List.length_replicate]) (by kernel_rfl) ?_
  refine rs0 (.own ((176, 0), 5) (.slice .int) 0 a0_0.toNat) (by kernel_rfl) ?_
  refine rnil (tn_ ?_)
  refine ⟨_, Weak.refl _, ?_⟩
  refine awp_seqB h (fun (l5_m5 : List (List Int)) S_ => S_ = ⟨mkTm [(1, (.int .i64 a1)), (2, (.box ((0, 0), 1) 0)), (5, (.own ((1, 0), 1) (.slice .int) 0 l5_m5.length))], mkOb (someL [(((0, 0), 1), .cells 30 [(.int .i64 a0_0), (.tree (.pair .int (.pair .int .int)) a0_1), (.tree .int a0_2), (.tree .int a0_3)]), (((1, 0), 1), .mat 23 ((2, 0), 1) .int l5_m5), (((2, 0), 1), .pool 3 .int l5_m5)]), 2⟩) ?_ ?_
  · intro v_ h
    refine awp_seqv_ ?_
    refine awp_region_ 10 (by kernel_rfl) ?_
    refine rs0 (.own ((176, 0), 5) (.slice .int) 0 a0_0.toNat) (by kernel_rfl) ?_
    refine rs0 (.int .i64 ((a0_0.toNat : Nat) : Int)) (by kernel_rfl) ?_
    refine rs0 (.int .i64 0) (by kernel_rfl) ?_
    refine rnil (tn_ ?_)
    refine ⟨_, Weak.refl _, ?_⟩
    refine awp_block_ ?_
    refine awp_loopL h (fun t_ S_ => ∃ (l7_m14 : Nat), ∃ (l7_m5 : List (List Int)), t_ = (l7_m14, l7_m5) ∧ S_ = ⟨mkTm [(1, (.int .i64 a1)), (2, (.box ((0, 0), 1) 0)), (5, (.own ((1, 0), 1) (.slice .int) 0 l7_m5.length)), (13, (.int .i64 ((a0_0.toNat : Nat) : Int))), (14, (.int .i64 ((l7_m14 : Nat) : Int)))], mkOb (someL [(((0, 0), 1), .cells 30 [(.int .i64 a0_0), (.tree (.pair .int (.pair .int .int)) a0_1), (.tree .int a0_2), (.tree .int a0_3)]), (((1, 0), 1), .mat 23 ((2, 0), 1) .int l7_m5), (((2, 0), 1), .pool 3 .int l7_m5)]), 2⟩) ⟨_, ((weak_tm_ 5 (.own ((176, 0), 5) (.slice .int) 0 a0_0.toNat) (.own ((176, 0), 5) (.slice .int) 0 ((List.replicate a0_0.toNat ([] : List Int)).length)) (by kernel_rfl) (congrArg (fun z_ => ((.own ((176, 0), 5) (.slice .int) 0 z_) : AV)) (List.length_replicate.symm : a0_0.toNat = (List.replicate a0_0.toNat ([] : List Int)).length))).trans (weak_ren [(((0, 0), 1), ((2, 0), 1)), (((1, 0), 1), ((176, 0), 5)), (((2, 0), 1), ((176, 0), 5))] (by kernel_rfl) (obsR_of (by kernel_rfl)) (by kernel_rfl))), ⟨0, List.replicate a0_0.toNat ([] : List Int), rfl, rfl⟩⟩ ?_
    · rintro n_ _ _ c_ ⟨l7_m14, l7_m5, rfl, rfl⟩ h hn7
      (try dsimp only at h)
      unfold L_impl_Network_laplacian_l1 at h
      unfold m_impl_Network_laplacian_l1
      refine awp_seqv_ ?_
      refine awp_region_ 3 (by kernel_rfl) ?_
      refine rs0 (.bool (decide (((l7_m14 : Nat) : Int) < ((a0_0.toNat : Nat) : Int)))) (by kernel_rfl) ?_
      refine rnil (tn_ ?_)
      refine ⟨_, Weak.refl _, ?_⟩
      refine awp_seqv_ ?_
      rcases cond_some h with ⟨q10, h⟩ | ⟨q10, h⟩
      · have q10_ := of_decide_eq_true q10
        refine awp_condT_ q10 (by kernel_rfl) ?_
        refine awp_skip_ (tn_ ?_)
        refine ⟨_, Weak.refl _, ?_⟩
        refine awp_seqv_ ?_
        refine awp_block_ ?_
        refine awp_seqv_ ?_
        refine awp_region_ 5 (by kernel_rfl) ?_
        refine rs0 (.int .i64 ((l7_m14 : Nat) : Int)) (by kernel_rfl) ?_
        refine rs0 (.int .i64 ((l7_m14 : Nat) : Int)) (by kernel_rfl) ?_
        refine rnil (tn_ ?_)
        refine ⟨_, Weak.refl _, ?_⟩
        obtain ⟨y13, h13, h⟩ := ob_some h
        obtain ⟨x14, e14, h⟩ := ob_some h
        refine awp_region_ 12 (by kernel_rfl) ?_
        refine rs0 (.own ((1, 0), 1) (.slice .int) 0 l7_m5.length) (by kernel_rfl) ?_
        refine rs0 (.int .i64 ((l7_m14 : Nat) : Int)) (by kernel_rfl) ?_
        refine rs0 (.box ((0, 0), 1) 0) (by kernel_rfl) ?_
        refine rsl (.int .i64 a0_0) (by kernel_rfl) ?_
        refine rcall (.own ((336, 0), 9) .int 0 y13.length) [(((336, 0), 9), some (.arr 3 .int y13))] [(.int .i64 a0_0)] _ (caps := []) (args0 := [(.int .i64 a0_0)]) trivial (by kernel_rfl) (by kernel_rfl) (by kernel_rfl) (by kernel_rfl) (ok_impl_zeros h13) hb_impl_zeros (by kernel_rfl) ?_
        refine rs0 (.elt ((1, 0), 1) l7_m14 0) (s_idxO (t := (.slice .int)) (o := ((1, 0), 1)) (len := l7_m5.length) (k := .i64) (m := ((l7_m14 : Nat) : Int)) (by kernel_rfl) (by kernel_rfl) rfl (nat_nn _) rfl (getN_lt e14)) ?_
        refine rsn2 ((1, 0), 1) ((1, 0), 1) (.vec 23 1 l7_m5.length ((hdL ((2, 0), 1) .int l7_m5).set l7_m14 (.own ((336, 0), 9) .int 0 y13.length))) (s_stV (o := ((1, 0), 1)) (e1 := 23) (m := l7_m5.length) (cs := hdL ((2, 0), 1) .int l7_m5) (v := (.own ((336, 0), 9) .int 0 y13.length)) (j := l7_m14) (by kernel_rfl) (by kernel_rfl) (by kernel_rfl) rfl (by rw [hdL_len]; exact getN_lt e14)) ?_
        refine rnil (bn_ (tn_ ?_))
        refine ⟨_, weak_set_ (e1 := 23) (e := 3) (u := .int) (n := l7_m5.length) (len := y13.length) (row := y13) (ys := y13) (xss := l7_m5) (j := l7_m14) 9000 ((1, 0), 1) ((2, 0), 1) ((336, 0), 9) (by kernel_rfl) (by kernel_rfl) rfl (by kernel_rfl) (by kernel_rfl) (tw_le rfl) (tw_eq rfl) (by kernel_rfl) (by kernel_rfl) (by kernel_rfl), ?_⟩
        obtain ⟨g15, h⟩ := og_some h
        refine awp_region_ 15 (by kernel_rfl) ?_
        refine rs0 (.int .i64 ((l7_m14 + 1 : Nat) : Int)) (s_add1 (j := l7_m14) (by kernel_rfl) (by kernel_rfl) g15) ?_
        refine rs0 (.int .i64 ((l7_m14 + 1 : Nat) : Int)) (by kernel_rfl) ?_
        refine rnil (tn_ ?_)
        obtain rfl := Option.some.inj h
        exact ⟨(l7_m14 + 1, l7_m5.set l7_m14 y13), _, ((weak_tm_ 5 (.own ((1, 0), 1) (.slice .int) 0 l7_m5.length) (.own ((1, 0), 1) (.slice .int) 0 ((l7_m5.set l7_m14 y13).length)) (by kernel_rfl) (congrArg (fun z_ => ((.own ((1, 0), 1) (.slice .int) 0 z_) : AV)) ((Eq.trans (b := l7_m5.length) rfl List.length_set.symm) : l7_m5.length = (l7_m5.set l7_m14 y13).length))).trans (weak_ren [(((2, 0), 1), ((9000, 0), 12))] (by kernel_rfl) (obsR_of (by kernel_rfl)) (by kernel_rfl))), ⟨l7_m14 + 1, l7_m5.set l7_m14 y13, rfl, rfl⟩, hn7⟩
      · have q10_ := of_decide_eq_false q10
        refine awp_condF_ q10 (by kernel_rfl) ?_
        refine awp_exit_ (te_ (te_ (be_ (tn_ ?_))))
        obtain rfl := Option.some.inj h
        have h := hn7
        (try dsimp only at h)
        obtain rfl := Option.some.inj h
        exact ⟨_, (weak_ren [] (by kernel_rfl) (obsR_of (by kernel_rfl)) (by kernel_rfl)), rfl⟩
  · rintro l5_m5 _ rfl h
    (try dsimp only at h)
    refine awp_seqB h (fun (l16_m5 : List (List Int)) S_ => S_ = ⟨mkTm [(5, (.own ((0, 0), 1) (.slice .int) 0 l16_m5.length))], mkOb (someL [(((0, 0), 1), .mat 23 ((1, 0), 1) .int l16_m5), (((1, 0), 1), .pool 3 .int l16_m5)]), 2⟩) ?_ ?_
    · intro v_ h
      refine awp_seqv_ ?_
      refine awp_region_ 6 (by kernel_rfl) ?_
      refine rs0 (.box ((0, 0), 1) 1) (by kernel_rfl) ?_
      refine rsl (.tree (.pair .int (.pair .int .int)) a0_1) (by kernel_rfl) ?_
      refine rs0 (.int .i64 ((a0_1.length : Nat) : Int)) (by kernel_rfl) ?_
      refine rs0 (.int .i64 0) (by kernel_rfl) ?_
      refine rnil (tn_ ?_)
      refine ⟨_, Weak.refl _, ?_⟩
      refine awp_block_ ?_
      refine awp_loopL h (fun t_ S_ => ∃ (l18_m27 : Nat), ∃ (l18_m5 : List (List Int)), t_ = (l18_m27, l18_m5) ∧ S_ = ⟨mkTm [(1, (.int .i64 a1)), (5, (.own ((0, 0), 1) (.slice .int) 0 l18_m5.length)), (25, (.tree (.pair .int (.pair .int .int)) a0_1)), (26, (.int .i64 ((a0_1.length : Nat) : Int))), (27, (.int .i64 ((l18_m27 : Nat) : Int)))], mkOb (someL [(((0, 0), 1), .mat 23 ((1, 0), 1) .int l18_m5), (((1, 0), 1), .pool 3 .int l18_m5)]), 2⟩) ⟨_, (weak_ren [(((0, 0), 1), ((1, 0), 1)), (((1, 0), 1), ((2, 0), 1))] (by kernel_rfl) (obsR_of (by kernel_rfl)) (by kernel_rfl)), ⟨0, l5_m5, rfl, rfl⟩⟩ ?_
      · rintro n_ _ _ c_ ⟨l18_m27, l18_m5, rfl, rfl⟩ h hn18
        (try dsimp only at h)
        unfold L_impl_Network_laplacian_l2 at h
        unfold m_impl_Network_laplacian_l2
        refine awp_seqv_ ?_
        refine awp_region_ 3 (by kernel_rfl) ?_
        refine rs0 (.bool (decide (((l18_m27 : Nat) : Int) < ((a0_1.length : Nat) : Int)))) (by kernel_rfl) ?_
        refine rnil (tn_ ?_)
        refine ⟨_, Weak.refl _, ?_⟩
        refine awp_seqv_ ?_
        rcases cond_some h with ⟨q21, h⟩ | ⟨q21, h⟩
        · have q21_ := of_decide_eq_true q21
          refine awp_condT_ q21 (by kernel_rfl) ?_
          refine awp_skip_ (tn_ ?_)
          refine ⟨_, Weak.refl _, ?_⟩
          refine awp_seqv_ ?_
          refine awp_block_ ?_
          refine awp_seqv_ ?_
          obtain ⟨x24, e24, h⟩ := ob_some h
          refine awp_region_ 7 (by kernel_rfl) ?_
          refine rs0 (.telt (.pair .int (.pair .int .int)) x24 0) (s_idxT (t := (.pair .int (.pair .int .int))) (xs := a0_1) (k := .i64) (m := ((l18_m27 : Nat) : Int)) (by kernel_rfl) (by kernel_rfl) rfl (nat_nn _) rfl e24) ?_
          refine rs0 (.agg [(.int .i64 x24.1), (.int .i64 x24.2.1), (.int .i64 x24.2.2)]) (by kernel_rfl) ?_
          refine rs1 (.box ((8, 0), 5) 0) ((8, 0), 5) (.cells 59 [(.int .i64 0), (.int .i64 0), (.int .i64 0)]) (by kernel_rfl) ?_
          refine rsn2 ((8, 0), 5) ((8, 0), 5) (.cells 59 [(.int .i64 x24.1), (.int .i64 x24.2.1), (.int .i64 x24.2.2)]) (by kernel_rfl) ?_
          refine rnil (tn_ ?_)
          refine ⟨_, Weak.refl _, ?_⟩
          refine awp_seqv_ ?_
          obtain ⟨x26, f26, h⟩ := ob_some h
          obtain ⟨p26, b26, e26⟩ := getI_some f26
          obtain ⟨x27, f27, h⟩ := ob_some h
          obtain ⟨p27, b27, e27⟩ := getI_some f27
          obtain ⟨y28, h28, h⟩ := ob_some h
          refine awp_regionD_ 30 (by kernel_rfl) ?_
          refine ds0 (.own ((0, 0), 1) (.slice .int) 0 l18_m5.length) (by kernel_rfl) ?_
          refine ds0 (.box ((8, 0), 5) 0) (by kernel_rfl) ?_
          refine dsl (.int .i64 x24.1) (by kernel_rfl) ?_
          refine ds0 (.elt ((0, 0), 1) x24.1.toNat 0) (s_idxO (t := (.slice .int)) (o := ((0, 0), 1)) (len := l18_m5.length) (k := .i64) (m := x24.1) (by kernel_rfl) (by kernel_rfl) rfl p26 rfl (getN_lt e26)) ?_
          refine dsl (.own (kid ((1, 0), 1) x24.1.toNat) .int 0 x26.length) (s_ldM (o := ((0, 0), 1)) (p := ((1, 0), 1)) (e1 := 23) (u := .int) (xss := l18_m5) (row := x26) (j := x24.1.toNat) (by kernel_rfl) (by kernel_rfl) e26) ?_
          refine ds0 (.box ((8, 0), 5) 0) (by kernel_rfl) ?_
          refine dsl (.int .i64 x24.1) (by kernel_rfl) ?_
          refine ds0 (.int .i64 a1) (by kernel_rfl) ?_
          refine ds0 (.own ((0, 0), 1) (.slice .int) 0 l18_m5.length) (by kernel_rfl) ?_
          refine ds0 (.box ((8, 0), 5) 0) (by kernel_rfl) ?_
          refine dsl (.int .i64 x24.1) (by kernel_rfl) ?_
          refine ds0 (.elt ((0, 0), 1) x24.1.toNat 0) (s_idxO (t := (.slice .int)) (o := ((0, 0), 1)) (len := l18_m5.length) (k := .i64) (m := x24.1) (by kernel_rfl) (by kernel_rfl) rfl p26 rfl (getN_lt e26)) ?_
          refine dsl (.own (kid ((1, 0), 1) x24.1.toNat) .int 0 x26.length) (s_ldM (o := ((0, 0), 1)) (p := ((1, 0), 1)) (e1 := 23) (u := .int) (xss := l18_m5) (row := x26) (j := x24.1.toNat) (by kernel_rfl) (by kernel_rfl) e26) ?_
          refine ds0 (.box ((8, 0), 5) 0) (by kernel_rfl) ?_
          refine dsl (.int .i64 x24.1) (by kernel_rfl) ?_
          refine ds0 (.elt (kid ((1, 0), 1) x24.1.toNat) x24.1.toNat 0) (s_idxO (t := .int) (o := (kid ((1, 0), 1) x24.1.toNat)) (len := x26.length) (k := .i64) (m := x24.1) (by kernel_rfl) (by kernel_rfl) rfl p27 rfl (getN_lt e27)) ?_
          refine dsl (.int .i64 x27) (s_ldE (i := (kid ((1, 0), 1) x24.1.toNat)) (j := x24.1.toNat) (k := 0) (e := 3) (t := .int) (xs := x26) (by kernel_rfl) (only1.trans (mkOb_kid (by kernel_rfl) e26)) e27 (by kernel_rfl)) ?_
          refine ds0 (.box ((8, 0), 5) 2) (by kernel_rfl) ?_
          refine dsl (.int .i64 x24.2.2) (by kernel_rfl) ?_
          refine ds0 (.int .i64 (IntKind.i64.wrap (x27 + x24.2.2))) (by kernel_rfl) ?_
          refine dcall (.int .i64 y28) [] [(.int .i64 a1), (.int .i64 (IntKind.i64.wrap (x27 + x24.2.2)))] _ (caps := []) (args0 := [(.int .i64 a1), (.int .i64 (IntKind.i64.wrap (x27 + x24.2.2)))]) trivial (by kernel_rfl) (by kernel_rfl) (by kernel_rfl) (by kernel_rfl) (ok_impl_mod h28) hb_impl_mod (by kernel_rfl) ?_
          refine ds0 (.elt (kid ((1, 0), 1) x24.1.toNat) x24.1.toNat 0) (s_idxO (t := .int) (o := (kid ((1, 0), 1) x24.1.toNat)) (len := x26.length) (k := .i64) (m := x24.1) (by kernel_rfl) (by kernel_rfl) rfl p27 rfl (getN_lt e27)) ?_
          refine dsn2 (kid ((1, 0), 1) x24.1.toNat) (kid ((1, 0), 1) x24.1.toNat) (.arr 3 .int (x26.set x24.1.toNat y28)) (s_stE (i := (kid ((1, 0), 1) x24.1.toNat)) (j := x24.1.toNat) (k := 0) (e := 3) (t := .int) (xs := x26) (cs := [(.int .i64 y28)]) (x1 := y28) (by kernel_rfl) (only1.trans (mkOb_kid (by kernel_rfl) e26)) e27 (by kernel_rfl) (by kernel_rfl)) ?_
          refine xd_ob (ob_row (o := ((0, 0), 1)) (p := ((1, 0), 1)) (e1 := 23) (e := 3) (u := .int) (xss := l18_m5) (k := x24.1.toNat) (row := x26) (row' := x26.set x24.1.toNat y28) (by kernel_rfl) rfl (by kernel_rfl) e26 List.length_set) ?_
          refine dnil (badB_spec (by kernel_rfl)) (tn_ ?_)
          refine ⟨_, Weak.refl _, ?_⟩
          refine awp_seqv_ ?_
          obtain ⟨x30, f30, h⟩ := ob_some h
          obtain ⟨p30, b30, e30⟩ := getI_some f30
          obtain ⟨x31, f31, h⟩ := ob_some h
          obtain ⟨p31, b31, e31⟩ := getI_some f31
          obtain ⟨y32, h32, h⟩ := ob_some h
          refine awp_regionD_ 53 (by kernel_rfl) ?_
          refine ds0 (.own ((0, 0), 1) (.slice .int) 0 l18_m5.length) (by kernel_rfl) ?_
          refine ds0 (.box ((8, 0), 5) 1) (by kernel_rfl) ?_
          refine dsl (.int .i64 x24.2.1) (by kernel_rfl) ?_
          refine ds0 (.elt ((0, 0), 1) x24.2.1.toNat 0) (s_idxO (t := (.slice .int)) (o := ((0, 0), 1)) (len := l18_m5.length) (k := .i64) (m := x24.2.1) (by kernel_rfl) (by kernel_rfl) rfl p30 rfl (by rw [(Eq.trans (b := l18_m5.length) rfl List.length_set.symm)]; exact getN_lt e30)) ?_
          refine dsl (.own (kid ((1, 0), 1) x24.2.1.toNat) .int 0 x30.length) (s_ldM (o := ((0, 0), 1)) (p := ((1, 0), 1)) (e1 := 23) (u := .int) (xss := l18_m5.set x24.1.toNat (x26.set x24.1.toNat y28)) (row := x30) (j := x24.2.1.toNat) (by kernel_rfl) (by kernel_rfl) e30) ?_
          refine ds0 (.box ((8, 0), 5) 1) (by kernel_rfl) ?_
          refine dsl (.int .i64 x24.2.1) (by kernel_rfl) ?_
          refine ds0 (.int .i64 a1) (by kernel_rfl) ?_
          refine ds0 (.own ((0, 0), 1) (.slice .int) 0 l18_m5.length) (by kernel_rfl) ?_
          refine ds0 (.box ((8, 0), 5) 1) (by kernel_rfl) ?_
          refine dsl (.int .i64 x24.2.1) (by kernel_rfl) ?_
          refine ds0 (.elt ((0, 0), 1) x24.2.1.toNat 0) (s_idxO (t := (.slice .int)) (o := ((0, 0), 1)) (len := l18_m5.length) (k := .i64) (m := x24.2.1) (by kernel_rfl) (by kernel_rfl) rfl p30 rfl (by rw [(Eq.trans (b := l18_m5.length) rfl List.length_set.symm)]; exact getN_lt e30)) ?_
          refine dsl (.own (kid ((1, 0), 1) x24.2.1.toNat) .int 0 x30.length) (s_ldM (o := ((0, 0), 1)) (p := ((1, 0), 1)) (e1 := 23) (u := .int) (xss := l18_m5.set x24.1.toNat (x26.set x24.1.toNat y28)) (row := x30) (j := x24.2.1.toNat) (by kernel_rfl) (by kernel_rfl) e30) ?_
          refine ds0 (.box ((8, 0), 5) 1) (by kernel_rfl) ?_
          refine dsl (.int .i64 x24.2.1) (by kernel_rfl) ?_
          refine ds0 (.elt (kid ((1, 0), 1) x24.2.1.toNat) x24.2.1.toNat 0) (s_idxO (t := .int) (o := (kid ((1, 0), 1) x24.2.1.toNat)) (len := x30.length) (k := .i64) (m := x24.2.1) (by kernel_rfl) (by kernel_rfl) rfl p31 rfl (getN_lt e31)) ?_
          refine dsl (.int .i64 x31) (s_ldE (i := (kid ((1, 0), 1) x24.2.1.toNat)) (j := x24.2.1.toNat) (k := 0) (e := 3) (t := .int) (xs := x30) (by kernel_rfl) (only1.trans (mkOb_kid (by kernel_rfl) e30)) e31 (by kernel_rfl)) ?_
          refine ds0 (.box ((8, 0), 5) 2) (by kernel_rfl) ?_
          refine dsl (.int .i64 x24.2.2) (by kernel_rfl) ?_
          refine ds0 (.int .i64 (IntKind.i64.wrap (x31 + x24.2.2))) (by kernel_rfl) ?_
          refine dcall (.int .i64 y32) [] [(.int .i64 a1), (.int .i64 (IntKind.i64.wrap (x31 + x24.2.2)))] _ (caps := []) (args0 := [(.int .i64 a1), (.int .i64 (IntKind.i64.wrap (x31 + x24.2.2)))]) trivial (by kernel_rfl) (by kernel_rfl) (by kernel_rfl) (by kernel_rfl) (ok_impl_mod h32) hb_impl_mod (by kernel_rfl) ?_
          refine ds0 (.elt (kid ((1, 0), 1) x24.2.1.toNat) x24.2.1.toNat 0) (s_idxO (t := .int) (o := (kid ((1, 0), 1) x24.2.1.toNat)) (len := x30.length) (k := .i64) (m := x24.2.1) (by kernel_rfl) (by kernel_rfl) rfl p31 rfl (getN_lt e31)) ?_
          refine dsn2 (kid ((1, 0), 1) x24.2.1.toNat) (kid ((1, 0), 1) x24.2.1.toNat) (.arr 3 .int (x30.set x24.2.1.toNat y32)) (s_stE (i := (kid ((1, 0), 1) x24.2.1.toNat)) (j := x24.2.1.toNat) (k := 0) (e := 3) (t := .int) (xs := x30) (cs := [(.int .i64 y32)]) (x1 := y32) (by kernel_rfl) (only1.trans (mkOb_kid (by kernel_rfl) e30)) e31 (by kernel_rfl) (by kernel_rfl)) ?_
          refine xd_ob (ob_row (o := ((0, 0), 1)) (p := ((1, 0), 1)) (e1 := 23) (e := 3) (u := .int) (xss := l18_m5.set x24.1.toNat (x26.set x24.1.toNat y28)) (k := x24.2.1.toNat) (row := x30) (row' := x30.set x24.2.1.toNat y32) (by kernel_rfl) rfl (by kernel_rfl) e30 List.length_set) ?_
          refine dnil (badB_spec (by kernel_rfl)) (tn_ ?_)
          refine ⟨_, Weak.refl _, ?_⟩
          refine awp_seqv_ ?_
          obtain ⟨x34, f34, h⟩ := ob_some h
          obtain ⟨p34, b34, e34⟩ := getI_some f34
          obtain ⟨x35, f35, h⟩ := ob_some h
          obtain ⟨p35, b35, e35⟩ := getI_some f35
          obtain ⟨y36, h36, h⟩ := ob_some h
          refine awp_regionD_ 76 (by kernel_rfl) ?_
          refine ds0 (.own ((0, 0), 1) (.slice .int) 0 l18_m5.length) (by kernel_rfl) ?_
          refine ds0 (.box ((8, 0), 5) 0) (by kernel_rfl) ?_
          refine dsl (.int .i64 x24.1) (by kernel_rfl) ?_
          refine ds0 (.elt ((0, 0), 1) x24.1.toNat 0) (s_idxO (t := (.slice .int)) (o := ((0, 0), 1)) (len := l18_m5.length) (k := .i64) (m := x24.1) (by kernel_rfl) (by kernel_rfl) rfl p34 rfl (by rw [(Eq.trans (b := (l18_m5.set x24.1.toNat (x26.set x24.1.toNat y28)).length) (Eq.trans (b := l18_m5.length) rfl List.length_set.symm) List.length_set.symm)]; exact getN_lt e34)) ?_
          refine dsl (.own (kid ((1, 0), 1) x24.1.toNat) .int 0 x34.length) (s_ldM (o := ((0, 0), 1)) (p := ((1, 0), 1)) (e1 := 23) (u := .int) (xss := (l18_m5.set x24.1.toNat (x26.set x24.1.toNat y28)).set x24.2.1.toNat (x30.set x24.2.1.toNat y32)) (row := x34) (j := x24.1.toNat) (by kernel_rfl) (by kernel_rfl) e34) ?_
          refine ds0 (.box ((8, 0), 5) 1) (by kernel_rfl) ?_
          refine dsl (.int .i64 x24.2.1) (by kernel_rfl) ?_
          refine ds0 (.int .i64 a1) (by kernel_rfl) ?_
          refine ds0 (.own ((0, 0), 1) (.slice .int) 0 l18_m5.length) (by kernel_rfl) ?_
          refine ds0 (.box ((8, 0), 5) 0) (by kernel_rfl) ?_
          refine dsl (.int .i64 x24.1) (by kernel_rfl) ?_
          refine ds0 (.elt ((0, 0), 1) x24.1.toNat 0) (s_idxO (t := (.slice .int)) (o := ((0, 0), 1)) (len := l18_m5.length) (k := .i64) (m := x24.1) (by kernel_rfl) (by kernel_rfl) rfl p34 rfl (by rw [(Eq.trans (b := (l18_m5.set x24.1.toNat (x26.set x24.1.toNat y28)).length) (Eq.trans (b := l18_m5.length) rfl List.length_set.symm) List.length_set.symm)]; exact getN_lt e34)) ?_
          refine dsl (.own (kid ((1, 0), 1) x24.1.toNat) .int 0 x34.length) (s_ldM (o := ((0, 0), 1)) (p := ((1, 0), 1)) (e1 := 23) (u := .int) (xss := (l18_m5.set x24.1.toNat (x26.set x24.1.toNat y28)).set x24.2.1.toNat (x30.set x24.2.1.toNat y32)) (row := x34) (j := x24.1.toNat) (by kernel_rfl) (by kernel_rfl) e34) ?_
          refine ds0 (.box ((8, 0), 5) 1) (by kernel_rfl) ?_
          refine dsl (.int .i64 x24.2.1) (by kernel_rfl) ?_
          refine ds0 (.elt (kid ((1, 0), 1) x24.1.toNat) x24.2.1.toNat 0) (s_idxO (t := .int) (o := (kid ((1, 0), 1) x24.1.toNat)) (len := x34.length) (k := .i64) (m := x24.2.1) (by kernel_rfl) (by kernel_rfl) rfl p35 rfl (getN_lt e35)) ?_
          refine dsl (.int .i64 x35) (s_ldE (i := (kid ((1, 0), 1) x24.1.toNat)) (j := x24.2.1.toNat) (k := 0) (e := 3) (t := .int) (xs := x34) (by kernel_rfl) (only1.trans (mkOb_kid (by kernel_rfl) e34)) e35 (by kernel_rfl)) ?_
          refine ds0 (.box ((8, 0), 5) 2) (by kernel_rfl) ?_
          refine dsl (.int .i64 x24.2.2) (by kernel_rfl) ?_
          refine ds0 (.int .i64 (IntKind.i64.wrap (x35 - x24.2.2))) (by kernel_rfl) ?_
          refine dcall (.int .i64 y36) [] [(.int .i64 a1), (.int .i64 (IntKind.i64.wrap (x35 - x24.2.2)))] _ (caps := []) (args0 := [(.int .i64 a1), (.int .i64 (IntKind.i64.wrap (x35 - x24.2.2)))]) trivial (by kernel_rfl) (by kernel_rfl) (by kernel_rfl) (by kernel_rfl) (ok_impl_mod h36) hb_impl_mod (by kernel_rfl) ?_
          refine ds0 (.elt (kid ((1, 0), 1) x24.1.toNat) x24.2.1.toNat 0) (s_idxO (t := .int) (o := (kid ((1, 0), 1) x24.1.toNat)) (len := x34.length) (k := .i64) (m := x24.2.1) (by kernel_rfl) (by kernel_rfl) rfl p35 rfl (getN_lt e35)) ?_
          refine dsn2 (kid ((1, 0), 1) x24.1.toNat) (kid ((1, 0), 1) x24.1.toNat) (.arr 3 .int (x34.set x24.2.1.toNat y36)) (s_stE (i := (kid ((1, 0), 1) x24.1.toNat)) (j := x24.2.1.toNat) (k := 0) (e := 3) (t := .int) (xs := x34) (cs := [(.int .i64 y36)]) (x1 := y36) (by kernel_rfl) (only1.trans (mkOb_kid (by kernel_rfl) e34)) e35 (by kernel_rfl) (by kernel_rfl)) ?_
          refine xd_ob (ob_row (o := ((0, 0), 1)) (p := ((1, 0), 1)) (e1 := 23) (e := 3) (u := .int) (xss := (l18_m5.set x24.1.toNat (x26.set x24.1.toNat y28)).set x24.2.1.toNat (x30.set x24.2.1.toNat y32)) (k := x24.1.toNat) (row := x34) (row' := x34.set x24.2.1.toNat y36) (by kernel_rfl) rfl (by kernel_rfl) e34 List.length_set) ?_
          refine dnil (badB_spec (by kernel_rfl)) (tn_ ?_)
          refine ⟨_, Weak.refl _, ?_⟩
          obtain ⟨x37, f37, h⟩ := ob_some h
          obtain ⟨p37, b37, e37⟩ := getI_some f37
          obtain ⟨x38, f38, h⟩ := ob_some h
          obtain ⟨p38, b38, e38⟩ := getI_some f38
          obtain ⟨y39, h39, h⟩ := ob_some h
          refine awp_regionD_ 99 (by kernel_rfl) ?_
          refine ds0 (.own ((0, 0), 1) (.slice .int) 0 l18_m5.length) (by kernel_rfl) ?_
          refine ds0 (.box ((8, 0), 5) 1) (by kernel_rfl) ?_
          refine dsl (.int .i64 x24.2.1) (by kernel_rfl) ?_
          refine ds0 (.elt ((0, 0), 1) x24.2.1.toNat 0) (s_idxO (t := (.slice .int)) (o := ((0, 0), 1)) (len := l18_m5.length) (k := .i64) (m := x24.2.1) (by kernel_rfl) (by kernel_rfl) rfl p37 rfl (by rw [(Eq.trans (b := ((l18_m5.set x24.1.toNat (x26.set x24.1.toNat y28)).set x24.2.1.toNat (x30.set x24.2.1.toNat y32)).length) (Eq.trans (b := (l18_m5.set x24.1.toNat (x26.set x24.1.toNat y28)).length) (Eq.trans (b := l18_m5.length) rfl List.length_set.symm) List.length_set.symm) List.length_set.symm)]; exact getN_lt e37)) ?_
          refine dsl (.own (kid ((1, 0), 1) x24.2.1.toNat) .int 0 x37.length) (s_ldM (o := ((0, 0), 1)) (p := ((1, 0), 1)) (e1 := 23) (u := .int) (xss := ((l18_m5.set x24.1.toNat (x26.set x24.1.toNat y28)).set x24.2.1.toNat (x30.set x24.2.1.toNat y32)).set x24.1.toNat (x34.set x24.2.1.toNat y36)) (row := x37) (j := x24.2.1.toNat) (by kernel_rfl) (by kernel_rfl) e37) ?_
          refine ds0 (.box ((8, 0), 5) 0) (by kernel_rfl) ?_
          refine dsl (.int .i64 x24.1) (by kernel_rfl) ?_
          refine ds0 (.int .i64 a1) (by kernel_rfl) ?_
          refine ds0 (.own ((0, 0), 1) (.slice .int) 0 l18_m5.length) (by kernel_rfl) ?_
          refine ds0 (.box ((8, 0), 5) 1) (by kernel_rfl) ?_
          refine dsl (.int .i64 x24.2.1) (by kernel_rfl) ?_
          refine ds0 (.elt ((0, 0), 1) x24.2.1.toNat 0) (s_idxO (t := (.slice .int)) (o := ((0, 0), 1)) (len := l18_m5.length) (k := .i64) (m := x24.2.1) (by kernel_rfl) (by kernel_rfl) rfl p37 rfl (by rw [(Eq.trans (b := ((l18_m5.set x24.1.toNat (x26.set x24.1.toNat y28)).set x24.2.1.toNat (x30.set x24.2.1.toNat y32)).length) (Eq.trans (b := (l18_m5.set x24.1.toNat (x26.set x24.1.toNat y28)).length) (Eq.trans (b := l18_m5.length) rfl List.length_set.symm) List.length_set.symm) List.length_set.symm)]; exact getN_lt e37)) ?_
          refine dsl (.own (kid ((1, 0), 1) x24.2.1.toNat) .int 0 x37.length) (s_ldM (o := ((0, 0), 1)) (p := ((1, 0), 1)) (e1 := 23) (u := .int) (xss := ((l18_m5.set x24.1.toNat (x26.set x24.1.toNat y28)).set x24.2.1.toNat (x30.set x24.2.1.toNat y32)).set x24.1.toNat (x34.set x24.2.1.toNat y36)) (row := x37) (j := x24.2.1.toNat) (by kernel_rfl) (by kernel_rfl) e37) ?_
          refine ds0 (.box ((8, 0), 5) 0) (by kernel_rfl) ?_
          refine dsl (.int .i64 x24.1) (by kernel_rfl) ?_
          refine ds0 (.elt (kid ((1, 0), 1) x24.2.1.toNat) x24.1.toNat 0) (s_idxO (t := .int) (o := (kid ((1, 0), 1) x24.2.1.toNat)) (len := x37.length) (k := .i64) (m := x24.1) (by kernel_rfl) (by kernel_rfl) rfl p38 rfl (getN_lt e38)) ?_
          refine dsl (.int .i64 x38) (s_ldE (i := (kid ((1, 0), 1) x24.2.1.toNat)) (j := x24.1.toNat) (k := 0) (e := 3) (t := .int) (xs := x37) (by kernel_rfl) (only1.trans (mkOb_kid (by kernel_rfl) e37)) e38 (by kernel_rfl)) ?_
          refine ds0 (.box ((8, 0), 5) 2) (by kernel_rfl) ?_
          refine dsl (.int .i64 x24.2.2) (by kernel_rfl) ?_
          refine ds0 (.int .i64 (IntKind.i64.wrap (x38 - x24.2.2))) (by kernel_rfl) ?_
          refine dcall (.int .i64 y39) [] [(.int .i64 a1), (.int .i64 (IntKind.i64.wrap (x38 - x24.2.2)))] _ (caps := []) (args0 := [(.int .i64 a1), (.int .i64 (IntKind.i64.wrap (x38 - x24.2.2)))]) trivial (by kernel_rfl) (by kernel_rfl) (by kernel_rfl) (by kernel_rfl) (ok_impl_mod h39) hb_impl_mod (by kernel_rfl) ?_
          refine ds0 (.elt (kid ((1, 0), 1) x24.2.1.toNat) x24.1.toNat 0) (s_idxO (t := .int) (o := (kid ((1, 0), 1) x24.2.1.toNat)) (len := x37.length) (k := .i64) (m := x24.1) (by kernel_rfl) (by kernel_rfl) rfl p38 rfl (getN_lt e38)) ?_
          refine dsn2 (kid ((1, 0), 1) x24.2.1.toNat) (kid ((1, 0), 1) x24.2.1.toNat) (.arr 3 .int (x37.set x24.1.toNat y39)) (s_stE (i := (kid ((1, 0), 1) x24.2.1.toNat)) (j := x24.1.toNat) (k := 0) (e := 3) (t := .int) (xs := x37) (cs := [(.int .i64 y39)]) (x1 := y39) (by kernel_rfl) (only1.trans (mkOb_kid (by kernel_rfl) e37)) e38 (by kernel_rfl) (by kernel_rfl)) ?_
          refine xd_ob (ob_row (o := ((0, 0), 1)) (p := ((1, 0), 1)) (e1 := 23) (e := 3) (u := .int) (xss := ((l18_m5.set x24.1.toNat (x26.set x24.1.toNat y28)).set x24.2.1.toNat (x30.set x24.2.1.toNat y32)).set x24.1.toNat (x34.set x24.2.1.toNat y36)) (k := x24.2.1.toNat) (row := x37) (row' := x37.set x24.1.toNat y39) (by kernel_rfl) rfl (by kernel_rfl) e37 List.length_set) ?_
          refine dnil (badB_spec (by kernel_rfl)) (bn_ (tn_ ?_))
          refine ⟨_, Weak.refl _, ?_⟩
          obtain ⟨g40, h⟩ := og_some h
          refine awp_region_ 101 (by kernel_rfl) ?_
          refine rs0 (.int .i64 ((l18_m27 + 1 : Nat) : Int)) (s_add1 (j := l18_m27) (by kernel_rfl) (by kernel_rfl) g40) ?_
          refine rs0 (.int .i64 ((l18_m27 + 1 : Nat) : Int)) (by kernel_rfl) ?_
          refine rnil (tn_ ?_)
          obtain rfl := Option.some.inj h
          exact ⟨(l18_m27 + 1, (((l18_m5.set x24.1.toNat (x26.set x24.1.toNat y28)).set x24.2.1.toNat (x30.set x24.2.1.toNat y32)).set x24.1.toNat (x34.set x24.2.1.toNat y36)).set x24.2.1.toNat (x37.set x24.1.toNat y39)), _, ((weak_tm_ 5 (.own ((0, 0), 1) (.slice .int) 0 l18_m5.length) (.own ((0, 0), 1) (.slice .int) 0 (((((l18_m5.set x24.1.toNat (x26.set x24.1.toNat y28)).set x24.2.1.toNat (x30.set x24.2.1.toNat y32)).set x24.1.toNat (x34.set x24.2.1.toNat y36)).set x24.2.1.toNat (x37.set x24.1.toNat y39)).length)) (by kernel_rfl) (congrArg (fun z_ => ((.own ((0, 0), 1) (.slice .int) 0 z_) : AV)) ((Eq.trans (b := (((l18_m5.set x24.1.toNat (x26.set x24.1.toNat y28)).set x24.2.1.toNat (x30.set x24.2.1.toNat y32)).set x24.1.toNat (x34.set x24.2.1.toNat y36)).length) (Eq.trans (b := ((l18_m5.set x24.1.toNat (x26.set x24.1.toNat y28)).set x24.2.1.toNat (x30.set x24.2.1.toNat y32)).length) (Eq.trans (b := (l18_m5.set x24.1.toNat (x26.set x24.1.toNat y28)).length) (Eq.trans (b := l18_m5.length) rfl List.length_set.symm) List.length_set.symm) List.length_set.symm) List.length_set.symm) : l18_m5.length = ((((l18_m5.set x24.1.toNat (x26.set x24.1.toNat y28)).set x24.2.1.toNat (x30.set x24.2.1.toNat y32)).set x24.1.toNat (x34.set x24.2.1.toNat y36)).set x24.2.1.toNat (x37.set x24.1.toNat y39)).length))).trans (weak_ren [] (by kernel_rfl) (obsR_of (by kernel_rfl)) (by kernel_rfl))), ⟨l18_m27 + 1, (((l18_m5.set x24.1.toNat (x26.set x24.1.toNat y28)).set x24.2.1.toNat (x30.set x24.2.1.toNat y32)).set x24.1.toNat (x34.set x24.2.1.toNat y36)).set x24.2.1.toNat (x37.set x24.1.toNat y39), rfl, rfl⟩, hn18⟩
        · have q21_ := of_decide_eq_false q21
          refine awp_condF_ q21 (by kernel_rfl) ?_
          refine awp_exit_ (te_ (te_ (be_ (tn_ ?_))))
          obtain rfl := Option.some.inj h
          have h := hn18
          (try dsimp only at h)
          obtain rfl := Option.some.inj h
          exact ⟨_, (weak_ren [] (by kernel_rfl) (obsR_of (by kernel_rfl)) (by kernel_rfl)), rfl⟩
    · rintro l16_m5 _ rfl h
      (try dsimp only at h)
      refine awp_seqv_ ?_
      refine awp_region_ 4 (by kernel_rfl) ?_
      refine rs0 (.own ((0, 0), 1) (.slice .int) 0 l16_m5.length) (by kernel_rfl) ?_
      refine rs0 (.own ((0, 0), 1) (.slice .int) 0 l16_m5.length) (by kernel_rfl) ?_
      refine rnil (tn_ ?_)
      refine ⟨_, Weak.refl _, ?_⟩
      refine awp_ret_ ?_
      obtain rfl := Option.some.inj h
      exact retM_ [(.own ((0, 0), 1) (.slice .int) 0 l16_m5.length)] (by simp) (weak_ren (tl := [(4, (.own ((0, 0), 1) (.slice .int) 0 l16_m5.length))]) (g := 2) [] (by kernel_rfl) (obsR_of (by kernel_rfl)) (by kernel_rfl)) (by kernel_rfl) (by kernel_rfl) (by kernel_rfl)
def m_impl_LaplacianOf : AC :=
  (.seq (.region [⟨(some 3), none, (.i (.box 30 (.tmp 1)))⟩, ⟨(some 4), none, (.i (.alloc 44 [(.int .i64 0), .nils]))⟩, ⟨(some 5), none, (.i (.mov (.cst (.bool false))))⟩] false [])
  (.seq (.seq (.region [⟨(some 6), none, (.i (.mov (.tmp 0)))⟩, ⟨(some 7), none, (.i (.ld false 4 (.tmp 3)))⟩, ⟨(some 8), none, (.call (.cst (.fn 44 [])) [(.tmp 6), (.tmp 7)] [[], [none, (some (.pair .int (.pair .int .int))), (some .int), (some .int)]])⟩, ⟨(some 9), none, (.i (.not (.tmp 8)))⟩] false [])
  (.cond (.tmp 9)
    (.seq (.region [⟨(some 10), none, (.build [(.int .i64 0), .nils] [])⟩, ⟨none, none, (.st false 2 (.tmp 4) (.tmp 10))⟩, ⟨(some 5), none, (.i (.mov (.cst (.bool false))))⟩] false [])
    .ret)
    .skip))
  (.seq (.region [⟨(some 11), none, (.i (.fld 0 (.tmp 3)))⟩, ⟨(some 12), none, (.i (.ld true 1 (.tmp 11)))⟩, ⟨(some 13), none, (.i (.ld false 4 (.tmp 3)))⟩, ⟨(some 14), none, (.i (.mov (.tmp 0)))⟩, ⟨(some 15), none, (.call (.cst (.fn 60 [])) [(.tmp 13), (.tmp 14)] [[none, (some (.pair .int (.pair .int .int))), (some .int), (some .int)], []])⟩, ⟨(some 16), none, (.build [(.int .i64 0), .nils] [(0, 1, (.tmp 12)), (1, 1, (.tmp 15))])⟩, ⟨none, none, (.st false 2 (.tmp 4) (.tmp 16))⟩, ⟨(some 5), none, (.i (.mov (.cst (.bool true))))⟩] true [(1, 4)])
  .ret)))
def r_impl_LaplacianOf : List Res := [.cell 4 false 2, .tmp 5]
theorem c_impl_LaplacianOf : compiled Tryd.prog Tryd.f26 = some (m_impl_LaplacianOf, r_impl_LaplacianOf) := by kernel_rfl
theorem hb_impl_LaplacianOf : hasBody Tryd.prog 26 = true := by kernel_rfl
def L_impl_LaplacianOf (a0 : Int) (a1_0 : Int) (a1_1 : List (Int × Int × Int)) (a1_2 : List Int) (a1_3 : List Int) : Option (Bool × Int × List (List Int)) :=
  Option.bind (L_impl_isNetwork a0 a1_0 a1_1 a1_2 a1_3) fun y5 =>
cond (!y5)
  (some (false, 0, ([] : List (List Int))))
  (Option.bind (L_impl_Network_laplacian a1_0 a1_1 a1_2 a1_3 a0) fun y9 =>
  some (true, a1_0, y9))
theorem ok_impl_LaplacianOf {a0 : Int} {a1_0 : Int} {a1_1 : List (Int × Int × Int)} {a1_2 : List Int} {a1_3 : List Int} {r : Bool × Int × List (List Int)} (h : L_impl_LaplacianOf a0 a1_0 a1_1 a1_2 a1_3 = some r) : CallM Tryd.prog Tab 26 [(.int .i64 a0), (.agg [(.int .i64 a1_0), (.tree (.pair .int (.pair .int .int)) a1_1), (.tree .int a1_2), (.tree .int a1_3)])] [] (.tup [(.agg [(.int .i64 r.2.1), (.own ((1, 0), 1) (.slice .int) 0 r.2.2.length)]), (.bool r.1)]) [(((0, 0), 1), .cells 44 [(.int .i64 r.2.1), (.own ((1, 0), 1) (.slice .int) 0 r.2.2.length)]), (((1, 0), 1), .mat 23 ((2, 0), 1) .int r.2.2), (((2, 0), 1), .pool 3 .int r.2.2)] := by
  refine callM_of_ (by kernel_rfl) Tryd.func26 c_impl_LaplacianOf (n := 17) (by kernel_rfl) (by simp) (tl := [(0, (.int .i64 a0)), (1, (.agg [(.int .i64 a1_0), (.tree (.pair .int (.pair .int .int)) a1_1), (.tree .int a1_2), (.tree .int a1_3)]))]) rfl (by kernel_rfl) trivial ⟨trivial, ⟨⟨3, (.tail _ (.tail _ (.head _)))⟩, ⟨trivial, trivial⟩⟩⟩ ?_
  unfold m_impl_LaplacianOf
  unfold L_impl_LaplacianOf at h
  refine awp_seqv_ ?_
  refine awp_region_ 4 (by kernel_rfl) ?_
  refine rs1 (.box ((3, 0), 1) 0) ((3, 0), 1) (.cells 30 [(.int .i64 a1_0), (.tree (.pair .int (.pair .int .int)) a1_1), (.tree .int a1_2), (.tree .int a1_3)]) (by kernel_rfl) ?_
  refine rs1 (.box ((4, 0), 2) 0) ((4, 0), 2) (.cells 44 [(.int .i64 0), .nils]) (by kernel_rfl) ?_
  refine rs0 (.bool false) (by kernel_rfl) ?_
  refine rnil (tn_ ?_)
  refine ⟨_, Weak.refl _, ?_⟩
  refine awp_seqv_ ?_
  refine awp_seqv_ ?_
  obtain ⟨y5, h5, h⟩ := ob_some h
  refine awp_region_ 8 (by kernel_rfl) ?_
  refine rs0 (.int .i64 a0) (by kernel_rfl) ?_
  refine rsl (.agg [(.int .i64 a1_0), (.tree (.pair .int (.pair .int .int)) a1_1), (.tree .int a1_2), (.tree .int a1_3)]) (by kernel_rfl) ?_
  refine rcall (.bool y5) [] [(.int .i64 a0), (.agg [(.int .i64 a1_0), (.tree (.pair .int (.pair .int .int)) a1_1), (.tree .int a1_2), (.tree .int a1_3)])] _ (caps := []) (args0 := [(.int .i64 a0), (.agg [(.int .i64 a1_0), (.tree (.pair .int (.pair .int .int)) a1_1), (.tree .int a1_2), (.tree .int a1_3)])]) trivial (by kernel_rfl) (by kernel_rfl) (by kernel_rfl) (by kernel_rfl) (ok_impl_isNetwork h5) hb_impl_isNetwork (by kernel_rfl) ?_
  refine rs0 (.bool (!y5)) (by kernel_rfl) ?_
  refine rnil (tn_ ?_)
  refine ⟨_, Weak.refl _, ?_⟩
  rcases cond_some h with ⟨q6, h⟩ | ⟨q6, h⟩
  · refine awp_condT_ q6 (by kernel_rfl) ?_
    refine awp_seqv_ ?_
    refine awp_region_ 11 (by kernel_rfl) ?_
    refine rs0 (.agg [(.int .i64 0), .nils]) (by kernel_rfl) ?_
    refine rsn2 ((4, 0), 2) ((4, 0), 2) (.cells 44 [(.int .i64 0), .nils]) (by kernel_rfl) ?_
    refine rs0 (.bool false) (by kernel_rfl) ?_
    refine rnil (tn_ ?_)
    refine ⟨_, Weak.refl _, ?_⟩
    refine awp_ret_ (tr_ ?_)
    obtain rfl := Option.some.inj h
    exact retM_ [(.agg [(.int .i64 0), (.own ((1, 0), 1) (.slice .int) 0 ((([] : List (List Int))).length))]), (.bool false)] (by simp) ((weak_nil_cellV_ 9000 ((4, 0), 2) 1 44 [(.int .i64 0), .nils] [(.int .i64 0), (.own ((9000, 0), 11) (.slice .int) 0 0)] 23 (.slice .int) (by kernel_rfl) (by kernel_rfl) (by kernel_rfl)).trans ((weak_none_ (e1 := 23) (n := 0) 9000 ((9000, 0), 11) 3 .int (by kernel_rfl) (by kernel_rfl) rfl (by kernel_rfl) (by kernel_rfl)).trans (weak_ren (tl := [(4, (.box ((0, 0), 1) 0)), (5, (.bool false))]) (g := 2) [(((0, 0), 1), ((4, 0), 2)), (((1, 0), 1), ((9000, 0), 11)), (((2, 0), 1), ((9000, 0), 12))] (by kernel_rfl) (obsR_of (by kernel_rfl)) (by kernel_rfl)))) (by kernel_rfl) (by kernel_rfl) (by kernel_rfl)
  · refine awp_condF_ q6 (by kernel_rfl) ?_
    refine awp_skip_ (tn_ ?_)
    refine ⟨_, Weak.refl _, ?_⟩
    refine awp_seqv_ ?_
    obtain ⟨y9, h9, h⟩ := ob_some h
    refine awp_regionD_ 16 (by kernel_rfl) ?_
    refine ds0 (.box ((3, 0), 1) 0) (by kernel_rfl) ?_
    refine dsl (.int .i64 a1_0) (by kernel_rfl) ?_
    refine dsl (.agg [(.int .i64 a1_0), (.tree (.pair .int (.pair .int .int)) a1_1), (.tree .int a1_2), (.tree .int a1_3)]) (by kernel_rfl) ?_
    refine ds0 (.int .i64 a0) (by kernel_rfl) ?_
    refine dcallM (.own ((240, 0), 12) (.slice .int) 0 y9.length) [(((240, 0), 12), some (.mat 23 ((241, 0), 12) .int y9)), (((241, 0), 12), some (.pool 3 .int y9))] [] [(.agg [(.int .i64 a1_0), (.tree (.pair .int (.pair .int .int)) a1_1), (.tree .int a1_2), (.tree .int a1_3)]), (.int .i64 a0)] (caps := []) trivial (by kernel_rfl) (by kernel_rfl) (ok_impl_Network_laplacian h9) hb_impl_Network_laplacian (by kernel_rfl) trivial (.cons (.ren (by kernel_rfl)) (.cons (.ren (by kernel_rfl)) .nil)) (reachL_mem (by kernel_rfl) (by kernel_rfl) trivial) (by intro q_ hq_; cases hq_) (by kernel_rfl) (by kernel_rfl) ?_
    refine ds0 (.agg [(.int .i64 a1_0), (.own ((240, 0), 12) (.slice .int) 0 y9.length)]) (by kernel_rfl) ?_
    refine dsn2 ((4, 0), 2) ((4, 0), 2) (.cells 44 [(.int .i64 a1_0), (.own ((240, 0), 12) (.slice .int) 0 y9.length)]) (by kernel_rfl) ?_
    refine ds0 (.bool true) (by kernel_rfl) ?_
    refine dnil ⟨(pair_i (by kernel_rfl)), trivial⟩ (tn_ ?_)
    refine ⟨_, Weak.refl _, ?_⟩
    refine awp_ret_ ?_
    obtain rfl := Option.some.inj h
    exact retM_ [(.agg [(.int .i64 a1_0), (.own ((1, 0), 1) (.slice .int) 0 y9.length)]), (.bool true)] (by simp) (weak_ren (tl := [(4, (.box ((0, 0), 1) 0)), (5, (.bool true))]) (g := 2) [(((0, 0), 1), ((4, 0), 2)), (((1, 0), 1), ((240, 0), 12)), (((2, 0), 1), ((241, 0), 12))] (by kernel_rfl) (obsR_of (by kernel_rfl)) (by kernel_rfl)) (by kernel_rfl) (by kernel_rfl) (by kernel_rfl)
def m_spec_LaplacianOf : AC :=
  (.seq (.region [⟨(some 3), none, (.i (.box 30 (.tmp 1)))⟩, ⟨(some 4), none, (.i (.alloc 44 [(.int .i64 0), .nils]))⟩, ⟨(some 5), none, (.i (.mov (.cst (.bool false))))⟩] false [])
  (.seq (.seq (.region [⟨(some 6), none, (.i (.mov (.tmp 0)))⟩, ⟨(some 7), none, (.i (.ld false 4 (.tmp 3)))⟩, ⟨(some 8), none, (.call (.cst (.fn 42 [])) [(.tmp 6), (.tmp 7)] [[], [none, (some (.pair .int (.pair .int .int))), (some .int), (some .int)]])⟩, ⟨(some 9), none, (.i (.not (.tmp 8)))⟩] false [])
  (.cond (.tmp 9)
    (.seq (.region [⟨(some 10), none, (.build [(.int .i64 0), .nils] [])⟩, ⟨none, none, (.st false 2 (.tmp 4) (.tmp 10))⟩, ⟨(some 5), none, (.i (.mov (.cst (.bool false))))⟩] false [])
    .ret)
    .skip))
  (.seq (.region [⟨(some 11), none, (.i (.mov (.tmp 0)))⟩, ⟨(some 12), none, (.i (.ld false 4 (.tmp 3)))⟩, ⟨(some 13), none, (.call (.cst (.fn 59 [])) [(.tmp 11), (.tmp 12)] [[], [none, (some (.pair .int (.pair .int .int))), (some .int), (some .int)]])⟩, ⟨none, none, (.st false 2 (.tmp 4) (.tmp 13))⟩, ⟨(some 5), none, (.i (.mov (.cst (.bool true))))⟩] false [])
  .ret)))
def r_spec_LaplacianOf : List Res := [.cell 4 false 2, .tmp 5]
theorem c_spec_LaplacianOf : compiled Tryd.prog Tryd.f25 = some (m_spec_LaplacianOf, r_spec_LaplacianOf) := by kernel_rfl
theorem hb_spec_LaplacianOf : hasBody Tryd.prog 25 = true := by kernel_rfl
def L_spec_LaplacianOf (a0 : Int) (a1_0 : Int) (a1_1 : List (Int × Int × Int)) (a1_2 : List Int) (a1_3 : List Int) : Option (Bool × Int × List (List Int)) :=
  Option.bind (L_spec_nwGood a0 a1_0 a1_1 a1_2 a1_3) fun y5 =>
cond (!y5)
  (some (false, 0, ([] : List (List Int))))
  (Option.bind (L_spec_nwLaplacian a0 a1_0 a1_1 a1_2 a1_3) fun y9 =>
  some (true, a1_0, y9))
theorem ok_spec_LaplacianOf {a0 : Int} {a1_0 : Int} {a1_1 : List (Int × Int × Int)} {a1_2 : List Int} {a1_3 : List Int} {r : Bool × Int × List (List Int)} (h : L_spec_LaplacianOf a0 a1_0 a1_1 a1_2 a1_3 = some r) : CallM Tryd.prog Tab 25 [(.int .i64 a0), (.agg [(.int .i64 a1_0), (.tree (.pair .int (.pair .int .int)) a1_1), (.tree .int a1_2), (.tree .int a1_3)])] [] (.tup [(.agg [(.int .i64 r.2.1), (.own ((1, 0), 1) (.slice .int) 0 r.2.2.length)]), (.bool r.1)]) [(((0, 0), 1), .cells 44 [(.int .i64 r.2.1), (.own ((1, 0), 1) (.slice .int) 0 r.2.2.length)]), (((1, 0), 1), .mat 23 ((2, 0), 1) .int r.2.2), (((2, 0), 1), .pool 3 .int r.2.2)] := by
  refine callM_of_ (by kernel_rfl) Tryd.func25 c_spec_LaplacianOf (n := 14) (by kernel_rfl) (by simp) (tl := [(0, (.int .i64 a0)), (1, (.agg [(.int .i64 a1_0), (.tree (.pair .int (.pair .int .int)) a1_1), (.tree .int a1_2), (.tree .int a1_3)]))]) rfl (by kernel_rfl) trivial ⟨trivial, ⟨⟨3, (.tail _ (.tail _ (.head _)))⟩, ⟨trivial, trivial⟩⟩⟩ ?_
  unfold m_spec_LaplacianOf
  unfold L_spec_LaplacianOf at h
  refine awp_seqv_ ?_
  refine awp_region_ 4 (by kernel_rfl) ?_
  refine rs1 (.box ((3, 0), 1) 0) ((3, 0), 1) (.cells 30 [(.int .i64 a1_0), (.tree (.pair .int (.pair .int .int)) a1_1), (.tree .int a1_2), (.tree .int a1_3)]) (by kernel_rfl) ?_
  refine rs1 (.box ((4, 0), 2) 0) ((4, 0), 2) (.cells 44 [(.int .i64 0), .nils]) (by kernel_rfl) ?_
  refine rs0 (.bool false) (by kernel_rfl) ?_
  refine rnil (tn_ ?_)
  refine ⟨_, Weak.refl _, ?_⟩
  refine awp_seqv_ ?_
  refine awp_seqv_ ?_
  obtain ⟨y5, h5, h⟩ := ob_some h
  refine awp_region_ 8 (by kernel_rfl) ?_
  refine rs0 (.int .i64 a0) (by kernel_rfl) ?_
  refine rsl (.agg [(.int .i64 a1_0), (.tree (.pair .int (.pair .int .int)) a1_1), (.tree .int a1_2), (.tree .int a1_3)]) (by kernel_rfl) ?_
  refine rcall (.bool y5) [] [(.int .i64 a0), (.agg [(.int .i64 a1_0), (.tree (.pair .int (.pair .int .int)) a1_1), (.tree .int a1_2), (.tree .int a1_3)])] _ (caps := []) (args0 := [(.int .i64 a0), (.agg [(.int .i64 a1_0), (.tree (.pair .int (.pair .int .int)) a1_1), (.tree .int a1_2), (.tree .int a1_3)])]) trivial (by kernel_rfl) (by kernel_rfl) (by kernel_rfl) (by kernel_rfl) (ok_spec_nwGood h5) hb_spec_nwGood (by kernel_rfl) ?_
  refine rs0 (.bool (!y5)) (by kernel_rfl) ?_
  refine rnil (tn_ ?_)
  refine ⟨_, Weak.refl _, ?_⟩
  rcases cond_some h with ⟨q6, h⟩ | ⟨q6, h⟩
  · refine awp_condT_ q6 (by kernel_rfl) ?_
    refine awp_seqv_ ?_
    refine awp_region_ 11 (by kernel_rfl) ?_
    refine rs0 (.agg [(.int .i64 0), .nils]) (by kernel_rfl) ?_
    refine rsn2 ((4, 0), 2) ((4, 0), 2) (.cells 44 [(.int .i64 0), .nils]) (by kernel_rfl) ?_
    refine rs0 (.bool false) (by kernel_rfl) ?_
    refine rnil (tn_ ?_)
    refine ⟨_, Weak.refl _, ?_⟩
    refine awp_ret_ (tr_ ?_)
    obtain rfl := Option.some.inj h
    exact retM_ [(.agg [(.int .i64 0), (.own ((1, 0), 1) (.slice .int) 0 ((([] : List (List Int))).length))]), (.bool false)] (by simp) ((weak_nil_cellV_ 9000 ((4, 0), 2) 1 44 [(.int .i64 0), .nils] [(.int .i64 0), (.own ((9000, 0), 11) (.slice .int) 0 0)] 23 (.slice .int) (by kernel_rfl) (by kernel_rfl) (by kernel_rfl)).trans ((weak_none_ (e1 := 23) (n := 0) 9000 ((9000, 0), 11) 3 .int (by kernel_rfl) (by kernel_rfl) rfl (by kernel_rfl) (by kernel_rfl)).trans (weak_ren (tl := [(4, (.box ((0, 0), 1) 0)), (5, (.bool false))]) (g := 2) [(((0, 0), 1), ((4, 0), 2)), (((1, 0), 1), ((9000, 0), 11)), (((2, 0), 1), ((9000, 0), 12))] (by kernel_rfl) (obsR_of (by kernel_rfl)) (by kernel_rfl)))) (by kernel_rfl) (by kernel_rfl) (by kernel_rfl)
  · refine awp_condF_ q6 (by kernel_rfl) ?_
    refine awp_skip_ (tn_ ?_)
    refine ⟨_, Weak.refl _, ?_⟩
    refine awp_seqv_ ?_
    obtain ⟨y9, h9, h⟩ := ob_some h
    refine awp_region_ 13 (by kernel_rfl) ?_
    refine rs0 (.int .i64 a0) (by kernel_rfl) ?_
    refine rsl (.agg [(.int .i64 a1_0), (.tree (.pair .int (.pair .int .int)) a1_1), (.tree .int a1_2), (.tree .int a1_3)]) (by kernel_rfl) ?_
    refine rcallM (.agg [(.int .i64 a1_0), (.own ((209, 0), 10) (.slice .int) 0 y9.length)]) [(((208, 0), 10), some (.cells 44 [(.int .i64 a1_0), (.own ((209, 0), 10) (.slice .int) 0 y9.length)])), (((209, 0), 10), some (.mat 23 ((210, 0), 10) .int y9)), (((210, 0), 10), some (.pool 3 .int y9))] [] [(.int .i64 a0), (.agg [(.int .i64 a1_0), (.tree (.pair .int (.pair .int .int)) a1_1), (.tree .int a1_2), (.tree .int a1_3)])] (caps := []) trivial (by kernel_rfl) (by kernel_rfl) (ok_spec_nwLaplacian h9) hb_spec_nwLaplacian (by kernel_rfl) trivial (.cons (.ren (by kernel_rfl)) (.cons (.ren (by kernel_rfl)) .nil)) (reachL_mem (by kernel_rfl) (by kernel_rfl) trivial) (by kernel_rfl) (by kernel_rfl) ?_
    refine rsn2 ((4, 0), 2) ((4, 0), 2) (.cells 44 [(.int .i64 a1_0), (.own ((209, 0), 10) (.slice .int) 0 y9.length)]) (by kernel_rfl) ?_
    refine rs0 (.bool true) (by kernel_rfl) ?_
    refine rnil (tn_ ?_)
    refine ⟨_, Weak.refl _, ?_⟩
    refine awp_ret_ ?_
    obtain rfl := Option.some.inj h
    exact retM_ [(.agg [(.int .i64 a1_0), (.own ((1, 0), 1) (.slice .int) 0 y9.length)]), (.bool true)] (by simp) (weak_ren (tl := [(4, (.box ((0, 0), 1) 0)), (5, (.bool true))]) (g := 2) [(((0, 0), 1), ((4, 0), 2)), (((1, 0), 1), ((209, 0), 10)), (((2, 0), 1), ((210, 0), 10))] (by kernel_rfl) (obsR_of (by kernel_rfl)) (by kernel_rfl)) (by kernel_rfl) (by kernel_rfl) (by kernel_rfl)
def m_laws_FnExactLaplacianOf : AC :=
  (.seq (.region [⟨(some 3), none, (.i (.box 25 (.tmp 1)))⟩, ⟨(some 4), none, (.i (.mov (.cst (.bool false))))⟩] false [])
  (.seq (.region [⟨(some 5), none, (.i (.mov (.cst (.int .i64 1048576))))⟩] false [])
  (.seq (.region [⟨(some 16), none, (.i (.ld false 4 (.tmp 3)))⟩, ⟨(some 17), none, (.i (.mov (.tmp 5)))⟩, ⟨(some 18), none, (.call (.cst (.fn 12 [])) [(.tmp 16), (.tmp 17)] [[none, (some (.pair .int (.pair .int .int))), (some .int), (some .int)], []])⟩, ⟨(some 5), none, (.i (.mov (.tmp 18)))⟩] false [])
  (.seq (.seq (.region [⟨(some 19), none, (.i (.mov (.tmp 5)))⟩, ⟨(some 20), none, (.i (.bin .lss (.tmp 19) (.cst (.int .i64 0))))⟩] false [])
  (.cond (.tmp 20)
    (.seq (.region [⟨(some 4), none, (.i (.mov (.cst (.bool true))))⟩] false [])
    .ret)
    .skip))
  (.seq (.region [⟨(some 22), none, (.i (.mov (.tmp 0)))⟩, ⟨(some 23), none, (.i (.ld false 4 (.tmp 3)))⟩, ⟨(some 24), none, (.call (.cst (.fn 14 [])) [(.tmp 23)] [[none, (some (.pair .int (.pair .int .int))), (some .int), (some .int)]])⟩, ⟨(some 25), none, (.call (.cst (.fn 25 [])) [(.tmp 22), (.tmp 24)] [[], [none, (some (.pair .int (.pair .int .int))), (some .int), (some .int)]])⟩, ⟨(some 21), none, (.i (.mov (.tmp 25)))⟩, ⟨(some 26), none, (.i (.extr 0 (.tmp 21)))⟩, ⟨(some 27), none, (.i (.extr 1 (.tmp 21)))⟩, ⟨(some 6), none, (.i (.alloc 44 [(.int .i64 0), .nils]))⟩, ⟨none, none, (.st false 2 (.tmp 6) (.tmp 26))⟩, ⟨(some 7), none, (.i (.mov (.tmp 27)))⟩] false [])
  (.seq (.region [⟨(some 28), none, (.i (.ld false 4 (.tmp 3)))⟩, ⟨(some 29), none, (.call (.cst (.fn 14 [])) [(.tmp 28)] [[none, (some (.pair .int (.pair .int .int))), (some .int), (some .int)]])⟩, ⟨(some 8), none, (.i (.alloc 30 [(.int .i64 0), .nils, .nils, .nils]))⟩, ⟨none, none, (.st false 4 (.tmp 8) (.tmp 29))⟩] false [])
  (.seq (.region [⟨(some 31), none, (.i (.mov (.tmp 0)))⟩, ⟨(some 32), none, (.i (.ld false 4 (.tmp 8)))⟩, ⟨(some 33), none, (.call (.cst (.fn 26 [])) [(.tmp 31), (.tmp 32)] [[], [none, (some (.pair .int (.pair .int .int))), (some .int), (some .int)]])⟩, ⟨(some 30), none, (.i (.mov (.tmp 33)))⟩, ⟨(some 34), none, (.i (.extr 0 (.tmp 30)))⟩, ⟨(some 35), none, (.i (.extr 1 (.tmp 30)))⟩, ⟨(some 9), none, (.i (.alloc 44 [(.int .i64 0), .nils]))⟩, ⟨none, none, (.st false 2 (.tmp 9) (.tmp 34))⟩, ⟨(some 10), none, (.i (.mov (.tmp 35)))⟩] false [])
  (.seq (.seq (.region [⟨(some 36), none, (.i (.ld false 2 (.tmp 9)))⟩, ⟨(some 37), none, (.i (.ld false 2 (.tmp 6)))⟩, ⟨(some 38), none, (.call (.cst (.fn 27 [])) [(.tmp 36), (.tmp 37)] [[none, (some (.slice .int))], [none, (some (.slice .int))]])⟩, ⟨(some 39), none, (.i (.not (.tmp 38)))⟩, ⟨(some 40), none, (.i (.mov (.tmp 39)))⟩, ⟨(some 41), (some (40, false)), (.i (.mov (.tmp 10)))⟩, ⟨(some 42), (some (40, false)), (.i (.mov (.tmp 7)))⟩, ⟨(some 43), (some (40, false)), (.i (.cmp true 0 (.tmp 41) (.tmp 42)))⟩, ⟨(some 44), none, (.i (.pick (.tmp 40) (.cst (.bool true)) (.tmp 43)))⟩] false [])
  (.cond (.tmp 44)
    (.seq (.region [⟨(some 4), none, (.i (.mov (.cst (.bool false))))⟩] false [])
    .ret)
    .skip))
  (.seq (.seq (.region [⟨(some 45), none, (.i (.ld false 4 (.tmp 8)))⟩, ⟨(some 46), none, (.i (.ld false 4 (.tmp 3)))⟩, ⟨(some 47), none, (.call (.cst (.fn 14 [])) [(.tmp 46)] [[none, (some (.pair .int (.pair .int .int))), (some .int), (some .int)]])⟩, ⟨(some 48), none, (.call (.cst (.fn 16 [])) [(.tmp 45), (.tmp 47)] [[none, (some (.pair .int (.pair .int .int))), (some .int), (some .int)], [none, (some (.pair .int (.pair .int .int))), (some .int), (some .int)]])⟩, ⟨(some 49), none, (.i (.not (.tmp 48)))⟩] true [(0, 2)])
  (.cond (.tmp 49)
    (.seq (.region [⟨(some 4), none, (.i (.mov (.cst (.bool false))))⟩] false [])
    .ret)
    .skip))
  (.seq (.region [⟨(some 11), none, (.i (.mov (.cst (.int .i64 1))))⟩] false [])
  (.seq (.region [⟨(some 50), none, (.i (.ld false 4 (.tmp 8)))⟩, ⟨(some 51), none, (.i (.mov (.tmp 11)))⟩, ⟨(some 52), none, (.call (.cst (.fn 23 [])) [(.tmp 50), (.tmp 51)] [[none, (some (.pair .int (.pair .int .int))), (some .int), (some .int)], []])⟩, ⟨(some 11), none, (.i (.mov (.tmp 52)))⟩] false [])
  (.seq (.seq (.region [⟨(some 53), none, (.i (.mov (.tmp 11)))⟩, ⟨(some 54), none, (.i (.bin .lss (.tmp 53) (.cst (.int .i64 0))))⟩, ⟨(some 55), none, (.i (.mov (.tmp 54)))⟩, ⟨(some 56), (some (55, false)), (.i (.ld false 2 (.tmp 9)))⟩, ⟨(some 57), (some (55, false)), (.i (.ld false 2 (.tmp 6)))⟩, ⟨(some 58), (some (55, false)), (.call (.cst (.fn 27 [])) [(.tmp 56), (.tmp 57)] [[none, (some (.slice .int))], [none, (some (.slice .int))]])⟩, ⟨(some 59), (some (55, false)), (.i (.not (.tmp 58)))⟩, ⟨(some 60), none, (.i (.pick (.tmp 55) (.cst (.bool true)) (.tmp 59)))⟩, ⟨(some 61), none, (.i (.mov (.tmp 60)))⟩, ⟨(some 62), (some (61, false)), (.i (.mov (.tmp 10)))⟩, ⟨(some 63), (some (61, false)), (.i (.mov (.tmp 7)))⟩, ⟨(some 64), (some (61, false)), (.i (.cmp true 0 (.tmp 62) (.tmp 63)))⟩, ⟨(some 65), none, (.i (.pick (.tmp 61) (.cst (.bool true)) (.tmp 64)))⟩] false [])
  (.cond (.tmp 65)
    (.seq (.region [⟨(some 4), none, (.i (.mov (.cst (.bool false))))⟩] false [])
    .ret)
    .skip))
  (.seq (.region [⟨(some 12), none, (.i (.mov (.cst (.int .i64 1))))⟩] false [])
  (.seq (.region [⟨(some 66), none, (.i (.ld false 2 (.tmp 9)))⟩, ⟨(some 67), none, (.i (.mov (.tmp 12)))⟩, ⟨(some 68), none, (.call (.cst (.fn 28 [])) [(.tmp 66), (.tmp 67)] [[none, (some (.slice .int))], []])⟩, ⟨(some 12), none, (.i (.mov (.tmp 68)))⟩] false [])
  (.seq (.region [⟨(some 13), none, (.i (.mov (.cst (.int .i64 1))))⟩] false [])
  (.seq (.region [⟨(some 69), none, (.i (.ld false 2 (.tmp 9)))⟩, ⟨(some 70), none, (.i (.mov (.tmp 13)))⟩, ⟨(some 71), none, (.call (.cst (.fn 29 [])) [(.tmp 69), (.tmp 70)] [[none, (some (.slice .int))], []])⟩, ⟨(some 13), none, (.i (.mov (.tmp 71)))⟩] false [])
  (.seq (.seq (.region [⟨(some 72), none, (.i (.mov (.tmp 13)))⟩, ⟨(some 73), none, (.i (.bin .lss (.tmp 72) (.cst (.int .i64 0))))⟩] false [])
  (.cond (.tmp 73)
    (.seq (.region [⟨(some 4), none, (.i (.mov (.cst (.bool false))))⟩] false [])
    .ret)
    .skip))
  (.seq (.seq (.region [⟨(some 74), none, (.i (.mov (.tmp 13)))⟩, ⟨(some 75), none, (.i (.mov (.tmp 12)))⟩, ⟨(some 76), none, (.i (.bin .neq (.tmp 74) (.tmp 75)))⟩] false [])
  (.cond (.tmp 76)
    (.seq (.region [⟨(some 4), none, (.i (.mov (.cst (.bool false))))⟩] false [])
    .ret)
    .skip))
  (.seq (.region [⟨(some 78), none, (.i (.mov (.tmp 0)))⟩, ⟨(some 79), none, (.i (.ld false 4 (.tmp 3)))⟩, ⟨(some 80), none, (.call (.cst (.fn 14 [])) [(.tmp 79)] [[none, (some (.pair .int (.pair .int .int))), (some .int), (some .int)]])⟩, ⟨(some 81), none, (.call (.cst (.fn 26 [])) [(.tmp 78), (.tmp 80)] [[], [none, (some (.pair .int (.pair .int .int))), (some .int), (some .int)]])⟩, ⟨(some 77), none, (.i (.mov (.tmp 81)))⟩, ⟨(some 82), none, (.i (.extr 0 (.tmp 77)))⟩, ⟨(some 83), none, (.i (.extr 1 (.tmp 77)))⟩, ⟨(some 14), none, (.i (.alloc 44 [(.int .i64 0), .nils]))⟩, ⟨none, none, (.st false 2 (.tmp 14) (.tmp 82))⟩, ⟨(some 15), none, (.i (.mov (.tmp 83)))⟩] false [])
  (.seq (.seq (.region [⟨(some 84), none, (.i (.ld false 2 (.tmp 14)))⟩, ⟨(some 85), none, (.i (.ld false 2 (.tmp 6)))⟩, ⟨(some 86), none, (.call (.cst (.fn 27 [])) [(.tmp 84), (.tmp 85)] [[none, (some (.slice .int))], [none, (some (.slice .int))]])⟩, ⟨(some 87), none, (.i (.not (.tmp 86)))⟩, ⟨(some 88), none, (.i (.mov (.tmp 87)))⟩, ⟨(some 89), (some (88, false)), (.i (.mov (.tmp 15)))⟩, ⟨(some 90), (some (88, false)), (.i (.mov (.tmp 7)))⟩, ⟨(some 91), (some (88, false)), (.i (.cmp true 0 (.tmp 89) (.tmp 90)))⟩, ⟨(some 92), none, (.i (.pick (.tmp 88) (.cst (.bool true)) (.tmp 91)))⟩] false [])
  (.cond (.tmp 92)
    (.seq (.region [⟨(some 4), none, (.i (.mov (.cst (.bool false))))⟩] false [])
    .ret)
    .skip))
  (.seq (.region [⟨(some 13), none, (.i (.mov (.cst (.int .i64 1))))⟩] false [])
  (.seq (.region [⟨(some 93), none, (.i (.ld false 2 (.tmp 9)))⟩, ⟨(some 94), none, (.i (.mov (.tmp 13)))⟩, ⟨(some 95), none, (.call (.cst (.fn 29 [])) [(.tmp 93), (.tmp 94)] [[none, (some (.slice .int))], []])⟩, ⟨(some 13), none, (.i (.mov (.tmp 95)))⟩] false [])
  (.seq (.seq (.region [⟨(some 96), none, (.i (.mov (.tmp 13)))⟩, ⟨(some 97), none, (.i (.bin .lss (.tmp 96) (.cst (.int .i64 0))))⟩] false [])
  (.cond (.tmp 97)
    (.seq (.region [⟨(some 4), none, (.i (.mov (.cst (.bool false))))⟩] false [])
    .ret)
    .skip))
  (.seq (.seq (.region [⟨(some 98), none, (.i (.mov (.tmp 13)))⟩, ⟨(some 99), none, (.i (.mov (.tmp 12)))⟩, ⟨(some 100), none, (.i (.bin .neq (.tmp 98) (.tmp 99)))⟩] false [])
  (.cond (.tmp 100)
    (.seq (.region [⟨(some 4), none, (.i (.mov (.cst (.bool false))))⟩] false [])
    .ret)
    .skip))
  (.seq (.region [⟨(some 4), none, (.i (.mov (.cst (.bool true))))⟩] false [])
  .ret)))))))))))))))))))))))))
def r_laws_FnExactLaplacianOf : List Res := [.tmp 4]
theorem c_laws_FnExactLaplacianOf : compiled Tryd.prog Tryd.f6 = some (m_laws_FnExactLaplacianOf, r_laws_FnExactLaplacianOf) := by kernel_rfl
theorem hb_laws_FnExactLaplacianOf : hasBody Tryd.prog 6 = true := by kernel_rfl
def L_laws_FnExactLaplacianOf (a0 : Int) (a1_0 : Int) (a1_1 : List (Int × Int × Int)) (a1_2 : List Int) (a1_3 : List Int) : Option Bool :=
  Option.bind (L_laws_szNetwork a1_0 a1_1 a1_2 a1_3 1048576) fun y4 =>
cond (decide (y4 < 0))
  (some true)
  (Option.bind (L_laws_toNetwork a1_0 a1_1 a1_2 a1_3) fun y10 =>
  Option.bind (L_spec_LaplacianOf a0 y10.1 y10.2.1 y10.2.2.1 y10.2.2.2) fun y11 =>
  Option.bind (L_laws_toNetwork a1_0 a1_1 a1_2 a1_3) fun y13 =>
  Option.bind (L_impl_LaplacianOf a0 y13.1 y13.2.1 y13.2.2.1 y13.2.2.2) fun y15 =>
  Option.bind (Option.bind (L_laws_eqMatrix y15.2.1 y15.2.2 y11.2.1 y11.2.2) fun y18 =>
    cond (!y18)
      (some true)
      (some (y15.1 != y11.1))) fun l17_m44 =>
  cond l17_m44
    (some false)
    (Option.bind (L_laws_toNetwork a1_0 a1_1 a1_2 a1_3) fun y24 =>
    Option.bind (L_laws_eqNetwork y13.1 y13.2.1 y13.2.2.1 y13.2.2.2 y24.1 y24.2.1 y24.2.2.1 y24.2.2.2) fun y25 =>
    cond (!y25)
      (some false)
      (Option.bind (L_laws_markNetwork y13.1 y13.2.1 y13.2.2.1 y13.2.2.2 1) fun y30 =>
      og (y30.1.length = y13.2.1.length) <|
      og (y30.2.1.length = y13.2.2.1.length) <|
      og (y30.2.2.1.length = y13.2.2.2.length) <|
      Option.bind (cond (decide (y30.2.2.2 < 0))
          (some true)
          (Option.bind (L_laws_eqMatrix y15.2.1 y15.2.2 y11.2.1 y11.2.2) fun y37 =>
          cond (!y37)
            (some true)
            (some (y15.1 != y11.1)))) fun l35_m65 =>
      cond l35_m65
        (some false)
        (Option.bind (L_laws_markMatrix y15.2.1 y15.2.2 1) fun y43 =>
        og (y43.1.length = y15.2.2.length) <|
        Option.bind (L_laws_heldMatrix y15.2.1 y43.1 1) fun y47 =>
        cond (decide (y47 < 0))
          (some false)
          (cond (y47 != y43.2)
            (some false)
            (Option.bind (L_laws_toNetwork a1_0 a1_1 a1_2 a1_3) fun y57 =>
            Option.bind (L_impl_LaplacianOf a0 y57.1 y57.2.1 y57.2.2.1 y57.2.2.2) fun y58 =>
            Option.bind (Option.bind (L_laws_eqMatrix y58.2.1 y58.2.2 y11.2.1 y11.2.2) fun y61 =>
              cond (!y61)
                (some true)
                (some (y58.1 != y11.1))) fun l60_m92 =>
            cond l60_m92
              (some false)
              (Option.bind (L_laws_heldMatrix y15.2.1 y43.1 1) fun y67 =>
              cond (decide (y67 < 0))
                (some false)
                (cond (y67 != y43.2)
                  (some false)
                  (some true)))))))))
def rv_laws_FnExactLaplacianOf (r : Bool) : RV := ⟨false, [(false, [.sc (.bool r)])]⟩
theorem ok_laws_FnExactLaplacianOf {a0 : Int} {a1_0 : Int} {a1_1 : List (Int × Int × Int)} {a1_2 : List Int} {a1_3 : List Int} {r : Bool} (h : L_laws_FnExactLaplacianOf a0 a1_0 a1_1 a1_2 a1_3 = some r) : CallOK Tryd.prog Tab 6 [(.int .i64 a0), (.agg [(.int .i64 a1_0), (.tree (.pair .int (.pair .int .int)) a1_1), (.tree .int a1_2), (.tree .int a1_3)])] (rv_laws_FnExactLaplacianOf r) := by
  refine call_of_ (by kernel_rfl) Tryd.func6 c_laws_FnExactLaplacianOf (n := 101) (by kernel_rfl) (by simp) (tl := [(0, (.int .i64 a0)), (1, (.agg [(.int .i64 a1_0), (.tree (.pair .int (.pair .int .int)) a1_1), (.tree .int a1_2), (.tree .int a1_3)]))]) rfl ?_
  unfold m_laws_FnExactLaplacianOf
  unfold L_laws_FnExactLaplacianOf at h
  refine awp_seqv_ ?_
  refine awp_region_ 3 (by kernel_rfl) ?_
  refine rs1 (.box ((3, 0), 1) 0) ((3, 0), 1) (.cells 25 [(.int .i64 a1_0), (.tree (.pair .int (.pair .int .int)) a1_1), (.tree .int a1_2), (.tree .int a1_3)]) (by kernel_rfl) ?_
  refine rs0 (.bool false) (by kernel_rfl) ?_
  refine rnil (tn_ ?_)
  refine ⟨_, Weak.refl _, ?_⟩
  refine awp_seqv_ ?_
  refine awp_region_ 4 (by kernel_rfl) ?_
  refine rs0 (.int .i64 1048576) (by kernel_rfl) ?_
  refine rnil (tn_ ?_)
  refine ⟨_, Weak.refl _, ?_⟩
  refine awp_seqv_ ?_
  obtain ⟨y4, h4, h⟩ := ob_some h
  refine awp_region_ 8 (by kernel_rfl) ?_
  refine rsl (.agg [(.int .i64 a1_0), (.tree (.pair .int (.pair .int .int)) a1_1), (.tree .int a1_2), (.tree .int a1_3)]) (by kernel_rfl) ?_
  refine rs0 (.int .i64 1048576) (by kernel_rfl) ?_
  refine rcall (.int .i64 y4) [] [(.agg [(.int .i64 a1_0), (.tree (.pair .int (.pair .int .int)) a1_1), (.tree .int a1_2), (.tree .int a1_3)]), (.int .i64 1048576)] _ (caps := []) (args0 := [(.agg [(.int .i64 a1_0), (.tree (.pair .int (.pair .int .int)) a1_1), (.tree .int a1_2), (.tree .int a1_3)]), (.int .i64 1048576)]) trivial (by kernel_rfl) (by kernel_rfl) (by kernel_rfl) (by kernel_rfl) (ok_laws_szNetwork h4) hb_laws_szNetwork (by kernel_rfl) ?_
  refine rs0 (.int .i64 y4) (by kernel_rfl) ?_
  refine rnil (tn_ ?_)
  refine ⟨_, Weak.refl _, ?_⟩
  refine awp_seqv_ ?_
  refine awp_seqv_ ?_
  refine awp_region_ 10 (by kernel_rfl) ?_
  refine rs0 (.int .i64 y4) (by kernel_rfl) ?_
  refine rs0 (.bool (decide (y4 < 0))) (by kernel_rfl) ?_
  refine rnil (tn_ ?_)
  refine ⟨_, Weak.refl _, ?_⟩
  rcases cond_some h with ⟨q7, h⟩ | ⟨q7, h⟩
  · have q7_ := of_decide_eq_true q7
    refine awp_condT_ q7 (by kernel_rfl) ?_
    refine awp_seqv_ ?_
    refine awp_region_ 11 (by kernel_rfl) ?_
    refine rs0 (.bool true) (by kernel_rfl) ?_
    refine rnil (tn_ ?_)
    refine ⟨_, Weak.refl _, ?_⟩
    refine awp_ret_ (tr_ ?_)
    obtain rfl := Option.some.inj h
    exact ret_ [(.bool true)] (by simp) (by kernel_rfl) (p_one rfl (l_sc (by kernel_rfl)) p_nil) (by kernel_rfl) (by kernel_rfl)
  · have q7_ := of_decide_eq_false q7
    refine awp_condF_ q7 (by kernel_rfl) ?_
    refine awp_skip_ (tn_ ?_)
    refine ⟨_, Weak.refl _, ?_⟩
    refine awp_seqv_ ?_
    obtain ⟨y10, h10, h⟩ := ob_some h
    obtain ⟨y11, h11, h⟩ := ob_some h
    refine awp_region_ 20 (by kernel_rfl) ?_
    refine rs0 (.int .i64 a0) (by kernel_rfl) ?_
    refine rsl (.agg [(.int .i64 a1_0), (.tree (.pair .int (.pair .int .int)) a1_1), (.tree .int a1_2), (.tree .int a1_3)]) (by kernel_rfl) ?_
    refine rcall (.agg [(.int .i64 y10.1), (.own ((384, 0), 12) (.pair .int (.pair .int .int)) 0 y10.2.1.length), (.own ((385, 0), 12) .int 0 y10.2.2.1.length), (.own ((386, 0), 12) .int 0 y10.2.2.2.length)]) [(((384, 0), 12), some (.arr 59 (.pair .int (.pair .int .int)) y10.2.1)), (((385, 0), 12), some (.arr 3 .int y10.2.2.1)), (((386, 0), 12), some (.arr 3 .int y10.2.2.2))] [(.agg [(.int .i64 a1_0), (.tree (.pair .int (.pair .int .int)) a1_1), (.tree .int a1_2), (.tree .int a1_3)])] _ (caps := []) (args0 := [(.agg [(.int .i64 a1_0), (.tree (.pair .int (.pair .int .int)) a1_1), (.tree .int a1_2), (.tree .int a1_3)])]) trivial (by kernel_rfl) (by kernel_rfl) (by kernel_rfl) (by kernel_rfl) (ok_laws_toNetwork h10) hb_laws_toNetwork (by kernel_rfl) ?_
    refine rcallM (.tup [(.agg [(.int .i64 y11.2.1), (.own ((401, 0), 13) (.slice .int) 0 y11.2.2.length)]), (.bool y11.1)]) [(((400, 0), 13), some (.cells 44 [(.int .i64 y11.2.1), (.own ((401, 0), 13) (.slice .int) 0 y11.2.2.length)])), (((401, 0), 13), some (.mat 23 ((402, 0), 13) .int y11.2.2)), (((402, 0), 13), some (.pool 3 .int y11.2.2))] [] [(.int .i64 a0), (.agg [(.int .i64 y10.1), (.own ((384, 0), 12) (.pair .int (.pair .int .int)) 0 y10.2.1.length), (.own ((385, 0), 12) .int 0 y10.2.2.1.length), (.own ((386, 0), 12) .int 0 y10.2.2.2.length)])] (caps := []) trivial (by kernel_rfl) (by kernel_rfl) (ok_spec_LaplacianOf h11) hb_spec_LaplacianOf (by kernel_rfl) trivial (.cons (.ren (by kernel_rfl)) (.cons (.agg (.cons (.ren (by kernel_rfl)) (.cons (.gnd (by kernel_rfl) (gd_own (e := 59) ((less_at (by kernel_rfl) (by kernel_rfl) (by kernel_rfl)).trans (by kernel_rfl)) rfl)) (.cons (.gnd (by kernel_rfl) (gd_own (e := 3) ((less_at (by kernel_rfl) (by kernel_rfl) (by kernel_rfl)).trans (by kernel_rfl)) rfl)) (.cons (.gnd (by kernel_rfl) (gd_own (e := 3) ((less_at (by kernel_rfl) (by kernel_rfl) (by kernel_rfl)).trans (by kernel_rfl)) rfl)) .nil))))) .nil)) (reachL_mem (by kernel_rfl) (by kernel_rfl) trivial) (by kernel_rfl) (by kernel_rfl) ?_
    refine rs0 (.tup [(.agg [(.int .i64 y11.2.1), (.own ((401, 0), 13) (.slice .int) 0 y11.2.2.length)]), (.bool y11.1)]) (by kernel_rfl) ?_
    refine rs0 (.agg [(.int .i64 y11.2.1), (.own ((401, 0), 13) (.slice .int) 0 y11.2.2.length)]) (by kernel_rfl) ?_
    refine rs0 (.bool y11.1) (by kernel_rfl) ?_
    refine rs1 (.box ((6, 0), 17) 0) ((6, 0), 17) (.cells 44 [(.int .i64 0), .nils]) (by kernel_rfl) ?_
    refine rsn2 ((6, 0), 17) ((6, 0), 17) (.cells 44 [(.int .i64 y11.2.1), (.own ((401, 0), 13) (.slice .int) 0 y11.2.2.length)]) (by kernel_rfl) ?_
    refine rs0 (.bool y11.1) (by kernel_rfl) ?_
    refine rnil (tn_ ?_)
    refine ⟨_, Weak.refl _, ?_⟩
    refine awp_seqv_ ?_
    obtain ⟨y13, h13, h⟩ := ob_some h
    refine awp_region_ 24 (by kernel_rfl) ?_
    refine rsl (.agg [(.int .i64 a1_0), (.tree (.pair .int (.pair .int .int)) a1_1), (.tree .int a1_2), (.tree .int a1_3)]) (by kernel_rfl) ?_
    refine rcall (.agg [(.int .i64 y13.1), (.own ((464, 0), 21) (.pair .int (.pair .int .int)) 0 y13.2.1.length), (.own ((465, 0), 21) .int 0 y13.2.2.1.length), (.own ((466, 0), 21) .int 0 y13.2.2.2.length)]) [(((464, 0), 21), some (.arr 59 (.pair .int (.pair .int .int)) y13.2.1)), (((465, 0), 21), some (.arr 3 .int y13.2.2.1)), (((466, 0), 21), some (.arr 3 .int y13.2.2.2))] [(.agg [(.int .i64 a1_0), (.tree (.pair .int (.pair .int .int)) a1_1), (.tree .int a1_2), (.tree .int a1_3)])] _ (caps := []) (args0 := [(.agg [(.int .i64 a1_0), (.tree (.pair .int (.pair .int .int)) a1_1), (.tree .int a1_2), (.tree .int a1_3)])]) trivial (by kernel_rfl) (by kernel_rfl) (by kernel_rfl) (by kernel_rfl) (ok_laws_toNetwork h13) hb_laws_toNetwork (by kernel_rfl) ?_
    refine rs1 (.box ((8, 0), 22) 0) ((8, 0), 22) (.cells 30 [(.int .i64 0), .nils, .nils, .nils]) (by kernel_rfl) ?_
    refine rsn2 ((8, 0), 22) ((8, 0), 22) (.cells 30 [(.int .i64 y13.1), (.own ((464, 0), 21) (.pair .int (.pair .int .int)) 0 y13.2.1.length), (.own ((465, 0), 21) .int 0 y13.2.2.1.length), (.own ((466, 0), 21) .int 0 y13.2.2.2.length)]) (by kernel_rfl) ?_
    refine rnil (tn_ ?_)
    refine ⟨_, Weak.refl _, ?_⟩
    refine awp_seqv_ ?_
    obtain ⟨y15, h15, h⟩ := ob_some h
    refine awp_region_ 33 (by kernel_rfl) ?_
    refine rs0 (.int .i64 a0) (by kernel_rfl) ?_
    refine rsl (.agg [(.int .i64 y13.1), (.own ((464, 0), 21) (.pair .int (.pair .int .int)) 0 y13.2.1.length), (.own ((465, 0), 21) .int 0 y13.2.2.1.length), (.own ((466, 0), 21) .int 0 y13.2.2.2.length)]) (by kernel_rfl) ?_
    refine rcallM (.tup [(.agg [(.int .i64 y15.2.1), (.own ((529, 0), 26) (.slice .int) 0 y15.2.2.length)]), (.bool y15.1)]) [(((528, 0), 26), some (.cells 44 [(.int .i64 y15.2.1), (.own ((529, 0), 26) (.slice .int) 0 y15.2.2.length)])), (((529, 0), 26), some (.mat 23 ((530, 0), 26) .int y15.2.2)), (((530, 0), 26), some (.pool 3 .int y15.2.2))] [] [(.int .i64 a0), (.agg [(.int .i64 y13.1), (.own ((464, 0), 21) (.pair .int (.pair .int .int)) 0 y13.2.1.length), (.own ((465, 0), 21) .int 0 y13.2.2.1.length), (.own ((466, 0), 21) .int 0 y13.2.2.2.length)])] (caps := []) trivial (by kernel_rfl) (by kernel_rfl) (ok_impl_LaplacianOf h15) hb_impl_LaplacianOf (by kernel_rfl) trivial (.cons (.ren (by kernel_rfl)) (.cons (.agg (.cons (.ren (by kernel_rfl)) (.cons (.gnd (by kernel_rfl) (gd_own (e := 59) ((less_at (by kernel_rfl) (by kernel_rfl) (by kernel_rfl)).trans (by kernel_rfl)) rfl)) (.cons (.gnd (by kernel_rfl) (gd_own (e := 3) ((less_at (by kernel_rfl) (by kernel_rfl) (by kernel_rfl)).trans (by kernel_rfl)) rfl)) (.cons (.gnd (by kernel_rfl) (gd_own (e := 3) ((less_at (by kernel_rfl) (by kernel_rfl) (by kernel_rfl)).trans (by kernel_rfl)) rfl)) .nil))))) .nil)) (reachL_mem (by kernel_rfl) (by kernel_rfl) trivial) (by kernel_rfl) (by kernel_rfl) ?_
    refine rs0 (.tup [(.agg [(.int .i64 y15.2.1), (.own ((529, 0), 26) (.slice .int) 0 y15.2.2.length)]), (.bool y15.1)]) (by kernel_rfl) ?_
    refine rs0 (.agg [(.int .i64 y15.2.1), (.own ((529, 0), 26) (.slice .int) 0 y15.2.2.length)]) (by kernel_rfl) ?_
    refine rs0 (.bool y15.1) (by kernel_rfl) ?_
    refine rs1 (.box ((9, 0), 30) 0) ((9, 0), 30) (.cells 44 [(.int .i64 0), .nils]) (by kernel_rfl) ?_
    refine rsn2 ((9, 0), 30) ((9, 0), 30) (.cells 44 [(.int .i64 y15.2.1), (.own ((529, 0), 26) (.slice .int) 0 y15.2.2.length)]) (by kernel_rfl) ?_
    refine rs0 (.bool y15.1) (by kernel_rfl) ?_
    refine rnil (tn_ ?_)
    refine ⟨_, Weak.refl _, ?_⟩
    refine awp_seqv_ ?_
    refine awp_seqB h (fun (l17_m44 : Bool) S_ => S_ = ⟨mkTm [(0, (.int .i64 a0)), (3, (.box ((0, 0), 1) 0)), (6, (.box ((1, 0), 1) 0)), (7, (.bool y11.1)), (8, (.box ((2, 0), 1) 0)), (9, (.box ((3, 0), 1) 0)), (10, (.bool y15.1)), (44, (.bool l17_m44))], mkOb (someL [(((0, 0), 1), .cells 25 [(.int .i64 a1_0), (.tree (.pair .int (.pair .int .int)) a1_1), (.tree .int a1_2), (.tree .int a1_3)]), (((1, 0), 1), .cells 44 [(.int .i64 y11.2.1), (.own ((4, 0), 1) (.slice .int) 0 y11.2.2.length)]), (((2, 0), 1), .cells 30 [(.int .i64 y13.1), (.own ((6, 0), 1) (.pair .int (.pair .int .int)) 0 y13.2.1.length), (.own ((7, 0), 1) .int 0 y13.2.2.1.length), (.own ((8, 0), 1) .int 0 y13.2.2.2.length)]), (((3, 0), 1), .cells 44 [(.int .i64 y15.2.1), (.own ((9, 0), 1) (.slice .int) 0 y15.2.2.length)]), (((4, 0), 1), .mat 23 ((5, 0), 1) .int y11.2.2), (((5, 0), 1), .pool 3 .int y11.2.2), (((6, 0), 1), .arr 59 (.pair .int (.pair .int .int)) y13.2.1), (((7, 0), 1), .arr 3 .int y13.2.2.1), (((8, 0), 1), .arr 3 .int y13.2.2.2), (((9, 0), 1), .mat 23 ((10, 0), 1) .int y15.2.2), (((10, 0), 1), .pool 3 .int y15.2.2)]), 2⟩) ?_ ?_
    · intro v_ h
      obtain ⟨y18, h18, h⟩ := ob_some h
      rcases cond_some h with ⟨q19, h⟩ | ⟨q19, h⟩
      · refine awp_region_ 42 (by kernel_rfl) ?_
        refine rsl (.agg [(.int .i64 y15.2.1), (.own ((529, 0), 26) (.slice .int) 0 y15.2.2.length)]) (by kernel_rfl) ?_
        refine rsl (.agg [(.int .i64 y11.2.1), (.own ((401, 0), 13) (.slice .int) 0 y11.2.2.length)]) (by kernel_rfl) ?_
        refine rcall (.bool y18) [] [(.agg [(.int .i64 y15.2.1), (.own ((529, 0), 26) (.slice .int) 0 y15.2.2.length)]), (.agg [(.int .i64 y11.2.1), (.own ((401, 0), 13) (.slice .int) 0 y11.2.2.length)])] _ (caps := []) (args0 := [(.agg [(.int .i64 y15.2.1), (.tree (.slice .int) y15.2.2)]), (.agg [(.int .i64 y11.2.1), (.tree (.slice .int) y11.2.2)])]) trivial (by kernel_rfl) (by kernel_rfl) (gm_cons (gd_agg (gm_cons (by kernel_rfl) (gm_cons (gd_mat (p := ((530, 0), 26)) (e1 := 23) (e := 3) (u := .int) (xss := y15.2.2) (by kernel_rfl) (pool_rows (by kernel_rfl)) rfl) gm_nil))) (gm_cons (gd_agg (gm_cons (by kernel_rfl) (gm_cons (gd_mat (p := ((402, 0), 13)) (e1 := 23) (e := 3) (u := .int) (xss := y11.2.2) (by kernel_rfl) (pool_rows (by kernel_rfl)) rfl) gm_nil))) gm_nil)) (by kernel_rfl) (ok_laws_eqMatrix h18) hb_laws_eqMatrix (by kernel_rfl) ?_
        refine rs0 (.bool (!y18)) (by kernel_rfl) ?_
        refine rs0 (.bool (!y18)) (by kernel_rfl) ?_
        refine rs0 (.tup []) (s_skip (by kernel_rfl) q19) ?_
        refine rs0 (.tup []) (s_skip (by kernel_rfl) q19) ?_
        refine rs0 (.tup []) (s_skip (by kernel_rfl) q19) ?_
        refine rs0 (.bool true) (s_pickT (by kernel_rfl) q19) ?_
        refine rnil (tn_ ?_)
        obtain rfl := Option.some.inj h
        exact ⟨_, (weak_ren [(((0, 0), 1), ((3, 0), 1)), (((1, 0), 1), ((6, 0), 17)), (((4, 0), 1), ((401, 0), 13)), (((5, 0), 1), ((402, 0), 13)), (((2, 0), 1), ((8, 0), 22)), (((6, 0), 1), ((464, 0), 21)), (((7, 0), 1), ((465, 0), 21)), (((8, 0), 1), ((466, 0), 21)), (((3, 0), 1), ((9, 0), 30)), (((9, 0), 1), ((529, 0), 26)), (((10, 0), 1), ((530, 0), 26))] (by kernel_rfl) (obsR_of (by kernel_rfl)) (by kernel_rfl)), rfl⟩
      · refine awp_region_ 42 (by kernel_rfl) ?_
        refine rsl (.agg [(.int .i64 y15.2.1), (.own ((529, 0), 26) (.slice .int) 0 y15.2.2.length)]) (by kernel_rfl) ?_
        refine rsl (.agg [(.int .i64 y11.2.1), (.own ((401, 0), 13) (.slice .int) 0 y11.2.2.length)]) (by kernel_rfl) ?_
        refine rcall (.bool y18) [] [(.agg [(.int .i64 y15.2.1), (.own ((529, 0), 26) (.slice .int) 0 y15.2.2.length)]), (.agg [(.int .i64 y11.2.1), (.own ((401, 0), 13) (.slice .int) 0 y11.2.2.length)])] _ (caps := []) (args0 := [(.agg [(.int .i64 y15.2.1), (.tree (.slice .int) y15.2.2)]), (.agg [(.int .i64 y11.2.1), (.tree (.slice .int) y11.2.2)])]) trivial (by kernel_rfl) (by kernel_rfl) (gm_cons (gd_agg (gm_cons (by kernel_rfl) (gm_cons (gd_mat (p := ((530, 0), 26)) (e1 := 23) (e := 3) (u := .int) (xss := y15.2.2) (by kernel_rfl) (pool_rows (by kernel_rfl)) rfl) gm_nil))) (gm_cons (gd_agg (gm_cons (by kernel_rfl) (gm_cons (gd_mat (p := ((402, 0), 13)) (e1 := 23) (e := 3) (u := .int) (xss := y11.2.2) (by kernel_rfl) (pool_rows (by kernel_rfl)) rfl) gm_nil))) gm_nil)) (by kernel_rfl) (ok_laws_eqMatrix h18) hb_laws_eqMatrix (by kernel_rfl) ?_
        refine rs0 (.bool (!y18)) (by kernel_rfl) ?_
        refine rs0 (.bool (!y18)) (by kernel_rfl) ?_
        refine rs0 (.bool y15.1) (s_gd (by kernel_rfl) q19 (by kernel_rfl)) ?_
        refine rs0 (.bool y11.1) (s_gd (by kernel_rfl) q19 (by kernel_rfl)) ?_
        refine rs0 (.bool (y15.1 != y11.1)) (s_gd (by kernel_rfl) q19 (by kernel_rfl)) ?_
        refine rs0 (.bool (y15.1 != y11.1)) (s_pickF (by kernel_rfl) q19) ?_
        refine rnil (tn_ ?_)
        obtain rfl := Option.some.inj h
        exact ⟨_, (weak_ren [(((0, 0), 1), ((3, 0), 1)), (((1, 0), 1), ((6, 0), 17)), (((4, 0), 1), ((401, 0), 13)), (((5, 0), 1), ((402, 0), 13)), (((2, 0), 1), ((8, 0), 22)), (((6, 0), 1), ((464, 0), 21)), (((7, 0), 1), ((465, 0), 21)), (((8, 0), 1), ((466, 0), 21)), (((3, 0), 1), ((9, 0), 30)), (((9, 0), 1), ((529, 0), 26)), (((10, 0), 1), ((530, 0), 26))] (by kernel_rfl) (obsR_of (by kernel_rfl)) (by kernel_rfl)), rfl⟩
    · rintro l17_m44 _ rfl h
      (try dsimp only at h)
      rcases cond_some h with ⟨q20, h⟩ | ⟨q20, h⟩
      · refine awp_condT_ q20 (by kernel_rfl) ?_
        refine awp_seqv_ ?_
        refine awp_region_ 3 (by kernel_rfl) ?_
        refine rs0 (.bool false) (by kernel_rfl) ?_
        refine rnil (tn_ ?_)
        refine ⟨_, Weak.refl _, ?_⟩
        refine awp_ret_ (tr_ ?_)
        obtain rfl := Option.some.inj h
        exact ret_ [(.bool false)] (by simp) (by kernel_rfl) (p_one rfl (l_sc (by kernel_rfl)) p_nil) (by kernel_rfl) (by kernel_rfl)
      · refine awp_condF_ q20 (by kernel_rfl) ?_
        refine awp_skip_ (tn_ ?_)
        refine ⟨_, Weak.refl _, ?_⟩
        refine awp_seqv_ ?_
        refine awp_seqv_ ?_
        obtain ⟨y24, h24, h⟩ := ob_some h
        obtain ⟨y25, h25, h⟩ := ob_some h
        refine awp_regionD_ 7 (by kernel_rfl) ?_
        refine dsl (.agg [(.int .i64 y13.1), (.own ((6, 0), 1) (.pair .int (.pair .int .int)) 0 y13.2.1.length), (.own ((7, 0), 1) .int 0 y13.2.2.1.length), (.own ((8, 0), 1) .int 0 y13.2.2.2.length)]) (by kernel_rfl) ?_
        refine dsl (.agg [(.int .i64 a1_0), (.tree (.pair .int (.pair .int .int)) a1_1), (.tree .int a1_2), (.tree .int a1_3)]) (by kernel_rfl) ?_
        refine dcall (.agg [(.int .i64 y24.1), (.own ((752, 0), 4) (.pair .int (.pair .int .int)) 0 y24.2.1.length), (.own ((753, 0), 4) .int 0 y24.2.2.1.length), (.own ((754, 0), 4) .int 0 y24.2.2.2.length)]) [(((752, 0), 4), some (.arr 59 (.pair .int (.pair .int .int)) y24.2.1)), (((753, 0), 4), some (.arr 3 .int y24.2.2.1)), (((754, 0), 4), some (.arr 3 .int y24.2.2.2))] [(.agg [(.int .i64 a1_0), (.tree (.pair .int (.pair .int .int)) a1_1), (.tree .int a1_2), (.tree .int a1_3)])] _ (caps := []) (args0 := [(.agg [(.int .i64 a1_0), (.tree (.pair .int (.pair .int .int)) a1_1), (.tree .int a1_2), (.tree .int a1_3)])]) trivial (by kernel_rfl) (by kernel_rfl) (by kernel_rfl) (by kernel_rfl) (ok_laws_toNetwork h24) hb_laws_toNetwork (by kernel_rfl) ?_
        refine dcall (.bool y25) [] [(.agg [(.int .i64 y13.1), (.own ((6, 0), 1) (.pair .int (.pair .int .int)) 0 y13.2.1.length), (.own ((7, 0), 1) .int 0 y13.2.2.1.length), (.own ((8, 0), 1) .int 0 y13.2.2.2.length)]), (.agg [(.int .i64 y24.1), (.own ((752, 0), 4) (.pair .int (.pair .int .int)) 0 y24.2.1.length), (.own ((753, 0), 4) .int 0 y24.2.2.1.length), (.own ((754, 0), 4) .int 0 y24.2.2.2.length)])] _ (caps := []) (args0 := [(.agg [(.int .i64 y13.1), (.tree (.pair .int (.pair .int .int)) y13.2.1), (.tree .int y13.2.2.1), (.tree .int y13.2.2.2)]), (.agg [(.int .i64 y24.1), (.tree (.pair .int (.pair .int .int)) y24.2.1), (.tree .int y24.2.2.1), (.tree .int y24.2.2.2)])]) trivial (by kernel_rfl) (by kernel_rfl) (gm_cons (gd_agg (gm_cons (by kernel_rfl) (gm_cons (gd_own (e := 59) (by kernel_rfl) rfl) (gm_cons (gd_own (e := 3) (by kernel_rfl) rfl) (gm_cons (gd_own (e := 3) (by kernel_rfl) rfl) gm_nil))))) (gm_cons (gd_agg (gm_cons (by kernel_rfl) (gm_cons (gd_own (e := 59) (by kernel_rfl) rfl) (gm_cons (gd_own (e := 3) (by kernel_rfl) rfl) (gm_cons (gd_own (e := 3) (by kernel_rfl) rfl) gm_nil))))) gm_nil)) (by kernel_rfl) (ok_laws_eqNetwork h25) hb_laws_eqNetwork (by kernel_rfl) ?_
        refine ds0 (.bool (!y25)) (by kernel_rfl) ?_
        refine dnil (badB_spec (by kernel_rfl)) (tn_ ?_)
        refine ⟨_, Weak.refl _, ?_⟩
        rcases cond_some h with ⟨q26, h⟩ | ⟨q26, h⟩
        · refine awp_condT_ q26 (by kernel_rfl) ?_
          refine awp_seqv_ ?_
          refine awp_region_ 8 (by kernel_rfl) ?_
          refine rs0 (.bool false) (by kernel_rfl) ?_
          refine rnil (tn_ ?_)
          refine ⟨_, Weak.refl _, ?_⟩
          refine awp_ret_ (tr_ ?_)
          obtain rfl := Option.some.inj h
          exact ret_ [(.bool false)] (by simp) (by kernel_rfl) (p_one rfl (l_sc (by kernel_rfl)) p_nil) (by kernel_rfl) (by kernel_rfl)
        · refine awp_condF_ q26 (by kernel_rfl) ?_
          refine awp_skip_ (tn_ ?_)
          refine ⟨_, Weak.refl _, ?_⟩
          refine awp_seqv_ ?_
          refine awp_region_ 8 (by kernel_rfl) ?_
          refine rs0 (.int .i64 1) (by kernel_rfl) ?_
          refine rnil (tn_ ?_)
          refine ⟨_, Weak.refl _, ?_⟩
          refine awp_seqv_ ?_
          obtain ⟨y30, h30, h⟩ := ob_some h
          obtain ⟨g31, h⟩ := og_some h
          obtain ⟨g32, h⟩ := og_some h
          obtain ⟨g33, h⟩ := og_some h
          refine awp_region_ 12 (by kernel_rfl) ?_
          refine rsl (.agg [(.int .i64 y13.1), (.own ((6, 0), 1) (.pair .int (.pair .int .int)) 0 y13.2.1.length), (.own ((7, 0), 1) .int 0 y13.2.2.1.length), (.own ((8, 0), 1) .int 0 y13.2.2.2.length)]) (by kernel_rfl) ?_
          refine rs0 (.int .i64 1) (by kernel_rfl) ?_
          refine rcallM (.int .i64 y30.2.2.2) [(((6, 0), 1), some (.arr 59 (.pair .int (.pair .int .int)) y30.1)), (((7, 0), 1), some (.arr 3 .int y30.2.1)), (((8, 0), 1), some (.arr 3 .int y30.2.2.1)), (((6, 0), 1), none), (((7, 0), 1), none), (((8, 0), 1), none)] [(((0, 0), 0), ((6, 0), 1)), (((1, 0), 0), ((7, 0), 1)), (((2, 0), 0), ((8, 0), 1))] [(.agg [(.int .i64 y13.1), (.own ((6, 0), 1) (.pair .int (.pair .int .int)) 0 y13.2.1.length), (.own ((7, 0), 1) .int 0 y13.2.2.1.length), (.own ((8, 0), 1) .int 0 y13.2.2.2.length)]), (.int .i64 1)] (caps := []) trivial (by kernel_rfl) (by kernel_rfl) (ok_laws_markNetwork h30 rfl rfl rfl) hb_laws_markNetwork (by kernel_rfl) ⟨(by kernel_rfl), ⟨(by kernel_rfl), ⟨(by kernel_rfl), trivial⟩⟩⟩ (.cons (.agg (.cons (.ren (by kernel_rfl)) (.cons (.ren (by kernel_rfl)) (.cons (.ren (by kernel_rfl)) (.cons (.ren (by kernel_rfl)) .nil))))) (.cons (.ren (by kernel_rfl)) .nil)) (reachL_mem (by kernel_rfl) (by kernel_rfl) ⟨(re_arg (by kernel_rfl)), ⟨(re_arg (by kernel_rfl)), ⟨(re_arg (by kernel_rfl)), trivial⟩⟩⟩) (by kernel_rfl) (by kernel_rfl) ?_
          refine rs0 (.int .i64 y30.2.2.2) (by kernel_rfl) ?_
          refine rnil (tn_ ?_)
          refine ⟨_, Weak.refl _, ?_⟩
          refine awp_seqv_ ?_
          refine awp_seqB h (fun (l35_m65 : Bool) S_ => S_ = ⟨mkTm [(0, (.int .i64 a0)), (3, (.box ((0, 0), 1) 0)), (6, (.box ((1, 0), 1) 0)), (7, (.bool y11.1)), (9, (.box ((2, 0), 1) 0)), (65, (.bool l35_m65))], mkOb (someL [(((0, 0), 1), .cells 25 [(.int .i64 a1_0), (.tree (.pair .int (.pair .int .int)) a1_1), (.tree .int a1_2), (.tree .int a1_3)]), (((1, 0), 1), .cells 44 [(.int .i64 y11.2.1), (.own ((3, 0), 1) (.slice .int) 0 y11.2.2.length)]), (((2, 0), 1), .cells 44 [(.int .i64 y15.2.1), (.own ((5, 0), 1) (.slice .int) 0 y15.2.2.length)]), (((3, 0), 1), .mat 23 ((4, 0), 1) .int y11.2.2), (((4, 0), 1), .pool 3 .int y11.2.2), (((5, 0), 1), .mat 23 ((6, 0), 1) .int y15.2.2), (((6, 0), 1), .pool 3 .int y15.2.2)]), 2⟩) ?_ ?_
          · intro v_ h
            rcases cond_some h with ⟨q36, h⟩ | ⟨q36, h⟩
            · have q36_ := of_decide_eq_true q36
              refine awp_region_ 25 (by kernel_rfl) ?_
              refine rs0 (.int .i64 y30.2.2.2) (by kernel_rfl) ?_
              refine rs0 (.bool (decide (y30.2.2.2 < 0))) (by kernel_rfl) ?_
              refine rs0 (.bool (decide (y30.2.2.2 < 0))) (by kernel_rfl) ?_
              refine rs0 (.tup []) (s_skip (by kernel_rfl) q36) ?_
              refine rs0 (.tup []) (s_skip (by kernel_rfl) q36) ?_
              refine rs0 (.tup []) (s_skip (by kernel_rfl) q36) ?_
              refine rs0 (.tup []) (s_skip (by kernel_rfl) q36) ?_
              refine rs0 (.bool true) (s_pickT (by kernel_rfl) q36) ?_
              refine rs0 (.bool true) (by kernel_rfl) ?_
              refine rs0 (.tup []) (by kernel_rfl) ?_
              refine rs0 (.tup []) (by kernel_rfl) ?_
              refine rs0 (.tup []) (by kernel_rfl) ?_
              refine rs0 (.bool true) (by kernel_rfl) ?_
              refine rnil (tn_ ?_)
              obtain rfl := Option.some.inj h
              exact ⟨_, (weak_ren [(((3, 0), 1), ((4, 0), 1)), (((4, 0), 1), ((5, 0), 1)), (((2, 0), 1), ((3, 0), 1)), (((5, 0), 1), ((9, 0), 1)), (((6, 0), 1), ((10, 0), 1))] (by kernel_rfl) (obsR_of (by kernel_rfl)) (by kernel_rfl)), rfl⟩
            · have q36_ := of_decide_eq_false q36
              obtain ⟨y37, h37, h⟩ := ob_some h
              rcases cond_some h with ⟨q38, h⟩ | ⟨q38, h⟩
              · refine awp_region_ 25 (by kernel_rfl) ?_
                refine rs0 (.int .i64 y30.2.2.2) (by kernel_rfl) ?_
                refine rs0 (.bool (decide (y30.2.2.2 < 0))) (by kernel_rfl) ?_
                refine rs0 (.bool (decide (y30.2.2.2 < 0))) (by kernel_rfl) ?_
                refine rsl (.agg [(.int .i64 y15.2.1), (.own ((9, 0), 1) (.slice .int) 0 y15.2.2.length)]) (s_gd (by kernel_rfl) q36 (by kernel_rfl)) ?_
                refine rsl (.agg [(.int .i64 y11.2.1), (.own ((4, 0), 1) (.slice .int) 0 y11.2.2.length)]) (s_gd (by kernel_rfl) q36 (by kernel_rfl)) ?_
                refine rcall (.bool y37) [] [(.agg [(.int .i64 y15.2.1), (.own ((9, 0), 1) (.slice .int) 0 y15.2.2.length)]), (.agg [(.int .i64 y11.2.1), (.own ((4, 0), 1) (.slice .int) 0 y11.2.2.length)])] _ (caps := []) (args0 := [(.agg [(.int .i64 y15.2.1), (.tree (.slice .int) y15.2.2)]), (.agg [(.int .i64 y11.2.1), (.tree (.slice .int) y11.2.2)])]) (gdOK_b (by kernel_rfl) q36) (by kernel_rfl) (by kernel_rfl) (gm_cons (gd_agg (gm_cons (by kernel_rfl) (gm_cons (gd_mat (p := ((10, 0), 1)) (e1 := 23) (e := 3) (u := .int) (xss := y15.2.2) (by kernel_rfl) (pool_rows (by kernel_rfl)) rfl) gm_nil))) (gm_cons (gd_agg (gm_cons (by kernel_rfl) (gm_cons (gd_mat (p := ((5, 0), 1)) (e1 := 23) (e := 3) (u := .int) (xss := y11.2.2) (by kernel_rfl) (pool_rows (by kernel_rfl)) rfl) gm_nil))) gm_nil)) (by kernel_rfl) (ok_laws_eqMatrix h37) hb_laws_eqMatrix (by kernel_rfl) ?_
                refine rs0 (.bool (!y37)) (s_gd (by kernel_rfl) q36 (by kernel_rfl)) ?_
                refine rs0 (.bool (!y37)) (s_pickF (by kernel_rfl) q36) ?_
                refine rs0 (.bool (!y37)) (by kernel_rfl) ?_
                refine rs0 (.tup []) (s_skip (by kernel_rfl) q38) ?_
                refine rs0 (.tup []) (s_skip (by kernel_rfl) q38) ?_
                refine rs0 (.tup []) (s_skip (by kernel_rfl) q38) ?_
                refine rs0 (.bool true) (s_pickT (by kernel_rfl) q38) ?_
                refine rnil (tn_ ?_)
                obtain rfl := Option.some.inj h
                exact ⟨_, (weak_ren [(((3, 0), 1), ((4, 0), 1)), (((4, 0), 1), ((5, 0), 1)), (((2, 0), 1), ((3, 0), 1)), (((5, 0), 1), ((9, 0), 1)), (((6, 0), 1), ((10, 0), 1))] (by kernel_rfl) (obsR_of (by kernel_rfl)) (by kernel_rfl)), rfl⟩
              · refine awp_region_ 25 (by kernel_rfl) ?_
                refine rs0 (.int .i64 y30.2.2.2) (by kernel_rfl) ?_
                refine rs0 (.bool (decide (y30.2.2.2 < 0))) (by kernel_rfl) ?_
                refine rs0 (.bool (decide (y30.2.2.2 < 0))) (by kernel_rfl) ?_
                refine rsl (.agg [(.int .i64 y15.2.1), (.own ((9, 0), 1) (.slice .int) 0 y15.2.2.length)]) (s_gd (by kernel_rfl) q36 (by kernel_rfl)) ?_
                refine rsl (.agg [(.int .i64 y11.2.1), (.own ((4, 0), 1) (.slice .int) 0 y11.2.2.length)]) (s_gd (by kernel_rfl) q36 (by kernel_rfl)) ?_
                refine rcall (.bool y37) [] [(.agg [(.int .i64 y15.2.1), (.own ((9, 0), 1) (.slice .int) 0 y15.2.2.length)]), (.agg [(.int .i64 y11.2.1), (.own ((4, 0), 1) (.slice .int) 0 y11.2.2.length)])] _ (caps := []) (args0 := [(.agg [(.int .i64 y15.2.1), (.tree (.slice .int) y15.2.2)]), (.agg [(.int .i64 y11.2.1), (.tree (.slice .int) y11.2.2)])]) (gdOK_b (by kernel_rfl) q36) (by kernel_rfl) (by kernel_rfl) (gm_cons (gd_agg (gm_cons (by kernel_rfl) (gm_cons (gd_mat (p := ((10, 0), 1)) (e1 := 23) (e := 3) (u := .int) (xss := y15.2.2) (by kernel_rfl) (pool_rows (by kernel_rfl)) rfl) gm_nil))) (gm_cons (gd_agg (gm_cons (by kernel_rfl) (gm_cons (gd_mat (p := ((5, 0), 1)) (e1 := 23) (e := 3) (u := .int) (xss := y11.2.2) (by kernel_rfl) (pool_rows (by kernel_rfl)) rfl) gm_nil))) gm_nil)) (by kernel_rfl) (ok_laws_eqMatrix h37) hb_laws_eqMatrix (by kernel_rfl) ?_
                refine rs0 (.bool (!y37)) (s_gd (by kernel_rfl) q36 (by kernel_rfl)) ?_
                refine rs0 (.bool (!y37)) (s_pickF (by kernel_rfl) q36) ?_
                refine rs0 (.bool (!y37)) (by kernel_rfl) ?_
                refine rs0 (.bool y15.1) (s_gd (by kernel_rfl) q38 (by kernel_rfl)) ?_
                refine rs0 (.bool y11.1) (s_gd (by kernel_rfl) q38 (by kernel_rfl)) ?_
                refine rs0 (.bool (y15.1 != y11.1)) (s_gd (by kernel_rfl) q38 (by kernel_rfl)) ?_
                refine rs0 (.bool (y15.1 != y11.1)) (s_pickF (by kernel_rfl) q38) ?_
                refine rnil (tn_ ?_)
                obtain rfl := Option.some.inj h
                exact ⟨_, (weak_ren [(((3, 0), 1), ((4, 0), 1)), (((4, 0), 1), ((5, 0), 1)), (((2, 0), 1), ((3, 0), 1)), (((5, 0), 1), ((9, 0), 1)), (((6, 0), 1), ((10, 0), 1))] (by kernel_rfl) (obsR_of (by kernel_rfl)) (by kernel_rfl)), rfl⟩
          · rintro l35_m65 _ rfl h
            (try dsimp only at h)
            rcases cond_some h with ⟨q39, h⟩ | ⟨q39, h⟩
            · refine awp_condT_ q39 (by kernel_rfl) ?_
              refine awp_seqv_ ?_
              refine awp_region_ 3 (by kernel_rfl) ?_
              refine rs0 (.bool false) (by kernel_rfl) ?_
              refine rnil (tn_ ?_)
              refine ⟨_, Weak.refl _, ?_⟩
              refine awp_ret_ (tr_ ?_)
              obtain rfl := Option.some.inj h
              exact ret_ [(.bool false)] (by simp) (by kernel_rfl) (p_one rfl (l_sc (by kernel_rfl)) p_nil) (by kernel_rfl) (by kernel_rfl)
            · refine awp_condF_ q39 (by kernel_rfl) ?_
              refine awp_skip_ (tn_ ?_)
              refine ⟨_, Weak.refl _, ?_⟩
              refine awp_seqv_ ?_
              refine awp_region_ 3 (by kernel_rfl) ?_
              refine rs0 (.int .i64 1) (by kernel_rfl) ?_
              refine rnil (tn_ ?_)
              refine ⟨_, Weak.refl _, ?_⟩
              refine awp_seqv_ ?_
              obtain ⟨y43, h43, h⟩ := ob_some h
              obtain ⟨g44, h⟩ := og_some h
              refine awp_region_ 7 (by kernel_rfl) ?_
              refine rsl (.agg [(.int .i64 y15.2.1), (.own ((5, 0), 1) (.slice .int) 0 y15.2.2.length)]) (by kernel_rfl) ?_
              refine rs0 (.int .i64 1) (by kernel_rfl) ?_
              refine rcallM (.int .i64 y43.2) [(((5, 0), 1), some (.mat 23 ((1088, 0), 5) .int y43.1)), (((1088, 0), 5), some (.pool 3 .int y43.1)), (((5, 0), 1), none), (((6, 0), 1), some (.pool 3 .int []))] [(((0, 0), 0), ((5, 0), 1)), (((1, 0), 0), ((6, 0), 1))] [(.agg [(.int .i64 y15.2.1), (.own ((5, 0), 1) (.slice .int) 0 y15.2.2.length)]), (.int .i64 1)] (caps := []) trivial (by kernel_rfl) (by kernel_rfl) (ok_laws_markMatrix h43 rfl) hb_laws_markMatrix (by kernel_rfl) ⟨(by kernel_rfl), ⟨(by kernel_rfl), trivial⟩⟩ (.cons (.agg (.cons (.ren (by kernel_rfl)) (.cons (.ren (by kernel_rfl)) .nil))) (.cons (.ren (by kernel_rfl)) .nil)) (reachL_mem (by kernel_rfl) (by kernel_rfl) ⟨(re_arg (by kernel_rfl)), ⟨re_rows (o := ((5, 0), 1)) (p := ((6, 0), 1)) (e1 := 23) (m := y15.2.2.length) (u := .int) (xss := y15.2.2) (re_arg (by kernel_rfl)) (by kernel_rfl), trivial⟩⟩) (by kernel_rfl) (by kernel_rfl) ?_
              refine rs0 (.int .i64 y43.2) (by kernel_rfl) ?_
              refine rnil (tn_ ?_)
              refine ⟨_, Weak.refl _, ?_⟩
              refine awp_seqv_ ?_
              refine awp_region_ 8 (by kernel_rfl) ?_
              refine rs0 (.int .i64 1) (by kernel_rfl) ?_
              refine rnil (tn_ ?_)
              refine ⟨_, Weak.refl _, ?_⟩
              refine awp_seqv_ ?_
              obtain ⟨y47, h47, h⟩ := ob_some h
              refine awp_region_ 12 (by kernel_rfl) ?_
              refine rsl (.agg [(.int .i64 y15.2.1), (.own ((5, 0), 1) (.slice .int) 0 y15.2.2.length)]) (by kernel_rfl) ?_
              refine rs0 (.int .i64 1) (by kernel_rfl) ?_
              refine rcall (.int .i64 y47) [] [(.agg [(.int .i64 y15.2.1), (.own ((5, 0), 1) (.slice .int) 0 y15.2.2.length)]), (.int .i64 1)] _ (caps := []) (args0 := [(.agg [(.int .i64 y15.2.1), (.tree (.slice .int) y43.1)]), (.int .i64 1)]) trivial (by kernel_rfl) (by kernel_rfl) (gm_cons (gd_agg (gm_cons (by kernel_rfl) (gm_cons (gd_mat (p := ((1088, 0), 5)) (e1 := 23) (e := 3) (u := .int) (xss := y43.1) (by kernel_rfl) (pool_rows (by kernel_rfl)) g44.symm) gm_nil))) (gm_cons (by kernel_rfl) gm_nil)) (by kernel_rfl) (ok_laws_heldMatrix h47) hb_laws_heldMatrix (by kernel_rfl) ?_
              refine rs0 (.int .i64 y47) (by kernel_rfl) ?_
              refine rnil (tn_ ?_)
              refine ⟨_, Weak.refl _, ?_⟩
              refine awp_seqv_ ?_
              refine awp_seqv_ ?_
              refine awp_region_ 14 (by kernel_rfl) ?_
              refine rs0 (.int .i64 y47) (by kernel_rfl) ?_
              refine rs0 (.bool (decide (y47 < 0))) (by kernel_rfl) ?_
              refine rnil (tn_ ?_)
              refine ⟨_, Weak.refl _, ?_⟩
              rcases cond_some h with ⟨q50, h⟩ | ⟨q50, h⟩
              · have q50_ := of_decide_eq_true q50
                refine awp_condT_ q50 (by kernel_rfl) ?_
                refine awp_seqv_ ?_
                refine awp_region_ 15 (by kernel_rfl) ?_
                refine rs0 (.bool false) (by kernel_rfl) ?_
                refine rnil (tn_ ?_)
                refine ⟨_, Weak.refl _, ?_⟩
                refine awp_ret_ (tr_ ?_)
                obtain rfl := Option.some.inj h
                exact ret_ [(.bool false)] (by simp) (by kernel_rfl) (p_one rfl (l_sc (by kernel_rfl)) p_nil) (by kernel_rfl) (by kernel_rfl)
              · have q50_ := of_decide_eq_false q50
                refine awp_condF_ q50 (by kernel_rfl) ?_
                refine awp_skip_ (tn_ ?_)
                refine ⟨_, Weak.refl _, ?_⟩
                refine awp_seqv_ ?_
                refine awp_seqv_ ?_
                refine awp_region_ 17 (by kernel_rfl) ?_
                refine rs0 (.int .i64 y47) (by kernel_rfl) ?_
                refine rs0 (.int .i64 y43.2) (by kernel_rfl) ?_
                refine rs0 (.bool (y47 != y43.2)) (by kernel_rfl) ?_
                refine rnil (tn_ ?_)
                refine ⟨_, Weak.refl _, ?_⟩
                rcases cond_some h with ⟨q54, h⟩ | ⟨q54, h⟩
                · refine awp_condT_ q54 (by kernel_rfl) ?_
                  refine awp_seqv_ ?_
                  refine awp_region_ 18 (by kernel_rfl) ?_
                  refine rs0 (.bool false) (by kernel_rfl) ?_
                  refine rnil (tn_ ?_)
                  refine ⟨_, Weak.refl _, ?_⟩
                  refine awp_ret_ (tr_ ?_)
                  obtain rfl := Option.some.inj h
                  exact ret_ [(.bool false)] (by simp) (by kernel_rfl) (p_one rfl (l_sc (by kernel_rfl)) p_nil) (by kernel_rfl) (by kernel_rfl)
                · refine awp_condF_ q54 (by kernel_rfl) ?_
                  refine awp_skip_ (tn_ ?_)
                  refine ⟨_, Weak.refl _, ?_⟩
                  refine awp_seqv_ ?_
                  obtain ⟨y57, h57, h⟩ := ob_some h
                  obtain ⟨y58, h58, h⟩ := ob_some h
                  refine awp_region_ 27 (by kernel_rfl) ?_
                  refine rs0 (.int .i64 a0) (by kernel_rfl) ?_
                  refine rsl (.agg [(.int .i64 a1_0), (.tree (.pair .int (.pair .int .int)) a1_1), (.tree .int a1_2), (.tree .int a1_3)]) (by kernel_rfl) ?_
                  refine rcall (.agg [(.int .i64 y57.1), (.own ((1280, 0), 19) (.pair .int (.pair .int .int)) 0 y57.2.1.length), (.own ((1281, 0), 19) .int 0 y57.2.2.1.length), (.own ((1282, 0), 19) .int 0 y57.2.2.2.length)]) [(((1280, 0), 19), some (.arr 59 (.pair .int (.pair .int .int)) y57.2.1)), (((1281, 0), 19), some (.arr 3 .int y57.2.2.1)), (((1282, 0), 19), some (.arr 3 .int y57.2.2.2))] [(.agg [(.int .i64 a1_0), (.tree (.pair .int (.pair .int .int)) a1_1), (.tree .int a1_2), (.tree .int a1_3)])] _ (caps := []) (args0 := [(.agg [(.int .i64 a1_0), (.tree (.pair .int (.pair .int .int)) a1_1), (.tree .int a1_2), (.tree .int a1_3)])]) trivial (by kernel_rfl) (by kernel_rfl) (by kernel_rfl) (by kernel_rfl) (ok_laws_toNetwork h57) hb_laws_toNetwork (by kernel_rfl) ?_
                  refine rcallM (.tup [(.agg [(.int .i64 y58.2.1), (.own ((1297, 0), 20) (.slice .int) 0 y58.2.2.length)]), (.bool y58.1)]) [(((1296, 0), 20), some (.cells 44 [(.int .i64 y58.2.1), (.own ((1297, 0), 20) (.slice .int) 0 y58.2.2.length)])), (((1297, 0), 20), some (.mat 23 ((1298, 0), 20) .int y58.2.2)), (((1298, 0), 20), some (.pool 3 .int y58.2.2))] [] [(.int .i64 a0), (.agg [(.int .i64 y57.1), (.own ((1280, 0), 19) (.pair .int (.pair .int .int)) 0 y57.2.1.length), (.own ((1281, 0), 19) .int 0 y57.2.2.1.length), (.own ((1282, 0), 19) .int 0 y57.2.2.2.length)])] (caps := []) trivial (by kernel_rfl) (by kernel_rfl) (ok_impl_LaplacianOf h58) hb_impl_LaplacianOf (by kernel_rfl) trivial (.cons (.ren (by kernel_rfl)) (.cons (.agg (.cons (.ren (by kernel_rfl)) (.cons (.gnd (by kernel_rfl) (gd_own (e := 59) ((less_at (by kernel_rfl) (by kernel_rfl) (by kernel_rfl)).trans (by kernel_rfl)) rfl)) (.cons (.gnd (by kernel_rfl) (gd_own (e := 3) ((less_at (by kernel_rfl) (by kernel_rfl) (by kernel_rfl)).trans (by kernel_rfl)) rfl)) (.cons (.gnd (by kernel_rfl) (gd_own (e := 3) ((less_at (by kernel_rfl) (by kernel_rfl) (by kernel_rfl)).trans (by kernel_rfl)) rfl)) .nil))))) .nil)) (reachL_mem (by kernel_rfl) (by kernel_rfl) trivial) (by kernel_rfl) (by kernel_rfl) ?_
                  refine rs0 (.tup [(.agg [(.int .i64 y58.2.1), (.own ((1297, 0), 20) (.slice .int) 0 y58.2.2.length)]), (.bool y58.1)]) (by kernel_rfl) ?_
                  refine rs0 (.agg [(.int .i64 y58.2.1), (.own ((1297, 0), 20) (.slice .int) 0 y58.2.2.length)]) (by kernel_rfl) ?_
                  refine rs0 (.bool y58.1) (by kernel_rfl) ?_
                  refine rs1 (.box ((14, 0), 24) 0) ((14, 0), 24) (.cells 44 [(.int .i64 0), .nils]) (by kernel_rfl) ?_
                  refine rsn2 ((14, 0), 24) ((14, 0), 24) (.cells 44 [(.int .i64 y58.2.1), (.own ((1297, 0), 20) (.slice .int) 0 y58.2.2.length)]) (by kernel_rfl) ?_
                  refine rs0 (.bool y58.1) (by kernel_rfl) ?_
                  refine rnil (tn_ ?_)
                  refine ⟨_, Weak.refl _, ?_⟩
                  refine awp_seqv_ ?_
                  refine awp_seqB h (fun (l60_m92 : Bool) S_ => S_ = ⟨mkTm [(9, (.box ((0, 0), 1) 0)), (12, (.int .i64 y43.2)), (92, (.bool l60_m92))], mkOb (someL [(((0, 0), 1), .cells 44 [(.int .i64 y15.2.1), (.own ((1, 0), 1) (.slice .int) 0 y43.1.length)]), (((1, 0), 1), .mat 23 ((2, 0), 1) .int y43.1), (((2, 0), 1), .pool 3 .int y43.1)]), 2⟩) ?_ ?_
                  · intro v_ h
                    obtain ⟨y61, h61, h⟩ := ob_some h
                    rcases cond_some h with ⟨q62, h⟩ | ⟨q62, h⟩
                    · refine awp_region_ 36 (by kernel_rfl) ?_
                      refine rsl (.agg [(.int .i64 y58.2.1), (.own ((1297, 0), 20) (.slice .int) 0 y58.2.2.length)]) (by kernel_rfl) ?_
                      refine rsl (.agg [(.int .i64 y11.2.1), (.own ((3, 0), 1) (.slice .int) 0 y11.2.2.length)]) (by kernel_rfl) ?_
                      refine rcall (.bool y61) [] [(.agg [(.int .i64 y58.2.1), (.own ((1297, 0), 20) (.slice .int) 0 y58.2.2.length)]), (.agg [(.int .i64 y11.2.1), (.own ((3, 0), 1) (.slice .int) 0 y11.2.2.length)])] _ (caps := []) (args0 := [(.agg [(.int .i64 y58.2.1), (.tree (.slice .int) y58.2.2)]), (.agg [(.int .i64 y11.2.1), (.tree (.slice .int) y11.2.2)])]) trivial (by kernel_rfl) (by kernel_rfl) (gm_cons (gd_agg (gm_cons (by kernel_rfl) (gm_cons (gd_mat (p := ((1298, 0), 20)) (e1 := 23) (e := 3) (u := .int) (xss := y58.2.2) (by kernel_rfl) (pool_rows (by kernel_rfl)) rfl) gm_nil))) (gm_cons (gd_agg (gm_cons (by kernel_rfl) (gm_cons (gd_mat (p := ((4, 0), 1)) (e1 := 23) (e := 3) (u := .int) (xss := y11.2.2) (by kernel_rfl) (pool_rows (by kernel_rfl)) rfl) gm_nil))) gm_nil)) (by kernel_rfl) (ok_laws_eqMatrix h61) hb_laws_eqMatrix (by kernel_rfl) ?_
                      refine rs0 (.bool (!y61)) (by kernel_rfl) ?_
                      refine rs0 (.bool (!y61)) (by kernel_rfl) ?_
                      refine rs0 (.tup []) (s_skip (by kernel_rfl) q62) ?_
                      refine rs0 (.tup []) (s_skip (by kernel_rfl) q62) ?_
                      refine rs0 (.tup []) (s_skip (by kernel_rfl) q62) ?_
                      refine rs0 (.bool true) (s_pickT (by kernel_rfl) q62) ?_
                      refine rnil (tn_ ?_)
                      obtain rfl := Option.some.inj h
                      exact ⟨_, ((weak_ob_ ((2, 0), 1) (.cells 44 [(.int .i64 y15.2.1), (.own ((5, 0), 1) (.slice .int) 0 y15.2.2.length)]) (.cells 44 [(.int .i64 y15.2.1), (.own ((5, 0), 1) (.slice .int) 0 y43.1.length)]) (by kernel_rfl) (congrArg (fun z_ => (.cells 44 [(.int .i64 y15.2.1), (.own ((5, 0), 1) (.slice .int) 0 z_)] : Ob)) (g44.symm : y15.2.2.length = y43.1.length))).trans (weak_ren [(((0, 0), 1), ((2, 0), 1)), (((1, 0), 1), ((5, 0), 1)), (((2, 0), 1), ((1088, 0), 5))] (by kernel_rfl) (obsR_of (by kernel_rfl)) (by kernel_rfl))), rfl⟩
                    · refine awp_region_ 36 (by kernel_rfl) ?_
                      refine rsl (.agg [(.int .i64 y58.2.1), (.own ((1297, 0), 20) (.slice .int) 0 y58.2.2.length)]) (by kernel_rfl) ?_
                      refine rsl (.agg [(.int .i64 y11.2.1), (.own ((3, 0), 1) (.slice .int) 0 y11.2.2.length)]) (by kernel_rfl) ?_
                      refine rcall (.bool y61) [] [(.agg [(.int .i64 y58.2.1), (.own ((1297, 0), 20) (.slice .int) 0 y58.2.2.length)]), (.agg [(.int .i64 y11.2.1), (.own ((3, 0), 1) (.slice .int) 0 y11.2.2.length)])] _ (caps := []) (args0 := [(.agg [(.int .i64 y58.2.1), (.tree (.slice .int) y58.2.2)]), (.agg [(.int .i64 y11.2.1), (.tree (.slice .int) y11.2.2)])]) trivial (by kernel_rfl) (by kernel_rfl) (gm_cons (gd_agg (gm_cons (by kernel_rfl) (gm_cons (gd_mat (p := ((1298, 0), 20)) (e1 := 23) (e := 3) (u := .int) (xss := y58.2.2) (by kernel_rfl) (pool_rows (by kernel_rfl)) rfl) gm_nil))) (gm_cons (gd_agg (gm_cons (by kernel_rfl) (gm_cons (gd_mat (p := ((4, 0), 1)) (e1 := 23) (e := 3) (u := .int) (xss := y11.2.2) (by kernel_rfl) (pool_rows (by kernel_rfl)) rfl) gm_nil))) gm_nil)) (by kernel_rfl) (ok_laws_eqMatrix h61) hb_laws_eqMatrix (by kernel_rfl) ?_
                      refine rs0 (.bool (!y61)) (by kernel_rfl) ?_
                      refine rs0 (.bool (!y61)) (by kernel_rfl) ?_
                      refine rs0 (.bool y58.1) (s_gd (by kernel_rfl) q62 (by kernel_rfl)) ?_
                      refine rs0 (.bool y11.1) (s_gd (by kernel_rfl) q62 (by kernel_rfl)) ?_
                      refine rs0 (.bool (y58.1 != y11.1)) (s_gd (by kernel_rfl) q62 (by kernel_rfl)) ?_
                      refine rs0 (.bool (y58.1 != y11.1)) (s_pickF (by kernel_rfl) q62) ?_
                      refine rnil (tn_ ?_)
                      obtain rfl := Option.some.inj h
                      exact ⟨_, ((weak_ob_ ((2, 0), 1) (.cells 44 [(.int .i64 y15.2.1), (.own ((5, 0), 1) (.slice .int) 0 y15.2.2.length)]) (.cells 44 [(.int .i64 y15.2.1), (.own ((5, 0), 1) (.slice .int) 0 y43.1.length)]) (by kernel_rfl) (congrArg (fun z_ => (.cells 44 [(.int .i64 y15.2.1), (.own ((5, 0), 1) (.slice .int) 0 z_)] : Ob)) (g44.symm : y15.2.2.length = y43.1.length))).trans (weak_ren [(((0, 0), 1), ((2, 0), 1)), (((1, 0), 1), ((5, 0), 1)), (((2, 0), 1), ((1088, 0), 5))] (by kernel_rfl) (obsR_of (by kernel_rfl)) (by kernel_rfl))), rfl⟩
                  · rintro l60_m92 _ rfl h
                    (try dsimp only at h)
                    rcases cond_some h with ⟨q63, h⟩ | ⟨q63, h⟩
                    · refine awp_condT_ q63 (by kernel_rfl) ?_
                      refine awp_seqv_ ?_
                      refine awp_region_ 3 (by kernel_rfl) ?_
                      refine rs0 (.bool false) (by kernel_rfl) ?_
                      refine rnil (tn_ ?_)
                      refine ⟨_, Weak.refl _, ?_⟩
                      refine awp_ret_ (tr_ ?_)
                      obtain rfl := Option.some.inj h
                      exact ret_ [(.bool false)] (by simp) (by kernel_rfl) (p_one rfl (l_sc (by kernel_rfl)) p_nil) (by kernel_rfl) (by kernel_rfl)
                    · refine awp_condF_ q63 (by kernel_rfl) ?_
                      refine awp_skip_ (tn_ ?_)
                      refine ⟨_, Weak.refl _, ?_⟩
                      refine awp_seqv_ ?_
                      refine awp_region_ 3 (by kernel_rfl) ?_
                      refine rs0 (.int .i64 1) (by kernel_rfl) ?_
                      refine rnil (tn_ ?_)
                      refine ⟨_, Weak.refl _, ?_⟩
                      refine awp_seqv_ ?_
                      obtain ⟨y67, h67, h⟩ := ob_some h
                      refine awp_region_ 7 (by kernel_rfl) ?_
                      refine rsl (.agg [(.int .i64 y15.2.1), (.own ((1, 0), 1) (.slice .int) 0 y43.1.length)]) (by kernel_rfl) ?_
                      refine rs0 (.int .i64 1) (by kernel_rfl) ?_
                      refine rcall (.int .i64 y67) [] [(.agg [(.int .i64 y15.2.1), (.own ((1, 0), 1) (.slice .int) 0 y43.1.length)]), (.int .i64 1)] _ (caps := []) (args0 := [(.agg [(.int .i64 y15.2.1), (.tree (.slice .int) y43.1)]), (.int .i64 1)]) trivial (by kernel_rfl) (by kernel_rfl) (gm_cons (gd_agg (gm_cons (by kernel_rfl) (gm_cons (gd_mat (p := ((2, 0), 1)) (e1 := 23) (e := 3) (u := .int) (xss := y43.1) (by kernel_rfl) (pool_rows (by kernel_rfl)) rfl) gm_nil))) (gm_cons (by kernel_rfl) gm_nil)) (by kernel_rfl) (ok_laws_heldMatrix h67) hb_laws_heldMatrix (by kernel_rfl) ?_
                      refine rs0 (.int .i64 y67) (by kernel_rfl) ?_
                      refine rnil (tn_ ?_)
                      refine ⟨_, Weak.refl _, ?_⟩
                      refine awp_seqv_ ?_
                      refine awp_seqv_ ?_
                      refine awp_region_ 9 (by kernel_rfl) ?_
                      refine rs0 (.int .i64 y67) (by kernel_rfl) ?_
                      refine rs0 (.bool (decide (y67 < 0))) (by kernel_rfl) ?_
                      refine rnil (tn_ ?_)
                      refine ⟨_, Weak.refl _, ?_⟩
                      rcases cond_some h with ⟨q70, h⟩ | ⟨q70, h⟩
                      · have q70_ := of_decide_eq_true q70
                        refine awp_condT_ q70 (by kernel_rfl) ?_
                        refine awp_seqv_ ?_
                        refine awp_region_ 10 (by kernel_rfl) ?_
                        refine rs0 (.bool false) (by kernel_rfl) ?_
                        refine rnil (tn_ ?_)
                        refine ⟨_, Weak.refl _, ?_⟩
                        refine awp_ret_ (tr_ ?_)
                        obtain rfl := Option.some.inj h
                        exact ret_ [(.bool false)] (by simp) (by kernel_rfl) (p_one rfl (l_sc (by kernel_rfl)) p_nil) (by kernel_rfl) (by kernel_rfl)
                      · have q70_ := of_decide_eq_false q70
                        refine awp_condF_ q70 (by kernel_rfl) ?_
                        refine awp_skip_ (tn_ ?_)
                        refine ⟨_, Weak.refl _, ?_⟩
                        refine awp_seqv_ ?_
                        refine awp_seqv_ ?_
                        refine awp_region_ 12 (by kernel_rfl) ?_
                        refine rs0 (.int .i64 y67) (by kernel_rfl) ?_
                        refine rs0 (.int .i64 y43.2) (by kernel_rfl) ?_
                        refine rs0 (.bool (y67 != y43.2)) (by kernel_rfl) ?_
                        refine rnil (tn_ ?_)
                        refine ⟨_, Weak.refl _, ?_⟩
                        rcases cond_some h with ⟨q74, h⟩ | ⟨q74, h⟩
                        · refine awp_condT_ q74 (by kernel_rfl) ?_
                          refine awp_seqv_ ?_
                          refine awp_region_ 13 (by kernel_rfl) ?_
                          refine rs0 (.bool false) (by kernel_rfl) ?_
                          refine rnil (tn_ ?_)
                          refine ⟨_, Weak.refl _, ?_⟩
                          refine awp_ret_ (tr_ ?_)
                          obtain rfl := Option.some.inj h
                          exact ret_ [(.bool false)] (by simp) (by kernel_rfl) (p_one rfl (l_sc (by kernel_rfl)) p_nil) (by kernel_rfl) (by kernel_rfl)
                        · refine awp_condF_ q74 (by kernel_rfl) ?_
                          refine awp_skip_ (tn_ ?_)
                          refine ⟨_, Weak.refl _, ?_⟩
                          refine awp_seqv_ ?_
                          refine awp_region_ 13 (by kernel_rfl) ?_
                          refine rs0 (.bool true) (by kernel_rfl) ?_
                          refine rnil (tn_ ?_)
                          refine ⟨_, Weak.refl _, ?_⟩
                          refine awp_ret_ ?_
                          obtain rfl := Option.some.inj h
                          exact ret_ [(.bool true)] (by simp) (by kernel_rfl) (p_one rfl (l_sc (by kernel_rfl)) p_nil) (by kernel_rfl) (by kernel_rfl)
end Go.Proofs.YtefolocdfgelcaaDoor
