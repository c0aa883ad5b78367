/- Partial functions in place of code, and that the code does what they say: LR0. No condition. -/
import Derived.Test.YtomijolkdmaimaaDoorB2
namespace Go.Proofs.YtomijolkdmaimaaDoor
open Go.RowKit Go.Deep
set_option maxRecDepth 4000
def m_spec_cmReads : AC :=
  (.seq (.region [⟨(some 1), none, (.i (.box 69 (.tmp 0)))⟩, ⟨(some 2), none, (.i (.mov (.cst .nils)))⟩] false [])
  (.seq (.seq (.region [⟨(some 3), none, (.i (.fld 0 (.tmp 1)))⟩, ⟨(some 4), none, (.i (.ld true 1 (.tmp 3)))⟩] false [])
  (.block 0 (.seq (.region [⟨(some 6), none, (.i (.bin .eql (.tmp 4) (.cst (.int .i64 3))))⟩, ⟨(some 5), none, (.i (.mov (.tmp 6)))⟩] false [])
  (.cond (.tmp 5)
    (.seq (.region [⟨(some 7), none, (.i (.fld 2 (.tmp 1)))⟩, ⟨(some 8), none, (.i (.ld true 1 (.tmp 7)))⟩, ⟨(some 9), none, (.i (.fld 3 (.tmp 1)))⟩, ⟨(some 10), none, (.i (.ld true 1 (.tmp 9)))⟩, ⟨(some 11), none, (.mkS 3 .int [(.tmp 8), (.tmp 10)])⟩, ⟨(some 2), none, (.i (.mov (.tmp 11)))⟩] false [])
    .ret)
    (.seq (.region [⟨(some 13), none, (.i (.bin .eql (.tmp 4) (.cst (.int .i64 4))))⟩, ⟨(some 12), none, (.i (.mov (.tmp 13)))⟩] false [])
    (.cond (.tmp 12)
      (.seq (.region [⟨(some 14), none, (.i (.fld 2 (.tmp 1)))⟩, ⟨(some 15), none, (.i (.ld true 1 (.tmp 14)))⟩, ⟨(some 16), none, (.mkS 3 .int [(.tmp 15)])⟩, ⟨(some 2), none, (.i (.mov (.tmp 16)))⟩] false [])
      .ret)
      (.seq (.seq (.region [⟨(some 18), none, (.i (.bin .eql (.tmp 4) (.cst (.int .i64 6))))⟩, ⟨(some 17), none, (.i (.mov (.tmp 18)))⟩] false [])
      (.cond (.tmp 17)
        .skip
        (.region [⟨(some 19), none, (.i (.bin .eql (.tmp 4) (.cst (.int .i64 7))))⟩, ⟨(some 17), none, (.i (.mov (.tmp 19)))⟩] false [])))
      (.cond (.tmp 17)
        (.seq (.region [⟨(some 20), none, (.i (.fld 1 (.tmp 1)))⟩, ⟨(some 21), none, (.i (.ld true 1 (.tmp 20)))⟩, ⟨(some 22), none, (.mkS 3 .int [(.tmp 21)])⟩, ⟨(some 2), none, (.i (.mov (.tmp 22)))⟩] false [])
        .ret)
        .skip))))))))
  (.seq (.region [⟨(some 2), none, (.i (.mov (.cst .nils)))⟩] false [])
  .ret)))
def r_spec_cmReads : List Res := [.tmp 2]
theorem c_spec_cmReads : compiled Tryd.prog Tryd.f63 = some (m_spec_cmReads, r_spec_cmReads) := by kernel_rfl
theorem hb_spec_cmReads : hasBody Tryd.prog 63 = true := by kernel_rfl
def L_spec_cmReads (a0_0 : Int) (a0_1 : Int) (a0_2 : Int) (a0_3 : Int) (a0_4 : Int) : Option (List Int) :=
  cond (a0_0 == 3)
  (some ([a0_2, a0_3]))
  (cond (a0_0 == 4)
    (some ([a0_2]))
    (Option.bind (cond (a0_0 == 6)
        (some (a0_0 == 6))
        (some (a0_0 == 7))) fun l10_m17 =>
    cond l10_m17
      (some ([a0_1]))
      (some [])))
def rv_spec_cmReads (r : List Int) : RV := ⟨false, [(false, [.new 3 .int r])]⟩
theorem ok_spec_cmReads {a0_0 : Int} {a0_1 : Int} {a0_2 : Int} {a0_3 : Int} {a0_4 : Int} {r : List Int} (h : L_spec_cmReads a0_0 a0_1 a0_2 a0_3 a0_4 = some r) : CallOK Tryd.prog Tab 63 [(.agg [(.int .i64 a0_0), (.int .i64 a0_1), (.int .i64 a0_2), (.int .i64 a0_3), (.int .i64 a0_4)])] (rv_spec_cmReads r) := by
  refine call_of_ (by kernel_rfl) Tryd.func63 c_spec_cmReads (n := 23) (by kernel_rfl) (by simp) (tl := [(0, (.agg [(.int .i64 a0_0), (.int .i64 a0_1), (.int .i64 a0_2), (.int .i64 a0_3), (.int .i64 a0_4)]))]) rfl ?_
  unfold m_spec_cmReads
  unfold L_spec_cmReads at h
  refine awp_seq_ ?_
  refine awp_region_ 3 (by kernel_rfl) ?_
  refine rs1 (.box (1, 1) 0) (1, 1) (.cells 69 [(.int .i64 a0_0), (.int .i64 a0_1), (.int .i64 a0_2), (.int .i64 a0_3), (.int .i64 a0_4)]) (by kernel_rfl) ?_
  refine rs0 .nils (by kernel_rfl) ?_
  refine rnil (tn_ ?_)
  refine awp_seq_ ?_
  refine awp_seq_ ?_
  refine awp_region_ 5 (by kernel_rfl) ?_
  refine rs0 (.box (1, 1) 0) (by kernel_rfl) ?_
  refine rsl (.int .i64 a0_0) (by kernel_rfl) ?_
  refine rnil (tn_ ?_)
  refine awp_block_ ?_
  refine awp_seq_ ?_
  refine awp_region_ 7 (by kernel_rfl) ?_
  refine rs0 (.bool (a0_0 == 3)) (by kernel_rfl) ?_
  refine rs0 (.bool (a0_0 == 3)) (by kernel_rfl) ?_
  refine rnil (tn_ ?_)
  rcases cond_some h with ⟨q5, h⟩ | ⟨q5, h⟩
  · refine awp_condT_ q5 (by kernel_rfl) ?_
    refine awp_seq_ ?_
    refine awp_region_ 13 (by kernel_rfl) ?_
    refine rs0 (.box (1, 1) 2) (by kernel_rfl) ?_
    refine rsl (.int .i64 a0_2) (by kernel_rfl) ?_
    refine rs0 (.box (1, 1) 3) (by kernel_rfl) ?_
    refine rsl (.int .i64 a0_3) (by kernel_rfl) ?_
    refine rs1 (.own (11, 11) .int 0 2) (11, 11) (.arr 3 .int ([a0_2, a0_3])) (by kernel_rfl) ?_
    refine rs0 (.own (11, 11) .int 0 2) (by kernel_rfl) ?_
    refine rnil (tn_ ?_)
    refine awp_ret_ (br_ (tr_ ?_))
    obtain rfl := Option.some.inj h
    exact ret_ [(.own (11, 11) .int 0 2)] (by simp) (by kernel_rfl) (p_one rfl (l_own (by kernel_rfl) rfl) p_nil) (by kernel_rfl) (by kernel_rfl)
  · refine awp_condF_ q5 (by kernel_rfl) ?_
    refine awp_seq_ ?_
    refine awp_region_ 9 (by kernel_rfl) ?_
    refine rs0 (.bool (a0_0 == 4)) (by kernel_rfl) ?_
    refine rs0 (.bool (a0_0 == 4)) (by kernel_rfl) ?_
    refine rnil (tn_ ?_)
    rcases cond_some h with ⟨q8, h⟩ | ⟨q8, h⟩
    · refine awp_condT_ q8 (by kernel_rfl) ?_
      refine awp_seq_ ?_
      refine awp_region_ 13 (by kernel_rfl) ?_
      refine rs0 (.box (1, 1) 2) (by kernel_rfl) ?_
      refine rsl (.int .i64 a0_2) (by kernel_rfl) ?_
      refine rs1 (.own (16, 11) .int 0 1) (16, 11) (.arr 3 .int ([a0_2])) (by kernel_rfl) ?_
      refine rs0 (.own (16, 11) .int 0 1) (by kernel_rfl) ?_
      refine rnil (tn_ ?_)
      refine awp_ret_ (br_ (tr_ ?_))
      obtain rfl := Option.some.inj h
      exact ret_ [(.own (16, 11) .int 0 1)] (by simp) (by kernel_rfl) (p_one rfl (l_own (by kernel_rfl) rfl) p_nil) (by kernel_rfl) (by kernel_rfl)
    · refine awp_condF_ q8 (by kernel_rfl) ?_
      refine awp_seqB h (fun (l10_m17 : Bool) S_ => S_ = ⟨mkTm [(1, (.box (0, 1) 0)), (17, (.bool l10_m17))], mkOb (someL [((0, 1), .cells 69 [(.int .i64 a0_0), (.int .i64 a0_1), (.int .i64 a0_2), (.int .i64 a0_3), (.int .i64 a0_4)])]), 2⟩) ?_ ?_
      · intro v_ h
        refine awp_seq_ ?_
        refine awp_region_ 11 (by kernel_rfl) ?_
        refine rs0 (.bool (a0_0 == 6)) (by kernel_rfl) ?_
        refine rs0 (.bool (a0_0 == 6)) (by kernel_rfl) ?_
        refine rnil (tn_ ?_)
        rcases cond_some h with ⟨q12, h⟩ | ⟨q12, h⟩
        · refine awp_condT_ q12 (by kernel_rfl) ?_
          refine awp_skip_ (tn_ ?_)
          obtain rfl := Option.some.inj h
          exact ⟨_, (weak_ren (renF [((0, 1), (1, 1))]) (by kernel_rfl) (by kernel_rfl) (by kernel_rfl)), rfl⟩
        · refine awp_condF_ q12 (by kernel_rfl) ?_
          refine awp_region_ 13 (by kernel_rfl) ?_
          refine rs0 (.bool (a0_0 == 7)) (by kernel_rfl) ?_
          refine rs0 (.bool (a0_0 == 7)) (by kernel_rfl) ?_
          refine rnil (tn_ ?_)
          obtain rfl := Option.some.inj h
          exact ⟨_, (weak_ren (renF [((0, 1), (1, 1))]) (by kernel_rfl) (by kernel_rfl) (by kernel_rfl)), rfl⟩
      · rintro l10_m17 _ rfl h
        (try dsimp only at h)
        rcases cond_some h with ⟨q13, h⟩ | ⟨q13, h⟩
        · refine awp_condT_ q13 (by kernel_rfl) ?_
          refine awp_seq_ ?_
          refine awp_region_ 6 (by kernel_rfl) ?_
          refine rs0 (.box (0, 1) 1) (by kernel_rfl) ?_
          refine rsl (.int .i64 a0_1) (by kernel_rfl) ?_
          refine rs1 (.own (22, 4) .int 0 1) (22, 4) (.arr 3 .int ([a0_1])) (by kernel_rfl) ?_
          refine rs0 (.own (22, 4) .int 0 1) (by kernel_rfl) ?_
          refine rnil (tn_ ?_)
          refine awp_ret_ (br_ (tr_ ?_))
          obtain rfl := Option.some.inj h
          exact ret_ [(.own (22, 4) .int 0 1)] (by simp) (by kernel_rfl) (p_one rfl (l_own (by kernel_rfl) rfl) p_nil) (by kernel_rfl) (by kernel_rfl)
        · refine awp_condF_ q13 (by kernel_rfl) ?_
          refine awp_skip_ (bn_ (tn_ ?_))
          refine awp_seq_ ?_
          refine awp_region_ 3 (by kernel_rfl) ?_
          refine rs0 .nils (by kernel_rfl) ?_
          refine rnil (tn_ ?_)
          refine awp_ret_ ?_
          obtain rfl := Option.some.inj h
          exact ret_ [.nils] (by simp) (by kernel_rfl) (p_one rfl (l_nils rfl) p_nil) (by kernel_rfl) (by kernel_rfl)
def m_spec_cmWrites : AC :=
  (.seq (.region [⟨(some 1), none, (.i (.box 69 (.tmp 0)))⟩, ⟨(some 2), none, (.i (.mov (.cst (.bool false))))⟩] false [])
  (.seq (.region [⟨(some 3), none, (.i (.fld 0 (.tmp 1)))⟩, ⟨(some 4), none, (.i (.ld true 1 (.tmp 3)))⟩, ⟨(some 5), none, (.i (.bin .leq (.tmp 4) (.cst (.int .i64 5))))⟩, ⟨(some 2), none, (.i (.mov (.tmp 5)))⟩] false [])
  .ret))
def r_spec_cmWrites : List Res := [.tmp 2]
theorem c_spec_cmWrites : compiled Tryd.prog Tryd.f46 = some (m_spec_cmWrites, r_spec_cmWrites) := by kernel_rfl
theorem hb_spec_cmWrites : hasBody Tryd.prog 46 = true := by kernel_rfl
def L_spec_cmWrites (a0_0 : Int) (a0_1 : Int) (a0_2 : Int) (a0_3 : Int) (a0_4 : Int) : Option Bool :=
  some (decide (a0_0 ≤ 5))
def rv_spec_cmWrites (r : Bool) : RV := ⟨false, [(false, [.sc (.bool r)])]⟩
theorem ok_spec_cmWrites {a0_0 : Int} {a0_1 : Int} {a0_2 : Int} {a0_3 : Int} {a0_4 : Int} {r : Bool} (h : L_spec_cmWrites a0_0 a0_1 a0_2 a0_3 a0_4 = some r) : CallOK Tryd.prog Tab 46 [(.agg [(.int .i64 a0_0), (.int .i64 a0_1), (.int .i64 a0_2), (.int .i64 a0_3), (.int .i64 a0_4)])] (rv_spec_cmWrites r) := by
  refine call_of_ (by kernel_rfl) Tryd.func46 c_spec_cmWrites (n := 6) (by kernel_rfl) (by simp) (tl := [(0, (.agg [(.int .i64 a0_0), (.int .i64 a0_1), (.int .i64 a0_2), (.int .i64 a0_3), (.int .i64 a0_4)]))]) rfl ?_
  unfold m_spec_cmWrites
  unfold L_spec_cmWrites at h
  refine awp_seq_ ?_
  refine awp_region_ 3 (by kernel_rfl) ?_
  refine rs1 (.box (1, 1) 0) (1, 1) (.cells 69 [(.int .i64 a0_0), (.int .i64 a0_1), (.int .i64 a0_2), (.int .i64 a0_3), (.int .i64 a0_4)]) (by kernel_rfl) ?_
  refine rs0 (.bool false) (by kernel_rfl) ?_
  refine rnil (tn_ ?_)
  refine awp_seq_ ?_
  refine awp_region_ 7 (by kernel_rfl) ?_
  refine rs0 (.box (1, 1) 0) (by kernel_rfl) ?_
  refine rsl (.int .i64 a0_0) (by kernel_rfl) ?_
  refine rs0 (.bool (decide (a0_0 ≤ 5))) (by kernel_rfl) ?_
  refine rs0 (.bool (decide (a0_0 ≤ 5))) (by kernel_rfl) ?_
  refine rnil (tn_ ?_)
  refine awp_ret_ ?_
  obtain rfl := Option.some.inj h
  exact ret_ [(.bool (decide (a0_0 ≤ 5)))] (by simp) (by kernel_rfl) (p_one rfl (l_sc (by kernel_rfl)) p_nil) (by kernel_rfl) (by kernel_rfl)
def m_spec_cmLive_l2 : AC :=
  (.seq (.region [⟨(some 23), none, (.i (.bin .lss (.tmp 22) (.tmp 21)))⟩] false [])
  (.seq (.cond (.tmp 23)
    .skip
    (.exit 2))
  (.seq (.block 3 (.seq (.region [⟨(some 24), none, (.i (.idx 1 (.tmp 20) (.tmp 22)))⟩, ⟨(some 25), none, (.i (.ld true 1 (.tmp 24)))⟩, ⟨(some 10), none, (.i (.mov (.tmp 25)))⟩] false [])
  (.seq (.region [⟨(some 26), none, (.i (.mov (.tmp 6)))⟩, ⟨(some 27), none, (.i (.mov (.tmp 10)))⟩, ⟨(some 28), none, (.call (.cst (.fn 47 [])) [(.tmp 26), (.tmp 27)] [[(some .int)], []])⟩, ⟨(some 29), none, (.i (.not (.tmp 28)))⟩] false [])
  (.cond (.tmp 29)
    (.region [⟨(some 30), none, (.i (.mov (.tmp 5)))⟩, ⟨(some 31), none, (.i (.mov (.tmp 10)))⟩, ⟨(some 32), none, (.call (.cst (.fn 64 [])) [(.tmp 30), (.tmp 31)] [[(some .int)], []])⟩, ⟨(some 5), none, (.i (.mov (.tmp 32)))⟩] false [])
    .skip))))
  (.region [⟨(some 33), none, (.i (.bin .add (.tmp 22) (.cst (.int .i64 1))))⟩, ⟨(some 22), none, (.i (.mov (.tmp 33)))⟩] false []))))
def m_spec_cmLive_l1 : AC :=
  (.seq (.region [⟨(some 16), none, (.i (.bin .lss (.tmp 15) (.tmp 14)))⟩] false [])
  (.seq (.cond (.tmp 16)
    .skip
    (.exit 0))
  (.seq (.block 1 (.seq (.region [⟨(some 17), none, (.i (.idx 5 (.tmp 13) (.tmp 15)))⟩, ⟨(some 18), none, (.i (.ld false 5 (.tmp 17)))⟩, ⟨(some 8), none, (.i (.alloc 69 [(.int .i64 0), (.int .i64 0), (.int .i64 0), (.int .i64 0), (.int .i64 0)]))⟩, ⟨none, none, (.st false 5 (.tmp 8) (.tmp 18))⟩] false [])
  (.seq (.seq (.region [⟨(some 19), none, (.i (.ld false 5 (.tmp 8)))⟩, ⟨(some 20), none, (.call (.cst (.fn 63 [])) [(.tmp 19)] [[none, none, none, none, none]])⟩, ⟨(some 21), none, (.i (.len (.tmp 20)))⟩, ⟨(some 22), none, (.i (.mov (.cst (.int .i64 0))))⟩] false [])
  (.block 2 (.loop m_spec_cmLive_l2)))
  (.seq (.region [⟨(some 34), none, (.i (.ld false 5 (.tmp 8)))⟩, ⟨(some 35), none, (.call (.cst (.fn 46 [])) [(.tmp 34)] [[none, none, none, none, none]])⟩] false [])
  (.cond (.tmp 35)
    (.region [⟨(some 36), none, (.i (.mov (.tmp 6)))⟩, ⟨(some 37), none, (.i (.fld 1 (.tmp 8)))⟩, ⟨(some 38), none, (.i (.ld true 1 (.tmp 37)))⟩, ⟨(some 39), none, (.call (.cst (.fn 64 [])) [(.tmp 36), (.tmp 38)] [[(some .int)], []])⟩, ⟨(some 6), none, (.i (.mov (.tmp 39)))⟩] false [])
    .skip)))))
  (.region [⟨(some 40), none, (.i (.bin .add (.tmp 15) (.cst (.int .i64 1))))⟩, ⟨(some 15), none, (.i (.mov (.tmp 40)))⟩] false []))))
def m_spec_cmLive : AC :=
  (.seq (.region [⟨(some 4), none, (.i (.mov (.cst .nils)))⟩] false [])
  (.seq (.region [⟨(some 5), none, (.i (.mov (.cst .nils)))⟩, ⟨(some 6), none, (.i (.mov (.cst .nils)))⟩] false [])
  (.seq (.seq (.region [⟨(some 11), none, (.i (.mov (.tmp 0)))⟩, ⟨(some 12), none, (.i (.mov (.tmp 1)))⟩, ⟨(some 13), none, (.slice 5 (.tmp 11) (some (.tmp 12)) none none)⟩, ⟨(some 14), none, (.i (.len (.tmp 13)))⟩, ⟨(some 15), none, (.i (.mov (.cst (.int .i64 0))))⟩] false [])
  (.block 0 (.loop m_spec_cmLive_l1)))
  (.seq (.region [⟨(some 41), none, (.i (.mov (.tmp 5)))⟩, ⟨(some 4), none, (.i (.mov (.tmp 41)))⟩] false [])
  .ret))))
def r_spec_cmLive : List Res := [.tmp 4]
theorem c_spec_cmLive : compiled Tryd.prog Tryd.f38 = some (m_spec_cmLive, r_spec_cmLive) := by kernel_rfl
theorem hb_spec_cmLive : hasBody Tryd.prog 38 = true := by kernel_rfl
def L_spec_cmLive_l2 (y15 : List Int) (l6_m6 : List Int) (l16_m22 : Nat) (l16_m5 : List Int) : Option (Ctl (Nat × List Int) (List Int)) :=
  cond (decide (((l16_m22 : Nat) : Int) < ((y15.length : Nat) : Int)))
  (Option.bind (Option.bind (y15[l16_m22]?) fun x22 =>
    Option.bind (L_spec_l1Has l6_m6 x22) fun y24 =>
    cond (!y24)
      (Option.bind (L_spec_l1Put l16_m5 x22) fun y26 =>
      (Sum.elim (fun z26_0 =>
      some l16_m5) (fun z26_1 =>
      some z26_1)) y26)
      (some l16_m5)) fun l20_m5 =>
  og (l16_m22 + 1 < 4611686018427387904) <|
  some (Ctl.next (l16_m22 + 1, l20_m5)))
  (some (Ctl.out l16_m5))
def L_spec_cmLive_l1 (a0 : List (Int × Int × Int × Int × Int)) (a1 : Int) (l6_m15 : Nat) (l6_m5 : List Int) (l6_m6 : List Int) : Option (Ctl (Nat × List Int × List Int) (List Int)) :=
  cond (decide (((l6_m15 : Nat) : Int) < (((a0.drop a1.toNat).length : Nat) : Int)))
  (Option.bind (Option.bind ((a0.drop a1.toNat)[l6_m15]?) fun x12 =>
    Option.bind (Option.bind (L_spec_cmReads x12.1 x12.2.1 x12.2.2.1 x12.2.2.2.1 x12.2.2.2.2) fun y15 =>
      loopM (fun s_ : Nat × List Int => L_spec_cmLive_l2 y15 l6_m6 s_.1 s_.2) 4611686018427387904 (0, l6_m5)) fun l13_m5 =>
    Option.bind (L_spec_cmWrites x12.1 x12.2.1 x12.2.2.1 x12.2.2.2.1 x12.2.2.2.2) fun y29 =>
    cond y29
      (Option.bind (L_spec_l1Put l6_m6 x12.2.1) fun y31 =>
      (Sum.elim (fun z31_0 =>
      some (l13_m5, l6_m6)) (fun z31_1 =>
      some (l13_m5, z31_1))) y31)
      (some (l13_m5, l6_m6))) fun (l10_m5, l10_m6) =>
  og (l6_m15 + 1 < 4611686018427387904) <|
  some (Ctl.next (l6_m15 + 1, l10_m5, l10_m6)))
  (some (Ctl.out l6_m5))
def L_spec_cmLive (a0 : List (Int × Int × Int × Int × Int)) (a1 : Int) : Option (List Int) :=
  Option.bind (og ((0 : Int) ≤ a1 ∧ a1 ≤ ((a0.length : Nat) : Int) ∧ ((a0.length : Nat) : Int) ≤ ((a0.length : Nat) : Int) ∧ ((a0.length : Nat) : Int) ≤ ((a0.length : Nat) : Int)) <|
  loopM (fun s_ : Nat × List Int × List Int => L_spec_cmLive_l1 a0 a1 s_.1 s_.2.1 s_.2.2) 4611686018427387904 (0, [], [])) fun l3_m5 =>
some l3_m5
def rv_spec_cmLive (r : List Int) : RV := ⟨false, [(false, [.new 3 .int r])]⟩
theorem ok_spec_cmLive {a0 : List (Int × Int × Int × Int × Int)} {a1 : Int} {r : List Int} (h : L_spec_cmLive a0 a1 = some r) : CallOK Tryd.prog Tab 38 [(.tree (.pair .int (.pair .int (.pair .int (.pair .int .int)))) a0), (.int .i64 a1)] (rv_spec_cmLive r) := by
  refine call_of_ (by kernel_rfl) Tryd.func38 c_spec_cmLive (n := 42) (by kernel_rfl) (by simp) (tl := [(0, (.tree (.pair .int (.pair .int (.pair .int (.pair .int .int)))) a0)), (1, (.int .i64 a1))]) rfl ?_
  unfold m_spec_cmLive
  unfold L_spec_cmLive at h
  refine awp_seq_ ?_
  refine awp_region_ 2 (by kernel_rfl) ?_
  refine rs0 .nils (by kernel_rfl) ?_
  refine rnil (tn_ ?_)
  refine awp_seq_ ?_
  refine awp_region_ 4 (by kernel_rfl) ?_
  refine rs0 .nils (by kernel_rfl) ?_
  refine rs0 .nils (by kernel_rfl) ?_
  refine rnil (tn_ ?_)
  refine awp_seqB h (fun (l3_m5 : List Int) S_ => S_ = ⟨mkTm [(5, (.own (0, 1) .int 0 l3_m5.length))], mkOb (someL [((0, 1), .arr 3 .int l3_m5)]), 2⟩) ?_ ?_
  · intro v_ h
    refine awp_seq_ ?_
    obtain ⟨g5, h⟩ := og_some h
    refine awp_region_ 9 (by kernel_rfl) ?_
    refine rs0 (.tree (.pair .int (.pair .int (.pair .int (.pair .int .int)))) a0) (by kernel_rfl) ?_
    refine rs0 (.int .i64 a1) (by kernel_rfl) ?_
    refine rs0 (.tree (.pair .int (.pair .int (.pair .int (.pair .int .int)))) (a0.drop a1.toNat)) (s_sliceT (t := (.pair .int (.pair .int (.pair .int (.pair .int .int))))) (xs := a0) (zs := a0.drop a1.toNat) (l := a1) (h := ((a0.length : Nat) : Int)) (m := ((a0.length : Nat) : Int)) (by kernel_rfl) (by kernel_rfl) (by kernel_rfl) (by kernel_rfl) rfl g5 (by first | (rw [show ((a0.length : Nat) : Int).toNat = a0.length from rfl, List.take_length]; done) | (rw [show ((a0.length : Nat) : Int).toNat = a0.length from rfl, List.take_length]; rfl))) ?_
    refine rs0 (.int .i64 (((a0.drop a1.toNat).length : Nat) : Int)) (by kernel_rfl) ?_
    refine rs0 (.int .i64 0) (by kernel_rfl) ?_
    refine rnil (tn_ ?_)
    refine awp_block_ ?_
    refine awp_loopL h (fun t_ S_ => ∃ (l6_m15 : Nat), ∃ (l6_m5 : List Int), ∃ (l6_m6 : List Int), t_ = (l6_m15, l6_m5, l6_m6) ∧ S_ = ⟨mkTm [(5, (.own (0, 1) .int 0 l6_m5.length)), (6, (.own (1, 1) .int 0 l6_m6.length)), (13, (.tree (.pair .int (.pair .int (.pair .int (.pair .int .int)))) (a0.drop a1.toNat))), (14, (.int .i64 (((a0.drop a1.toNat).length : Nat) : Int))), (15, (.int .i64 ((l6_m15 : Nat) : Int)))], mkOb (someL [((0, 1), .arr 3 .int l6_m5), ((1, 1), .arr 3 .int l6_m6)]), 2⟩) ⟨_, ((weak_nil_ 5 3 .int rfl (by kernel_rfl)).trans ((weak_nil_ 6 3 .int rfl (by kernel_rfl)).trans (weak_ren (renF [((0, 1), (5, 9)), ((1, 1), (6, 10))]) (by kernel_rfl) (by kernel_rfl) (by kernel_rfl)))), ⟨0, [], [], rfl, rfl⟩⟩ ?_
    · rintro n_ _ _ c_ ⟨l6_m15, l6_m5, l6_m6, rfl, rfl⟩ h hn6
      (try dsimp only at h)
      unfold L_spec_cmLive_l1 at h
      unfold m_spec_cmLive_l1
      refine awp_seq_ ?_
      refine awp_region_ 3 (by kernel_rfl) ?_
      refine rs0 (.bool (decide (((l6_m15 : Nat) : Int) < (((a0.drop a1.toNat).length : Nat) : Int)))) (by kernel_rfl) ?_
      refine rnil (tn_ ?_)
      refine awp_seq_ ?_
      rcases cond_some h with ⟨q9, h⟩ | ⟨q9, h⟩
      · have q9_ := of_decide_eq_true q9
        refine awp_condT_ q9 (by kernel_rfl) ?_
        refine awp_skip_ (tn_ ?_)
        refine awp_seqB h (fun t_ S_ => ∃ (l10_m5 : List Int), ∃ (l10_m6 : List Int), t_ = (l10_m5, l10_m6) ∧ S_ = ⟨mkTm [(5, (.own (0, 1) .int 0 l10_m5.length)), (6, (.own (1, 1) .int 0 l10_m6.length)), (13, (.tree (.pair .int (.pair .int (.pair .int (.pair .int .int)))) (a0.drop a1.toNat))), (14, (.int .i64 (((a0.drop a1.toNat).length : Nat) : Int))), (15, (.int .i64 ((l6_m15 : Nat) : Int)))], mkOb (someL [((0, 1), .arr 3 .int l10_m5), ((1, 1), .arr 3 .int l10_m6)]), 2⟩) ?_ ?_
        · intro v_ h
          refine awp_block_ ?_
          refine awp_seq_ ?_
          obtain ⟨x12, e12, h⟩ := ob_some h
          refine awp_region_ 7 (by kernel_rfl) ?_
          refine rs0 (.telt (.pair .int (.pair .int (.pair .int (.pair .int .int)))) x12 0) (s_idxT (t := (.pair .int (.pair .int (.pair .int (.pair .int .int))))) (xs := a0.drop a1.toNat) (k := .i64) (m := ((l6_m15 : Nat) : Int)) (by kernel_rfl) (by kernel_rfl) rfl (nat_nn _) rfl e12) ?_
          refine rs0 (.agg [(.int .i64 x12.1), (.int .i64 x12.2.1), (.int .i64 x12.2.2.1), (.int .i64 x12.2.2.2.1), (.int .i64 x12.2.2.2.2)]) (by kernel_rfl) ?_
          refine rs1 (.box (8, 5) 0) (8, 5) (.cells 69 [(.int .i64 0), (.int .i64 0), (.int .i64 0), (.int .i64 0), (.int .i64 0)]) (by kernel_rfl) ?_
          refine rsn2 (8, 5) (8, 5) (.cells 69 [(.int .i64 x12.1), (.int .i64 x12.2.1), (.int .i64 x12.2.2.1), (.int .i64 x12.2.2.2.1), (.int .i64 x12.2.2.2.2)]) (by kernel_rfl) ?_
          refine rnil (tn_ ?_)
          refine awp_seqB h (fun (l13_m5 : List Int) S_ => S_ = ⟨mkTm [(5, (.own (0, 1) .int 0 l13_m5.length)), (6, (.own (1, 1) .int 0 l6_m6.length)), (8, (.box (2, 1) 0)), (13, (.tree (.pair .int (.pair .int (.pair .int (.pair .int .int)))) (a0.drop a1.toNat))), (14, (.int .i64 (((a0.drop a1.toNat).length : Nat) : Int))), (15, (.int .i64 ((l6_m15 : Nat) : Int)))], mkOb (someL [((0, 1), .arr 3 .int l13_m5), ((1, 1), .arr 3 .int l6_m6), ((2, 1), .cells 69 [(.int .i64 x12.1), (.int .i64 x12.2.1), (.int .i64 x12.2.2.1), (.int .i64 x12.2.2.2.1), (.int .i64 x12.2.2.2.2)])]), 2⟩) ?_ ?_
          · intro v_ h
            refine awp_seq_ ?_
            obtain ⟨y15, h15, h⟩ := ob_some h
            refine awp_region_ 11 (by kernel_rfl) ?_
            refine rsl (.agg [(.int .i64 x12.1), (.int .i64 x12.2.1), (.int .i64 x12.2.2.1), (.int .i64 x12.2.2.2.1), (.int .i64 x12.2.2.2.2)]) (by kernel_rfl) ?_
            refine rcall (.own (320, 8) .int 0 y15.length) [((320, 8), some (.arr 3 .int y15))] [(.agg [(.int .i64 x12.1), (.int .i64 x12.2.1), (.int .i64 x12.2.2.1), (.int .i64 x12.2.2.2.1), (.int .i64 x12.2.2.2.2)])] _ (caps := []) (args0 := [(.agg [(.int .i64 x12.1), (.int .i64 x12.2.1), (.int .i64 x12.2.2.1), (.int .i64 x12.2.2.2.1), (.int .i64 x12.2.2.2.2)])]) trivial (by kernel_rfl) (by kernel_rfl) (by kernel_rfl) (by kernel_rfl) (ok_spec_cmReads h15) hb_spec_cmReads (by kernel_rfl) ?_
            refine rs0 (.int .i64 ((y15.length : Nat) : Int)) (by kernel_rfl) ?_
            refine rs0 (.int .i64 0) (by kernel_rfl) ?_
            refine rnil (tn_ ?_)
            refine awp_block_ ?_
            refine awp_loopL h (fun t_ S_ => ∃ (l16_m22 : Nat), ∃ (l16_m5 : List Int), t_ = (l16_m22, l16_m5) ∧ S_ = ⟨mkTm [(5, (.own (0, 1) .int 0 l16_m5.length)), (6, (.own (1, 1) .int 0 l6_m6.length)), (8, (.box (2, 1) 0)), (13, (.tree (.pair .int (.pair .int (.pair .int (.pair .int .int)))) (a0.drop a1.toNat))), (14, (.int .i64 (((a0.drop a1.toNat).length : Nat) : Int))), (15, (.int .i64 ((l6_m15 : Nat) : Int))), (20, (.own (3, 1) .int 0 y15.length)), (21, (.int .i64 ((y15.length : Nat) : Int))), (22, (.int .i64 ((l16_m22 : Nat) : Int)))], mkOb (someL [((0, 1), .arr 3 .int l16_m5), ((1, 1), .arr 3 .int l6_m6), ((2, 1), .cells 69 [(.int .i64 x12.1), (.int .i64 x12.2.1), (.int .i64 x12.2.2.1), (.int .i64 x12.2.2.2.1), (.int .i64 x12.2.2.2.2)]), ((3, 1), .arr 3 .int y15)]), 2⟩) ⟨_, (weak_ren (renF [((2, 1), (8, 5)), ((3, 1), (320, 8))]) (by kernel_rfl) (by kernel_rfl) (by kernel_rfl)), ⟨0, l6_m5, rfl, rfl⟩⟩ ?_
            · rintro n_ _ _ c_ ⟨l16_m22, l16_m5, rfl, rfl⟩ h hn16
              (try dsimp only at h)
              unfold L_spec_cmLive_l2 at h
              unfold m_spec_cmLive_l2
              refine awp_seq_ ?_
              refine awp_region_ 3 (by kernel_rfl) ?_
              refine rs0 (.bool (decide (((l16_m22 : Nat) : Int) < ((y15.length : Nat) : Int)))) (by kernel_rfl) ?_
              refine rnil (tn_ ?_)
              refine awp_seq_ ?_
              rcases cond_some h with ⟨q19, h⟩ | ⟨q19, h⟩
              · have q19_ := of_decide_eq_true q19
                refine awp_condT_ q19 (by kernel_rfl) ?_
                refine awp_skip_ (tn_ ?_)
                refine awp_seqB h (fun (l20_m5 : List Int) S_ => S_ = ⟨mkTm [(5, (.own (0, 1) .int 0 l20_m5.length)), (6, (.own (1, 1) .int 0 l6_m6.length)), (8, (.box (2, 1) 0)), (13, (.tree (.pair .int (.pair .int (.pair .int (.pair .int .int)))) (a0.drop a1.toNat))), (14, (.int .i64 (((a0.drop a1.toNat).length : Nat) : Int))), (15, (.int .i64 ((l6_m15 : Nat) : Int))), (20, (.own (3, 1) .int 0 y15.length)), (21, (.int .i64 ((y15.length : Nat) : Int))), (22, (.int .i64 ((l16_m22 : Nat) : Int)))], mkOb (someL [((0, 1), .arr 3 .int l20_m5), ((1, 1), .arr 3 .int l6_m6), ((2, 1), .cells 69 [(.int .i64 x12.1), (.int .i64 x12.2.1), (.int .i64 x12.2.2.1), (.int .i64 x12.2.2.2.1), (.int .i64 x12.2.2.2.2)]), ((3, 1), .arr 3 .int y15)]), 2⟩) ?_ ?_
                · intro v_ h
                  refine awp_block_ ?_
                  refine awp_seq_ ?_
                  obtain ⟨x22, e22, h⟩ := ob_some h
                  refine awp_region_ 6 (by kernel_rfl) ?_
                  refine rs0 (.elt (3, 1) l16_m22 0) (s_idxO (t := .int) (o := (3, 1)) (len := y15.length) (k := .i64) (m := ((l16_m22 : Nat) : Int)) (by kernel_rfl) (by kernel_rfl) rfl (nat_nn _) rfl (getN_lt e22)) ?_
                  refine rsl (.int .i64 x22) (s_ldE (i := (3, 1)) (j := l16_m22) (k := 0) (e := 3) (t := .int) (xs := y15) (by kernel_rfl) (by kernel_rfl) e22 (by kernel_rfl)) ?_
                  refine rs0 (.int .i64 x22) (by kernel_rfl) ?_
                  refine rnil (tn_ ?_)
                  refine awp_seq_ ?_
                  obtain ⟨y24, h24, h⟩ := ob_some h
                  refine awp_region_ 10 (by kernel_rfl) ?_
                  refine rs0 (.own (1, 1) .int 0 l6_m6.length) (by kernel_rfl) ?_
                  refine rs0 (.int .i64 x22) (by kernel_rfl) ?_
                  refine rcall (.bool y24) [] [(.own (1, 1) .int 0 l6_m6.length), (.int .i64 x22)] _ (caps := []) (args0 := [(.tree .int l6_m6), (.int .i64 x22)]) trivial (by kernel_rfl) (by kernel_rfl) (gm_cons (gd_own (e := 3) (by kernel_rfl) rfl) (gm_cons (by kernel_rfl) gm_nil)) (by kernel_rfl) (ok_spec_l1Has h24) hb_spec_l1Has (by kernel_rfl) ?_
                  refine rs0 (.bool (!y24)) (by kernel_rfl) ?_
                  refine rnil (tn_ ?_)
                  rcases cond_some h with ⟨q25, h⟩ | ⟨q25, h⟩
                  · refine awp_condT_ q25 (by kernel_rfl) ?_
                    obtain ⟨y26, h26, h⟩ := ob_some h
                    rcases y26 with z26_0 | z26_1
                    · (try simp only [Sum.elim_inl, Sum.elim_inr] at h)
                      refine awp_region_ 14 (by kernel_rfl) ?_
                      refine rs0 (.own (0, 1) .int 0 l16_m5.length) (by kernel_rfl) ?_
                      refine rs0 (.int .i64 x22) (by kernel_rfl) ?_
                      refine rcall (.own (0, 1) .int 0 l16_m5.length) [] [(.own (0, 1) .int 0 l16_m5.length), (.int .i64 x22)] _ (caps := []) (args0 := [(.tree .int l16_m5), (.int .i64 x22)]) trivial (by kernel_rfl) (by kernel_rfl) (gm_cons (gd_own (e := 3) (by kernel_rfl) rfl) (gm_cons (by kernel_rfl) gm_nil)) (by kernel_rfl) (ok_spec_l1Put h26) hb_spec_l1Put (by kernel_rfl) ?_
                      refine rs0 (.own (0, 1) .int 0 l16_m5.length) (by kernel_rfl) ?_
                      refine rnil (bn_ (tn_ ?_))
                      obtain rfl := Option.some.inj h
                      exact ⟨_, (weak_ren (renF []) (by kernel_rfl) (by kernel_rfl) (by kernel_rfl)), rfl⟩
                    · (try simp only [Sum.elim_inl, Sum.elim_inr] at h)
                      refine awp_region_ 14 (by kernel_rfl) ?_
                      refine rs0 (.own (0, 1) .int 0 l16_m5.length) (by kernel_rfl) ?_
                      refine rs0 (.int .i64 x22) (by kernel_rfl) ?_
                      refine rcall (.own (512, 12) .int 0 z26_1.length) [((512, 12), some (.arr 3 .int z26_1))] [(.own (0, 1) .int 0 l16_m5.length), (.int .i64 x22)] _ (caps := []) (args0 := [(.tree .int l16_m5), (.int .i64 x22)]) trivial (by kernel_rfl) (by kernel_rfl) (gm_cons (gd_own (e := 3) (by kernel_rfl) rfl) (gm_cons (by kernel_rfl) gm_nil)) (by kernel_rfl) (ok_spec_l1Put h26) hb_spec_l1Put (by kernel_rfl) ?_
                      refine rs0 (.own (512, 12) .int 0 z26_1.length) (by kernel_rfl) ?_
                      refine rnil (bn_ (tn_ ?_))
                      obtain rfl := Option.some.inj h
                      exact ⟨_, (weak_ren (renF [((0, 1), (512, 12))]) (by kernel_rfl) (by kernel_rfl) (by kernel_rfl)), rfl⟩
                  · refine awp_condF_ q25 (by kernel_rfl) ?_
                    refine awp_skip_ (bn_ (tn_ ?_))
                    obtain rfl := Option.some.inj h
                    exact ⟨_, (weak_ren (renF []) (by kernel_rfl) (by kernel_rfl) (by kernel_rfl)), rfl⟩
                · rintro l20_m5 _ rfl h
                  (try dsimp only at h)
                  obtain ⟨g27, h⟩ := og_some h
                  refine awp_region_ 4 (by kernel_rfl) ?_
                  refine rs0 (.int .i64 ((l16_m22 + 1 : Nat) : Int)) (s_add1 (j := l16_m22) (by kernel_rfl) (by kernel_rfl) g27) ?_
                  refine rs0 (.int .i64 ((l16_m22 + 1 : Nat) : Int)) (by kernel_rfl) ?_
                  refine rnil (tn_ ?_)
                  obtain rfl := Option.some.inj h
                  exact ⟨(l16_m22 + 1, l20_m5), _, (weak_ren (renF []) (by kernel_rfl) (by kernel_rfl) (by kernel_rfl)), ⟨l16_m22 + 1, l20_m5, rfl, rfl⟩, hn16⟩
              · have q19_ := of_decide_eq_false q19
                refine awp_condF_ q19 (by kernel_rfl) ?_
                refine awp_exit_ (te_ (te_ (be_ (tn_ ?_))))
                obtain rfl := Option.some.inj h
                have h := hn16
                (try dsimp only at h)
                obtain rfl := Option.some.inj h
                exact ⟨_, (weak_ren (renF []) (by kernel_rfl) (by kernel_rfl) (by kernel_rfl)), rfl⟩
          · rintro l13_m5 _ rfl h
            (try dsimp only at h)
            refine awp_seq_ ?_
            obtain ⟨y29, h29, h⟩ := ob_some h
            refine awp_region_ 4 (by kernel_rfl) ?_
            refine rsl (.agg [(.int .i64 x12.1), (.int .i64 x12.2.1), (.int .i64 x12.2.2.1), (.int .i64 x12.2.2.2.1), (.int .i64 x12.2.2.2.2)]) (by kernel_rfl) ?_
            refine rcall (.bool y29) [] [(.agg [(.int .i64 x12.1), (.int .i64 x12.2.1), (.int .i64 x12.2.2.1), (.int .i64 x12.2.2.2.1), (.int .i64 x12.2.2.2.2)])] _ (caps := []) (args0 := [(.agg [(.int .i64 x12.1), (.int .i64 x12.2.1), (.int .i64 x12.2.2.1), (.int .i64 x12.2.2.2.1), (.int .i64 x12.2.2.2.2)])]) trivial (by kernel_rfl) (by kernel_rfl) (by kernel_rfl) (by kernel_rfl) (ok_spec_cmWrites h29) hb_spec_cmWrites (by kernel_rfl) ?_
            refine rnil (tn_ ?_)
            rcases cond_some h with ⟨q30, h⟩ | ⟨q30, h⟩
            · refine awp_condT_ q30 (by kernel_rfl) ?_
              obtain ⟨y31, h31, h⟩ := ob_some h
              rcases y31 with z31_0 | z31_1
              · (try simp only [Sum.elim_inl, Sum.elim_inr] at h)
                refine awp_region_ 9 (by kernel_rfl) ?_
                refine rs0 (.own (1, 1) .int 0 l6_m6.length) (by kernel_rfl) ?_
                refine rs0 (.box (2, 1) 1) (by kernel_rfl) ?_
                refine rsl (.int .i64 x12.2.1) (by kernel_rfl) ?_
                refine rcall (.own (1, 1) .int 0 l6_m6.length) [] [(.own (1, 1) .int 0 l6_m6.length), (.int .i64 x12.2.1)] _ (caps := []) (args0 := [(.tree .int l6_m6), (.int .i64 x12.2.1)]) trivial (by kernel_rfl) (by kernel_rfl) (gm_cons (gd_own (e := 3) (by kernel_rfl) rfl) (gm_cons (by kernel_rfl) gm_nil)) (by kernel_rfl) (ok_spec_l1Put h31) hb_spec_l1Put (by kernel_rfl) ?_
                refine rs0 (.own (1, 1) .int 0 l6_m6.length) (by kernel_rfl) ?_
                refine rnil (bn_ (tn_ ?_))
                obtain rfl := Option.some.inj h
                exact ⟨_, (weak_ren (renF []) (by kernel_rfl) (by kernel_rfl) (by kernel_rfl)), ⟨l13_m5, l6_m6, rfl, rfl⟩⟩
              · (try simp only [Sum.elim_inl, Sum.elim_inr] at h)
                refine awp_region_ 9 (by kernel_rfl) ?_
                refine rs0 (.own (1, 1) .int 0 l6_m6.length) (by kernel_rfl) ?_
                refine rs0 (.box (2, 1) 1) (by kernel_rfl) ?_
                refine rsl (.int .i64 x12.2.1) (by kernel_rfl) ?_
                refine rcall (.own (624, 7) .int 0 z31_1.length) [((624, 7), some (.arr 3 .int z31_1))] [(.own (1, 1) .int 0 l6_m6.length), (.int .i64 x12.2.1)] _ (caps := []) (args0 := [(.tree .int l6_m6), (.int .i64 x12.2.1)]) trivial (by kernel_rfl) (by kernel_rfl) (gm_cons (gd_own (e := 3) (by kernel_rfl) rfl) (gm_cons (by kernel_rfl) gm_nil)) (by kernel_rfl) (ok_spec_l1Put h31) hb_spec_l1Put (by kernel_rfl) ?_
                refine rs0 (.own (624, 7) .int 0 z31_1.length) (by kernel_rfl) ?_
                refine rnil (bn_ (tn_ ?_))
                obtain rfl := Option.some.inj h
                exact ⟨_, (weak_ren (renF [((1, 1), (624, 7))]) (by kernel_rfl) (by kernel_rfl) (by kernel_rfl)), ⟨l13_m5, z31_1, rfl, rfl⟩⟩
            · refine awp_condF_ q30 (by kernel_rfl) ?_
              refine awp_skip_ (bn_ (tn_ ?_))
              obtain rfl := Option.some.inj h
              exact ⟨_, (weak_ren (renF []) (by kernel_rfl) (by kernel_rfl) (by kernel_rfl)), ⟨l13_m5, l6_m6, rfl, rfl⟩⟩
        · rintro _ _ ⟨l10_m5, l10_m6, rfl, rfl⟩ h
          (try dsimp only at h)
          obtain ⟨g32, h⟩ := og_some h
          refine awp_region_ 4 (by kernel_rfl) ?_
          refine rs0 (.int .i64 ((l6_m15 + 1 : Nat) : Int)) (s_add1 (j := l6_m15) (by kernel_rfl) (by kernel_rfl) g32) ?_
          refine rs0 (.int .i64 ((l6_m15 + 1 : Nat) : Int)) (by kernel_rfl) ?_
          refine rnil (tn_ ?_)
          obtain rfl := Option.some.inj h
          exact ⟨(l6_m15 + 1, l10_m5, l10_m6), _, (weak_ren (renF []) (by kernel_rfl) (by kernel_rfl) (by kernel_rfl)), ⟨l6_m15 + 1, l10_m5, l10_m6, rfl, rfl⟩, hn6⟩
      · have q9_ := of_decide_eq_false q9
        refine awp_condF_ q9 (by kernel_rfl) ?_
        refine awp_exit_ (te_ (te_ (be_ (tn_ ?_))))
        obtain rfl := Option.some.inj h
        have h := hn6
        (try dsimp only at h)
        obtain rfl := Option.some.inj h
        exact ⟨_, (weak_ren (renF []) (by kernel_rfl) (by kernel_rfl) (by kernel_rfl)), rfl⟩
  · rintro l3_m5 _ rfl h
    (try dsimp only at h)
    refine awp_seq_ ?_
    refine awp_region_ 4 (by kernel_rfl) ?_
    refine rs0 (.own (0, 1) .int 0 l3_m5.length) (by kernel_rfl) ?_
    refine rs0 (.own (0, 1) .int 0 l3_m5.length) (by kernel_rfl) ?_
    refine rnil (tn_ ?_)
    refine awp_ret_ ?_
    obtain rfl := Option.some.inj h
    exact ret_ [(.own (0, 1) .int 0 l3_m5.length)] (by simp) (by kernel_rfl) (p_one rfl (l_own (by kernel_rfl) rfl) p_nil) (by kernel_rfl) (by kernel_rfl)
def m_impl_Instr_writes : AC :=
  (.seq (.region [⟨(some 1), none, (.i (.box 69 (.tmp 0)))⟩, ⟨(some 2), none, (.i (.mov (.cst (.bool false))))⟩] false [])
  (.seq (.region [⟨(some 3), none, (.i (.fld 0 (.tmp 1)))⟩, ⟨(some 4), none, (.i (.ld true 1 (.tmp 3)))⟩, ⟨(some 5), none, (.call (.cst (.fn 39 [])) [(.tmp 4), (.cst (.int .i64 1)), (.cst (.int .i64 5))] [[], [], []])⟩, ⟨(some 2), none, (.i (.mov (.tmp 5)))⟩] false [])
  .ret))
def r_impl_Instr_writes : List Res := [.tmp 2]
theorem c_impl_Instr_writes : compiled Tryd.prog Tryd.f49 = some (m_impl_Instr_writes, r_impl_Instr_writes) := by kernel_rfl
theorem hb_impl_Instr_writes : hasBody Tryd.prog 49 = true := by kernel_rfl
def L_impl_Instr_writes (a0_0 : Int) (a0_1 : Int) (a0_2 : Int) (a0_3 : Int) (a0_4 : Int) : Option Bool :=
  Option.bind (L_impl_within a0_0 1 5) fun y3 =>
some y3
def rv_impl_Instr_writes (r : Bool) : RV := ⟨false, [(false, [.sc (.bool r)])]⟩
theorem ok_impl_Instr_writes {a0_0 : Int} {a0_1 : Int} {a0_2 : Int} {a0_3 : Int} {a0_4 : Int} {r : Bool} (h : L_impl_Instr_writes a0_0 a0_1 a0_2 a0_3 a0_4 = some r) : CallOK Tryd.prog Tab 49 [(.agg [(.int .i64 a0_0), (.int .i64 a0_1), (.int .i64 a0_2), (.int .i64 a0_3), (.int .i64 a0_4)])] (rv_impl_Instr_writes r) := by
  refine call_of_ (by kernel_rfl) Tryd.func49 c_impl_Instr_writes (n := 6) (by kernel_rfl) (by simp) (tl := [(0, (.agg [(.int .i64 a0_0), (.int .i64 a0_1), (.int .i64 a0_2), (.int .i64 a0_3), (.int .i64 a0_4)]))]) rfl ?_
  unfold m_impl_Instr_writes
  unfold L_impl_Instr_writes at h
  refine awp_seq_ ?_
  refine awp_region_ 3 (by kernel_rfl) ?_
  refine rs1 (.box (1, 1) 0) (1, 1) (.cells 69 [(.int .i64 a0_0), (.int .i64 a0_1), (.int .i64 a0_2), (.int .i64 a0_3), (.int .i64 a0_4)]) (by kernel_rfl) ?_
  refine rs0 (.bool false) (by kernel_rfl) ?_
  refine rnil (tn_ ?_)
  refine awp_seq_ ?_
  obtain ⟨y3, h3, h⟩ := ob_some h
  refine awp_region_ 7 (by kernel_rfl) ?_
  refine rs0 (.box (1, 1) 0) (by kernel_rfl) ?_
  refine rsl (.int .i64 a0_0) (by kernel_rfl) ?_
  refine rcall (.bool y3) [] [(.int .i64 a0_0), (.int .i64 1), (.int .i64 5)] _ (caps := []) (args0 := [(.int .i64 a0_0), (.int .i64 1), (.int .i64 5)]) trivial (by kernel_rfl) (by kernel_rfl) (by kernel_rfl) (by kernel_rfl) (ok_impl_within h3) hb_impl_within (by kernel_rfl) ?_
  refine rs0 (.bool y3) (by kernel_rfl) ?_
  refine rnil (tn_ ?_)
  refine awp_ret_ ?_
  obtain rfl := Option.some.inj h
  exact ret_ [(.bool y3)] (by simp) (by kernel_rfl) (p_one rfl (l_sc (by kernel_rfl)) p_nil) (by kernel_rfl) (by kernel_rfl)
def m_impl_Program_live_l2 : AC :=
  (.seq (.region [⟨(some 52), none, (.i (.bin .lss (.tmp 51) (.tmp 50)))⟩] false [])
  (.seq (.cond (.tmp 52)
    .skip
    (.exit 2))
  (.seq (.block 3 (.seq (.region [⟨(some 53), none, (.i (.idx 1 (.tmp 49) (.tmp 51)))⟩, ⟨(some 54), none, (.i (.ld true 1 (.tmp 53)))⟩, ⟨(some 6), none, (.i (.mov (.tmp 54)))⟩] false [])
  (.region [⟨(some 55), none, (.i (.mov (.tmp 3)))⟩, ⟨(some 56), none, (.i (.mov (.tmp 4)))⟩, ⟨(some 57), none, (.i (.mov (.tmp 6)))⟩, ⟨(some 58), none, (.i (.idx 16 (.tmp 55) (.tmp 56)))⟩, ⟨(some 59), none, (.i (.idxA 59 16 (.tmp 58) (.tmp 57)))⟩, ⟨none, none, (.st true 1 (.tmp 59) (.cst (.int .i64 1)))⟩] false [])))
  (.region [⟨(some 60), none, (.i (.bin .add (.tmp 51) (.cst (.int .i64 1))))⟩, ⟨(some 51), none, (.i (.mov (.tmp 60)))⟩] false []))))
def m_impl_Program_live_l1 : AC :=
  (.seq (.seq (.region [⟨(some 16), none, (.i (.mov (.tmp 4)))⟩, ⟨(some 17), none, (.i (.bin .geq (.tmp 16) (.cst (.int .i64 0))))⟩] false [])
  (.cond (.tmp 17)
    .skip
    (.exit 0)))
  (.seq (.block 1 (.seq (.region [⟨(some 20), none, (.i (.mov (.tmp 3)))⟩, ⟨(some 21), none, (.i (.mov (.tmp 4)))⟩, ⟨(some 22), none, (.i (.mov (.tmp 3)))⟩, ⟨(some 23), none, (.i (.mov (.tmp 4)))⟩, ⟨(some 24), none, (.i (.bin .add (.tmp 23) (.cst (.int .i64 1))))⟩, ⟨(some 25), none, (.i (.idx 16 (.tmp 22) (.tmp 24)))⟩, ⟨(some 26), none, (.i (.ld false 16 (.tmp 25)))⟩, ⟨(some 27), none, (.i (.idx 16 (.tmp 20) (.tmp 21)))⟩, ⟨none, none, (.st false 16 (.tmp 27) (.tmp 26))⟩] false [])
  (.seq (.seq (.region [⟨(some 28), none, (.i (.fld 4 (.tmp 1)))⟩, ⟨(some 29), none, (.i (.ld true 1 (.tmp 28)))⟩, ⟨(some 30), none, (.i (.mov (.tmp 4)))⟩, ⟨(some 31), none, (.i (.idx 5 (.tmp 29) (.tmp 30)))⟩, ⟨(some 32), none, (.i (.ld false 5 (.tmp 31)))⟩, ⟨(some 33), none, (.call (.cst (.fn 49 [])) [(.tmp 32)] [[none, none, none, none, none]])⟩] false [])
  (.cond (.tmp 33)
    (.region [⟨(some 34), none, (.i (.mov (.tmp 3)))⟩, ⟨(some 35), none, (.i (.mov (.tmp 4)))⟩, ⟨(some 36), none, (.i (.fld 4 (.tmp 1)))⟩, ⟨(some 37), none, (.i (.ld true 1 (.tmp 36)))⟩, ⟨(some 38), none, (.i (.mov (.tmp 4)))⟩, ⟨(some 39), none, (.i (.idx 5 (.tmp 37) (.tmp 38)))⟩, ⟨(some 40), none, (.i (.fld 1 (.tmp 39)))⟩, ⟨(some 41), none, (.i (.ld true 1 (.tmp 40)))⟩, ⟨(some 42), none, (.i (.idx 16 (.tmp 34) (.tmp 35)))⟩, ⟨(some 43), none, (.i (.idxA 59 16 (.tmp 42) (.tmp 41)))⟩, ⟨none, none, (.st true 1 (.tmp 43) (.cst (.int .i64 0)))⟩] true [])
    .skip))
  (.seq (.region [⟨(some 44), none, (.i (.fld 4 (.tmp 1)))⟩, ⟨(some 45), none, (.i (.ld true 1 (.tmp 44)))⟩, ⟨(some 46), none, (.i (.mov (.tmp 4)))⟩, ⟨(some 47), none, (.i (.idx 5 (.tmp 45) (.tmp 46)))⟩, ⟨(some 48), none, (.i (.ld false 5 (.tmp 47)))⟩, ⟨(some 49), none, (.call (.cst (.fn 65 [])) [(.tmp 48)] [[none, none, none, none, none]])⟩, ⟨(some 50), none, (.i (.len (.tmp 49)))⟩, ⟨(some 51), none, (.i (.mov (.cst (.int .i64 0))))⟩] false [])
  (.block 2 (.loop m_impl_Program_live_l2))))))
  (.region [⟨(some 18), none, (.i (.mov (.tmp 4)))⟩, ⟨(some 19), none, (.i (.bin .sub (.tmp 18) (.cst (.int .i64 1))))⟩, ⟨(some 4), none, (.i (.mov (.tmp 19)))⟩] false [])))
def m_impl_Program_live : AC :=
  (.seq (.region [⟨(some 1), none, (.i (.box 29 (.tmp 0)))⟩, ⟨(some 2), none, (.i (.mov (.cst .nils)))⟩] false [])
  (.seq (.region [⟨(some 7), none, (.i (.fld 4 (.tmp 1)))⟩, ⟨(some 8), none, (.i (.ld true 1 (.tmp 7)))⟩, ⟨(some 9), none, (.i (.len (.tmp 8)))⟩, ⟨(some 10), none, (.i (.bin .add (.tmp 9) (.cst (.int .i64 1))))⟩, ⟨(some 11), none, (.make 59 (.pair .int (.pair .int (.pair .int (.pair .int (.pair .int (.pair .int (.pair .int (.pair .int (.pair .int (.pair .int (.pair .int (.pair .int (.pair .int (.pair .int (.pair .int .int))))))))))))))) 128 (.tmp 10) (.tmp 10))⟩, ⟨(some 3), none, (.i (.mov (.tmp 11)))⟩] false [])
  (.seq (.seq (.region [⟨(some 12), none, (.i (.fld 4 (.tmp 1)))⟩, ⟨(some 13), none, (.i (.ld true 1 (.tmp 12)))⟩, ⟨(some 14), none, (.i (.len (.tmp 13)))⟩, ⟨(some 15), none, (.i (.bin .sub (.tmp 14) (.cst (.int .i64 1))))⟩, ⟨(some 4), none, (.i (.mov (.tmp 15)))⟩] false [])
  (.block 0 (.loop m_impl_Program_live_l1)))
  (.seq (.region [⟨(some 61), none, (.i (.mov (.tmp 3)))⟩, ⟨(some 2), none, (.i (.mov (.tmp 61)))⟩] false [])
  .ret))))
def r_impl_Program_live : List Res := [.tmp 2]
theorem c_impl_Program_live : compiled Tryd.prog Tryd.f40 = some (m_impl_Program_live, r_impl_Program_live) := by kernel_rfl
theorem hb_impl_Program_live : hasBody Tryd.prog 40 = true := by kernel_rfl
def L_impl_Program_live_l2 (y26 : List Int) (l7_m4 : Int) (l27_m51 : Nat) (l27_m3 : List (List Int)) : Option (Ctl (Nat × List (List Int)) (List (List Int))) :=
  cond (decide (((l27_m51 : Nat) : Int) < ((y26.length : Nat) : Int)))
  (Option.bind (y26[l27_m51]?) fun x33 =>
  Option.bind (getI l27_m3 l7_m4) fun x34 =>
  og (0 ≤ x33 ∧ x33 < ((16 : Nat) : Int)) <|
  Option.bind (getI x34 x33) fun x36 =>
  og (l27_m51 + 1 < 4611686018427387904) <|
  some (Ctl.next (l27_m51 + 1, l27_m3.set l7_m4.toNat (x34.set x33.toNat 1))))
  (some (Ctl.out l27_m3))
def L_impl_Program_live_l1 (a0_4 : List (Int × Int × Int × Int × Int)) (l7_m4 : Int) (l7_m3 : List (List Int)) : Option (Ctl (Int × List (List Int)) (List (List Int))) :=
  cond (decide (0 ≤ l7_m4))
  (Option.bind (Option.bind (getI l7_m3 (IntKind.i64.wrap (l7_m4 + 1))) fun x13 =>
    Option.bind (getI l7_m3 (IntKind.i64.wrap (l7_m4 + 1))) fun x14 =>
    Option.bind (getI l7_m3 l7_m4) fun x15 =>
    Option.bind (Option.bind (getI a0_4 l7_m4) fun x18 =>
      Option.bind (L_impl_Instr_writes x18.1 x18.2.1 x18.2.2.1 x18.2.2.2.1 x18.2.2.2.2) fun y19 =>
      cond y19
        (Option.bind (getI (l7_m3.set l7_m4.toNat x14) l7_m4) fun x21 =>
        og (0 ≤ x18.2.1 ∧ x18.2.1 < ((16 : Nat) : Int)) <|
        Option.bind (getI x21 x18.2.1) fun x23 =>
        some ((l7_m3.set l7_m4.toNat x14).set l7_m4.toNat (x21.set x18.2.1.toNat 0)))
        (some (l7_m3.set l7_m4.toNat x14))) fun l16_m3 =>
    Option.bind (getI a0_4 l7_m4) fun x25 =>
    Option.bind (L_impl_Instr_reads x25.1 x25.2.1 x25.2.2.1 x25.2.2.2.1 x25.2.2.2.2) fun y26 =>
    loopM (fun s_ : Nat × List (List Int) => L_impl_Program_live_l2 y26 l7_m4 s_.1 s_.2) 4611686018427387904 (0, l16_m3)) fun l11_m3 =>
  some (Ctl.next (IntKind.i64.wrap (l7_m4 - 1), l11_m3)))
  (some (Ctl.out l7_m3))
def L_impl_Program_live (a0_0 : Int) (a0_1 : Int) (a0_2 : Int) (a0_3 : Int) (a0_4 : List (Int × Int × Int × Int × Int)) : Option (List (List Int)) :=
  og (a0_4.length + 1 < 4611686018427387904) <|
og (0 ≤ ((a0_4.length + 1 : Nat) : Int) ∧ ((a0_4.length + 1 : Nat) : Int) ≤ ((a0_4.length + 1 : Nat) : Int) ∧ ((a0_4.length + 1 : Nat) : Int) ≤ 1073741824 ∧ (128 : Int) * ((a0_4.length + 1 : Nat) : Int) ≤ 140737488355328) <|
Option.bind (loopM (fun s_ : Int × List (List Int) => L_impl_Program_live_l1 a0_4 s_.1 s_.2) 4611686018427387904 (IntKind.i64.wrap (((a0_4.length : Nat) : Int) - 1), List.replicate (a0_4.length + 1) (List.replicate 16 0 : List Int))) fun l5_m3 =>
some l5_m3
def rv_impl_Program_live (r : List (List Int)) : RV := ⟨false, [(false, [.new 59 (tyA 15) (r.map (tupA 15))])]⟩
theorem ok_impl_Program_live {a0_0 : Int} {a0_1 : Int} {a0_2 : Int} {a0_3 : Int} {a0_4 : List (Int × Int × Int × Int × Int)} {r : List (List Int)} (h : L_impl_Program_live a0_0 a0_1 a0_2 a0_3 a0_4 = some r) : CallOK Tryd.prog Tab 40 [(.agg [(.int .i64 a0_0), (.int .i64 a0_1), (.int .i64 a0_2), (.int .i64 a0_3), (.tree (.pair .int (.pair .int (.pair .int (.pair .int .int)))) a0_4)])] (rv_impl_Program_live r) := by
  refine call_of_ (by kernel_rfl) Tryd.func40 c_impl_Program_live (n := 62) (by kernel_rfl) (by simp) (tl := [(0, (.agg [(.int .i64 a0_0), (.int .i64 a0_1), (.int .i64 a0_2), (.int .i64 a0_3), (.tree (.pair .int (.pair .int (.pair .int (.pair .int .int)))) a0_4)]))]) rfl ?_
  unfold m_impl_Program_live
  unfold L_impl_Program_live at h
  refine awp_seq_ ?_
  refine awp_region_ 3 (by kernel_rfl) ?_
  refine rs1 (.box (1, 1) 0) (1, 1) (.cells 29 [(.int .i64 a0_0), (.int .i64 a0_1), (.int .i64 a0_2), (.int .i64 a0_3), (.tree (.pair .int (.pair .int (.pair .int (.pair .int .int)))) a0_4)]) (by kernel_rfl) ?_
  refine rs0 .nils (by kernel_rfl) ?_
  refine rnil (tn_ ?_)
  refine awp_seq_ ?_
  obtain ⟨g3, h⟩ := og_some h
  obtain ⟨g4, h⟩ := og_some h
  refine awp_region_ 9 (by kernel_rfl) ?_
  refine rs0 (.box (1, 1) 4) (by kernel_rfl) ?_
  refine rsl (.tree (.pair .int (.pair .int (.pair .int (.pair .int .int)))) a0_4) (by kernel_rfl) ?_
  refine rs0 (.int .i64 ((a0_4.length : Nat) : Int)) (by kernel_rfl) ?_
  refine rs0 (.int .i64 ((a0_4.length + 1 : Nat) : Int)) (s_add1 (j := a0_4.length) (by kernel_rfl) (by kernel_rfl) g3) ?_
  refine rs1 (.own (11, 7) (tyA 15) 0 (a0_4.length + 1)) (11, 7) (.arr 59 (tyA 15) ((List.replicate (a0_4.length + 1) (List.replicate 16 0 : List Int)).map (tupA 15))) (s_makeA (N := 15) (k := .i64) (k' := .i64) (m := ((a0_4.length + 1 : Nat) : Int)) (m' := ((a0_4.length + 1 : Nat) : Int)) (by kernel_rfl) (by kernel_rfl) g4 rfl) ?_
  refine rs0 (.own (11, 7) (tyA 15) 0 (a0_4.length + 1)) (by kernel_rfl) ?_
  refine rnil (tn_ ?_)
  refine awp_seqB h (fun (l5_m3 : List (List Int)) S_ => S_ = ⟨mkTm [(3, (.own (0, 1) (tyA 15) 0 l5_m3.length))], mkOb (someL [((0, 1), .arr 59 (tyA 15) (l5_m3.map (tupA 15)))]), 2⟩) ?_ ?_
  · intro v_ h
    refine awp_seq_ ?_
    refine awp_region_ 14 (by kernel_rfl) ?_
    refine rs0 (.box (1, 1) 4) (by kernel_rfl) ?_
    refine rsl (.tree (.pair .int (.pair .int (.pair .int (.pair .int .int)))) a0_4) (by kernel_rfl) ?_
    refine rs0 (.int .i64 ((a0_4.length : Nat) : Int)) (by kernel_rfl) ?_
    refine rs0 (.int .i64 (IntKind.i64.wrap (((a0_4.length : Nat) : Int) - 1))) (by kernel_rfl) ?_
    refine rs0 (.int .i64 (IntKind.i64.wrap (((a0_4.length : Nat) : Int) - 1))) (by kernel_rfl) ?_
    refine rnil (tn_ ?_)
    refine awp_block_ ?_
    refine awp_loopL h (fun t_ S_ => ∃ (l7_m4 : Int), ∃ (l7_m3 : List (List Int)), t_ = (l7_m4, l7_m3) ∧ S_ = ⟨mkTm [(1, (.box (0, 1) 0)), (3, (.own (1, 1) (tyA 15) 0 l7_m3.length)), (4, (.int .i64 l7_m4))], mkOb (someL [((0, 1), .cells 29 [(.int .i64 a0_0), (.int .i64 a0_1), (.int .i64 a0_2), (.int .i64 a0_3), (.tree (.pair .int (.pair .int (.pair .int (.pair .int .int)))) a0_4)]), ((1, 1), .arr 59 (tyA 15) (l7_m3.map (tupA 15)))]), 2⟩) ⟨_, ((weak_tm_ 3 (.own (11, 7) (tyA 15) 0 (a0_4.length + 1)) (.own (11, 7) (tyA 15) 0 ((List.replicate (a0_4.length + 1) (List.replicate 16 0 : List Int)).length)) (by kernel_rfl) (congrArg (fun z_ => ((.own (11, 7) (tyA 15) 0 z_) : AV)) (List.length_replicate.symm : a0_4.length + 1 = (List.replicate (a0_4.length + 1) (List.replicate 16 0 : List Int)).length))).trans (weak_ren (renF [((0, 1), (1, 1)), ((1, 1), (11, 7))]) (by kernel_rfl) (by kernel_rfl) (by kernel_rfl))), ⟨IntKind.i64.wrap (((a0_4.length : Nat) : Int) - 1), List.replicate (a0_4.length + 1) (List.replicate 16 0 : List Int), rfl, rfl⟩⟩ ?_
    · rintro n_ _ _ c_ ⟨l7_m4, l7_m3, rfl, rfl⟩ h hn7
      (try dsimp only at h)
      unfold L_impl_Program_live_l1 at h
      unfold m_impl_Program_live_l1
      refine awp_seq_ ?_
      refine awp_seq_ ?_
      refine awp_region_ 4 (by kernel_rfl) ?_
      refine rs0 (.int .i64 l7_m4) (by kernel_rfl) ?_
      refine rs0 (.bool (decide (0 ≤ l7_m4))) (by kernel_rfl) ?_
      refine rnil (tn_ ?_)
      rcases cond_some h with ⟨q10, h⟩ | ⟨q10, h⟩
      · have q10_ := of_decide_eq_true q10
        refine awp_condT_ q10 (by kernel_rfl) ?_
        refine awp_skip_ (tn_ ?_)
        refine awp_seqB h (fun (l11_m3 : List (List Int)) S_ => S_ = ⟨mkTm [(1, (.box (0, 1) 0)), (3, (.own (1, 1) (tyA 15) 0 l11_m3.length)), (4, (.int .i64 l7_m4))], mkOb (someL [((0, 1), .cells 29 [(.int .i64 a0_0), (.int .i64 a0_1), (.int .i64 a0_2), (.int .i64 a0_3), (.tree (.pair .int (.pair .int (.pair .int (.pair .int .int)))) a0_4)]), ((1, 1), .arr 59 (tyA 15) (l11_m3.map (tupA 15)))]), 2⟩) ?_ ?_
        · intro v_ h
          refine awp_block_ ?_
          refine awp_seq_ ?_
          obtain ⟨x13, f13, h⟩ := ob_some h
          obtain ⟨p13, b13, e13⟩ := getI_some f13
          obtain ⟨x14, f14, h⟩ := ob_some h
          obtain ⟨p14, b14, e14⟩ := getI_some f14
          obtain ⟨x15, f15, h⟩ := ob_some h
          obtain ⟨p15, b15, e15⟩ := getI_some f15
          refine awp_region_ 13 (by kernel_rfl) ?_
          refine rs0 (.own (1, 1) (tyA 15) 0 l7_m3.length) (by kernel_rfl) ?_
          refine rs0 (.int .i64 l7_m4) (by kernel_rfl) ?_
          refine rs0 (.own (1, 1) (tyA 15) 0 l7_m3.length) (by kernel_rfl) ?_
          refine rs0 (.int .i64 l7_m4) (by kernel_rfl) ?_
          refine rs0 (.int .i64 (IntKind.i64.wrap (l7_m4 + 1))) (by kernel_rfl) ?_
          refine rs0 (.elt (1, 1) ((IntKind.i64.wrap (l7_m4 + 1)).toNat) 0) (s_idxO (t := (tyA 15)) (o := (1, 1)) (len := l7_m3.length) (k := .i64) (m := IntKind.i64.wrap (l7_m4 + 1)) (by kernel_rfl) (by kernel_rfl) rfl p13 rfl (getN_lt e13)) ?_
          refine rsl (.agg ((tyA 15).av (tupA 15 x14))) (s_ldW (N := 15) (ty := 59) (i := (1, 1)) (e := (IntKind.i64.wrap (l7_m4 + 1)).toNat) (l := x14) (xs := l7_m3.map (tupA 15)) (by kernel_rfl) (by kernel_rfl) (map_tup e14) rfl) ?_
          refine rs0 (.elt (1, 1) l7_m4.toNat 0) (s_idxO (t := (tyA 15)) (o := (1, 1)) (len := l7_m3.length) (k := .i64) (m := l7_m4) (by kernel_rfl) (by kernel_rfl) rfl p15 rfl (getN_lt e15)) ?_
          refine rsn2 (1, 1) (1, 1) (.arr 59 (tyA 15) ((l7_m3.set l7_m4.toNat x14).map (tupA 15))) (s_stW (N := 15) (ty := 59) (i := (1, 1)) (e := l7_m4.toNat) (l := x15) (l2 := x14) (xs := l7_m3.map (tupA 15)) (by kernel_rfl) (by kernel_rfl) (map_tup e15) rfl (by kernel_rfl) List.map_set.symm) ?_
          refine rnil (tn_ ?_)
          refine awp_seqB h (fun (l16_m3 : List (List Int)) S_ => S_ = ⟨mkTm [(1, (.box (0, 1) 0)), (3, (.own (1, 1) (tyA 15) 0 l16_m3.length)), (4, (.int .i64 l7_m4))], mkOb (someL [((0, 1), .cells 29 [(.int .i64 a0_0), (.int .i64 a0_1), (.int .i64 a0_2), (.int .i64 a0_3), (.tree (.pair .int (.pair .int (.pair .int (.pair .int .int)))) a0_4)]), ((1, 1), .arr 59 (tyA 15) (l16_m3.map (tupA 15)))]), 2⟩) ?_ ?_
          · intro v_ h
            refine awp_seq_ ?_
            obtain ⟨x18, f18, h⟩ := ob_some h
            obtain ⟨p18, b18, e18⟩ := getI_some f18
            obtain ⟨y19, h19, h⟩ := ob_some h
            refine awp_region_ 19 (by kernel_rfl) ?_
            refine rs0 (.box (0, 1) 4) (by kernel_rfl) ?_
            refine rsl (.tree (.pair .int (.pair .int (.pair .int (.pair .int .int)))) a0_4) (by kernel_rfl) ?_
            refine rs0 (.int .i64 l7_m4) (by kernel_rfl) ?_
            refine rs0 (.telt (.pair .int (.pair .int (.pair .int (.pair .int .int)))) x18 0) (s_idxT (t := (.pair .int (.pair .int (.pair .int (.pair .int .int))))) (xs := a0_4) (k := .i64) (m := l7_m4) (by kernel_rfl) (by kernel_rfl) rfl p18 rfl e18) ?_
            refine rs0 (.agg [(.int .i64 x18.1), (.int .i64 x18.2.1), (.int .i64 x18.2.2.1), (.int .i64 x18.2.2.2.1), (.int .i64 x18.2.2.2.2)]) (by kernel_rfl) ?_
            refine rcall (.bool y19) [] [(.agg [(.int .i64 x18.1), (.int .i64 x18.2.1), (.int .i64 x18.2.2.1), (.int .i64 x18.2.2.2.1), (.int .i64 x18.2.2.2.2)])] _ (caps := []) (args0 := [(.agg [(.int .i64 x18.1), (.int .i64 x18.2.1), (.int .i64 x18.2.2.1), (.int .i64 x18.2.2.2.1), (.int .i64 x18.2.2.2.2)])]) trivial (by kernel_rfl) (by kernel_rfl) (by kernel_rfl) (by kernel_rfl) (ok_impl_Instr_writes h19) hb_impl_Instr_writes (by kernel_rfl) ?_
            refine rnil (tn_ ?_)
            rcases cond_some h with ⟨q20, h⟩ | ⟨q20, h⟩
            · refine awp_condT_ q20 (by kernel_rfl) ?_
              obtain ⟨x21, f21, h⟩ := ob_some h
              obtain ⟨p21, b21, e21⟩ := getI_some f21
              obtain ⟨g22, h⟩ := og_some h
              obtain ⟨x23, f23, h⟩ := ob_some h
              obtain ⟨p23, b23, e23⟩ := getI_some f23
              refine awp_regionD_ 30 (by kernel_rfl) ?_
              refine ds0 (.own (1, 1) (tyA 15) 0 l7_m3.length) (by kernel_rfl) ?_
              refine ds0 (.int .i64 l7_m4) (by kernel_rfl) ?_
              refine ds0 (.box (0, 1) 4) (by kernel_rfl) ?_
              refine dsl (.tree (.pair .int (.pair .int (.pair .int (.pair .int .int)))) a0_4) (by kernel_rfl) ?_
              refine ds0 (.int .i64 l7_m4) (by kernel_rfl) ?_
              refine ds0 (.telt (.pair .int (.pair .int (.pair .int (.pair .int .int)))) x18 0) (s_idxT (t := (.pair .int (.pair .int (.pair .int (.pair .int .int))))) (xs := a0_4) (k := .i64) (m := l7_m4) (by kernel_rfl) (by kernel_rfl) rfl p18 rfl e18) ?_
              refine ds0 (.telt (.pair .int (.pair .int (.pair .int (.pair .int .int)))) x18 1) (by kernel_rfl) ?_
              refine ds0 (.int .i64 x18.2.1) (by kernel_rfl) ?_
              refine ds0 (.elt (1, 1) l7_m4.toNat 0) (s_idxO (t := (tyA 15)) (o := (1, 1)) (len := l7_m3.length) (k := .i64) (m := l7_m4) (by kernel_rfl) (by kernel_rfl) rfl p21 rfl (by rw [((rfl : l7_m3.length = l7_m3.length).trans List.length_set.symm)]; exact getN_lt e21)) ?_
              refine ds0 (.elt (1, 1) l7_m4.toNat x18.2.1.toNat) (s_idxA (o := (1, 1)) (k := .i64) (m := x18.2.1) (by kernel_rfl) (by kernel_rfl) g22 rfl) ?_
              refine dsn2 (1, 1) (1, 1) (.arr 59 (tyA 15) (((l7_m3.set l7_m4.toNat x14).set l7_m4.toNat (x21.set x18.2.1.toNat 0)).map (tupA 15))) (s_stA (N := 15) (ty := 59) (i := (1, 1)) (e := l7_m4.toNat) (j := x18.2.1.toNat) (l := x21) (v := 0) (xs := (l7_m3.set l7_m4.toNat x14).map (tupA 15)) (by kernel_rfl) (by kernel_rfl) (map_tup e21) (idxA_le g22) e23 (by kernel_rfl) List.map_set.symm) ?_
              refine dnil (by kernel_rfl) (tn_ ?_)
              obtain rfl := Option.some.inj h
              exact ⟨_, ((weak_tm_ 3 (.own (1, 1) (tyA 15) 0 l7_m3.length) (.own (1, 1) (tyA 15) 0 (((l7_m3.set l7_m4.toNat x14).set l7_m4.toNat (x21.set x18.2.1.toNat 0)).length)) (by kernel_rfl) (congrArg (fun z_ => ((.own (1, 1) (tyA 15) 0 z_) : AV)) ((((rfl : l7_m3.length = l7_m3.length).trans List.length_set.symm).trans List.length_set.symm) : l7_m3.length = ((l7_m3.set l7_m4.toNat x14).set l7_m4.toNat (x21.set x18.2.1.toNat 0)).length))).trans (weak_ren (renF []) (by kernel_rfl) (by kernel_rfl) (by kernel_rfl))), rfl⟩
            · refine awp_condF_ q20 (by kernel_rfl) ?_
              refine awp_skip_ (tn_ ?_)
              obtain rfl := Option.some.inj h
              exact ⟨_, ((weak_tm_ 3 (.own (1, 1) (tyA 15) 0 l7_m3.length) (.own (1, 1) (tyA 15) 0 ((l7_m3.set l7_m4.toNat x14).length)) (by kernel_rfl) (congrArg (fun z_ => ((.own (1, 1) (tyA 15) 0 z_) : AV)) (((rfl : l7_m3.length = l7_m3.length).trans List.length_set.symm) : l7_m3.length = (l7_m3.set l7_m4.toNat x14).length))).trans (weak_ren (renF []) (by kernel_rfl) (by kernel_rfl) (by kernel_rfl))), rfl⟩
          · rintro l16_m3 _ rfl h
            (try dsimp only at h)
            refine awp_seq_ ?_
            obtain ⟨x25, f25, h⟩ := ob_some h
            obtain ⟨p25, b25, e25⟩ := getI_some f25
            obtain ⟨y26, h26, h⟩ := ob_some h
            refine awp_region_ 10 (by kernel_rfl) ?_
            refine rs0 (.box (0, 1) 4) (by kernel_rfl) ?_
            refine rsl (.tree (.pair .int (.pair .int (.pair .int (.pair .int .int)))) a0_4) (by kernel_rfl) ?_
            refine rs0 (.int .i64 l7_m4) (by kernel_rfl) ?_
            refine rs0 (.telt (.pair .int (.pair .int (.pair .int (.pair .int .int)))) x25 0) (s_idxT (t := (.pair .int (.pair .int (.pair .int (.pair .int .int))))) (xs := a0_4) (k := .i64) (m := l7_m4) (by kernel_rfl) (by kernel_rfl) rfl p25 rfl e25) ?_
            refine rs0 (.agg [(.int .i64 x25.1), (.int .i64 x25.2.1), (.int .i64 x25.2.2.1), (.int .i64 x25.2.2.2.1), (.int .i64 x25.2.2.2.2)]) (by kernel_rfl) ?_
            refine rcall (.own (784, 7) .int 0 y26.length) [((784, 7), some (.arr 3 .int y26))] [(.agg [(.int .i64 x25.1), (.int .i64 x25.2.1), (.int .i64 x25.2.2.1), (.int .i64 x25.2.2.2.1), (.int .i64 x25.2.2.2.2)])] _ (caps := []) (args0 := [(.agg [(.int .i64 x25.1), (.int .i64 x25.2.1), (.int .i64 x25.2.2.1), (.int .i64 x25.2.2.2.1), (.int .i64 x25.2.2.2.2)])]) trivial (by kernel_rfl) (by kernel_rfl) (by kernel_rfl) (by kernel_rfl) (ok_impl_Instr_reads h26) hb_impl_Instr_reads (by kernel_rfl) ?_
            refine rs0 (.int .i64 ((y26.length : Nat) : Int)) (by kernel_rfl) ?_
            refine rs0 (.int .i64 0) (by kernel_rfl) ?_
            refine rnil (tn_ ?_)
            refine awp_block_ ?_
            refine awp_loopL h (fun t_ S_ => ∃ (l27_m51 : Nat), ∃ (l27_m3 : List (List Int)), t_ = (l27_m51, l27_m3) ∧ S_ = ⟨mkTm [(1, (.box (0, 1) 0)), (3, (.own (1, 1) (tyA 15) 0 l27_m3.length)), (4, (.int .i64 l7_m4)), (49, (.own (2, 1) .int 0 y26.length)), (50, (.int .i64 ((y26.length : Nat) : Int))), (51, (.int .i64 ((l27_m51 : Nat) : Int)))], mkOb (someL [((0, 1), .cells 29 [(.int .i64 a0_0), (.int .i64 a0_1), (.int .i64 a0_2), (.int .i64 a0_3), (.tree (.pair .int (.pair .int (.pair .int (.pair .int .int)))) a0_4)]), ((1, 1), .arr 59 (tyA 15) (l27_m3.map (tupA 15))), ((2, 1), .arr 3 .int y26)]), 2⟩) ⟨_, (weak_ren (renF [((2, 1), (784, 7))]) (by kernel_rfl) (by kernel_rfl) (by kernel_rfl)), ⟨0, l16_m3, rfl, rfl⟩⟩ ?_
            · rintro n_ _ _ c_ ⟨l27_m51, l27_m3, rfl, rfl⟩ h hn27
              (try dsimp only at h)
              unfold L_impl_Program_live_l2 at h
              unfold m_impl_Program_live_l2
              refine awp_seq_ ?_
              refine awp_region_ 3 (by kernel_rfl) ?_
              refine rs0 (.bool (decide (((l27_m51 : Nat) : Int) < ((y26.length : Nat) : Int)))) (by kernel_rfl) ?_
              refine rnil (tn_ ?_)
              refine awp_seq_ ?_
              rcases cond_some h with ⟨q30, h⟩ | ⟨q30, h⟩
              · have q30_ := of_decide_eq_true q30
                refine awp_condT_ q30 (by kernel_rfl) ?_
                refine awp_skip_ (tn_ ?_)
                refine awp_seq_ ?_
                refine awp_block_ ?_
                refine awp_seq_ ?_
                obtain ⟨x33, e33, h⟩ := ob_some h
                refine awp_region_ 6 (by kernel_rfl) ?_
                refine rs0 (.elt (2, 1) l27_m51 0) (s_idxO (t := .int) (o := (2, 1)) (len := y26.length) (k := .i64) (m := ((l27_m51 : Nat) : Int)) (by kernel_rfl) (by kernel_rfl) rfl (nat_nn _) rfl (getN_lt e33)) ?_
                refine rsl (.int .i64 x33) (s_ldE (i := (2, 1)) (j := l27_m51) (k := 0) (e := 3) (t := .int) (xs := y26) (by kernel_rfl) (by kernel_rfl) e33 (by kernel_rfl)) ?_
                refine rs0 (.int .i64 x33) (by kernel_rfl) ?_
                refine rnil (tn_ ?_)
                obtain ⟨x34, f34, h⟩ := ob_some h
                obtain ⟨p34, b34, e34⟩ := getI_some f34
                obtain ⟨g35, h⟩ := og_some h
                obtain ⟨x36, f36, h⟩ := ob_some h
                obtain ⟨p36, b36, e36⟩ := getI_some f36
                refine awp_region_ 12 (by kernel_rfl) ?_
                refine rs0 (.own (1, 1) (tyA 15) 0 l27_m3.length) (by kernel_rfl) ?_
                refine rs0 (.int .i64 l7_m4) (by kernel_rfl) ?_
                refine rs0 (.int .i64 x33) (by kernel_rfl) ?_
                refine rs0 (.elt (1, 1) l7_m4.toNat 0) (s_idxO (t := (tyA 15)) (o := (1, 1)) (len := l27_m3.length) (k := .i64) (m := l7_m4) (by kernel_rfl) (by kernel_rfl) rfl p34 rfl (getN_lt e34)) ?_
                refine rs0 (.elt (1, 1) l7_m4.toNat x33.toNat) (s_idxA (o := (1, 1)) (k := .i64) (m := x33) (by kernel_rfl) (by kernel_rfl) g35 rfl) ?_
                refine rsn2 (1, 1) (1, 1) (.arr 59 (tyA 15) ((l27_m3.set l7_m4.toNat (x34.set x33.toNat 1)).map (tupA 15))) (s_stA (N := 15) (ty := 59) (i := (1, 1)) (e := l7_m4.toNat) (j := x33.toNat) (l := x34) (v := 1) (xs := l27_m3.map (tupA 15)) (by kernel_rfl) (by kernel_rfl) (map_tup e34) (idxA_le g35) e36 (by kernel_rfl) List.map_set.symm) ?_
                refine rnil (bn_ (tn_ ?_))
                obtain ⟨g37, h⟩ := og_some h
                refine awp_region_ 14 (by kernel_rfl) ?_
                refine rs0 (.int .i64 ((l27_m51 + 1 : Nat) : Int)) (s_add1 (j := l27_m51) (by kernel_rfl) (by kernel_rfl) g37) ?_
                refine rs0 (.int .i64 ((l27_m51 + 1 : Nat) : Int)) (by kernel_rfl) ?_
                refine rnil (tn_ ?_)
                obtain rfl := Option.some.inj h
                exact ⟨(l27_m51 + 1, l27_m3.set l7_m4.toNat (x34.set x33.toNat 1)), _, ((weak_tm_ 3 (.own (1, 1) (tyA 15) 0 l27_m3.length) (.own (1, 1) (tyA 15) 0 ((l27_m3.set l7_m4.toNat (x34.set x33.toNat 1)).length)) (by kernel_rfl) (congrArg (fun z_ => ((.own (1, 1) (tyA 15) 0 z_) : AV)) (((rfl : l27_m3.length = l27_m3.length).trans List.length_set.symm) : l27_m3.length = (l27_m3.set l7_m4.toNat (x34.set x33.toNat 1)).length))).trans (weak_ren (renF []) (by kernel_rfl) (by kernel_rfl) (by kernel_rfl))), ⟨l27_m51 + 1, l27_m3.set l7_m4.toNat (x34.set x33.toNat 1), rfl, rfl⟩, hn27⟩
              · have q30_ := of_decide_eq_false q30
                refine awp_condF_ q30 (by kernel_rfl) ?_
                refine awp_exit_ (te_ (te_ (be_ (bn_ (tn_ ?_)))))
                obtain rfl := Option.some.inj h
                have h := hn27
                (try dsimp only at h)
                obtain rfl := Option.some.inj h
                exact ⟨_, (weak_ren (renF []) (by kernel_rfl) (by kernel_rfl) (by kernel_rfl)), rfl⟩
        · rintro l11_m3 _ rfl h
          (try dsimp only at h)
          refine awp_region_ 5 (by kernel_rfl) ?_
          refine rs0 (.int .i64 l7_m4) (by kernel_rfl) ?_
          refine rs0 (.int .i64 (IntKind.i64.wrap (l7_m4 - 1))) (by kernel_rfl) ?_
          refine rs0 (.int .i64 (IntKind.i64.wrap (l7_m4 - 1))) (by kernel_rfl) ?_
          refine rnil (tn_ ?_)
          obtain rfl := Option.some.inj h
          exact ⟨(IntKind.i64.wrap (l7_m4 - 1), l11_m3), _, (weak_ren (renF []) (by kernel_rfl) (by kernel_rfl) (by kernel_rfl)), ⟨IntKind.i64.wrap (l7_m4 - 1), l11_m3, rfl, rfl⟩, hn7⟩
      · have q10_ := of_decide_eq_false q10
        refine awp_condF_ q10 (by kernel_rfl) ?_
        refine awp_exit_ (te_ (te_ (be_ (tn_ ?_))))
        obtain rfl := Option.some.inj h
        have h := hn7
        (try dsimp only at h)
        obtain rfl := Option.some.inj h
        exact ⟨_, (weak_ren (renF [((0, 1), (1, 1))]) (by kernel_rfl) (by kernel_rfl) (by kernel_rfl)), rfl⟩
  · rintro l5_m3 _ rfl h
    (try dsimp only at h)
    refine awp_seq_ ?_
    refine awp_region_ 4 (by kernel_rfl) ?_
    refine rs0 (.own (0, 1) (tyA 15) 0 l5_m3.length) (by kernel_rfl) ?_
    refine rs0 (.own (0, 1) (tyA 15) 0 l5_m3.length) (by kernel_rfl) ?_
    refine rnil (tn_ ?_)
    refine awp_ret_ ?_
    obtain rfl := Option.some.inj h
    exact ret_ [(.own (0, 1) (tyA 15) 0 l5_m3.length)] (by simp) (by kernel_rfl) (p_one rfl (l_own (by kernel_rfl) (List.length_map _).symm) p_nil) (by kernel_rfl) (by kernel_rfl)
end Go.Proofs.YtomijolkdmaimaaDoor
