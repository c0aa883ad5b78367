/- Partial functions in place of code, and that the code does what they say: LRA. No condition. -/
import Derived.Test.YtomijolkdmaimaaDoorLR0
namespace Go.Proofs.YtomijolkdmaimaaDoor
open Go.RowKit Go.Deep
set_option maxRecDepth 4000
def m_spec_LiveRegisters : AC :=
  (.seq (.region [⟨(some 4), none, (.i (.box 29 (.tmp 1)))⟩, ⟨(some 6), none, (.i (.mov (.cst .nils)))⟩, ⟨(some 7), none, (.i (.mov (.cst (.bool false))))⟩] false [])
  (.seq (.seq (.region [⟨(some 8), none, (.i (.mov (.tmp 0)))⟩, ⟨(some 9), none, (.i (.ld false 5 (.tmp 4)))⟩, ⟨(some 10), none, (.call (.cst (.fn 33 [])) [(.tmp 8), (.tmp 9)] [[], [none, none, none, none, (some (.pair .int (.pair .int (.pair .int (.pair .int .int)))))]])⟩, ⟨(some 11), none, (.i (.not (.tmp 10)))⟩, ⟨(some 12), none, (.i (.mov (.tmp 11)))⟩, ⟨(some 13), (some (12, false)), (.i (.mov (.tmp 2)))⟩, ⟨(some 14), (some (12, false)), (.i (.fld 4 (.tmp 4)))⟩, ⟨(some 15), (some (12, false)), (.i (.ld true 1 (.tmp 14)))⟩, ⟨(some 16), (some (12, false)), (.i (.len (.tmp 15)))⟩, ⟨(some 17), (some (12, false)), (.call (.cst (.fn 37 [])) [(.tmp 13), (.cst (.int .i64 0)), (.tmp 16)] [[], [], []])⟩, ⟨(some 18), (some (12, false)), (.i (.not (.tmp 17)))⟩, ⟨(some 19), none, (.i (.pick (.tmp 12) (.cst (.bool true)) (.tmp 18)))⟩] false [])
  (.cond (.tmp 19)
    (.seq (.region [⟨(some 6), none, (.i (.mov (.cst .nils)))⟩, ⟨(some 7), none, (.i (.mov (.cst (.bool false))))⟩] false [])
    .ret)
    .skip))
  (.seq (.region [⟨(some 20), none, (.i (.fld 4 (.tmp 4)))⟩, ⟨(some 21), none, (.i (.ld true 1 (.tmp 20)))⟩, ⟨(some 22), none, (.i (.mov (.tmp 2)))⟩, ⟨(some 23), none, (.call (.cst (.fn 38 [])) [(.tmp 21), (.tmp 22)] [[(some (.pair .int (.pair .int (.pair .int (.pair .int .int)))))], []])⟩, ⟨(some 6), none, (.i (.mov (.tmp 23)))⟩, ⟨(some 7), none, (.i (.mov (.cst (.bool true))))⟩] false [])
  .ret)))
def r_spec_LiveRegisters : List Res := [.tmp 6, .tmp 7]
theorem c_spec_LiveRegisters : compiled Tryd.prog Tryd.f13 = some (m_spec_LiveRegisters, r_spec_LiveRegisters) := by kernel_rfl
theorem hb_spec_LiveRegisters : hasBody Tryd.prog 13 = true := by kernel_rfl
def L_spec_LiveRegisters (a0 : Int) (a1_0 : Int) (a1_1 : Int) (a1_2 : Int) (a1_3 : Int) (a1_4 : List (Int × Int × Int × Int × Int)) (a2 : Int) : Option (List Int × Bool) :=
  Option.bind (Option.bind (L_spec_cmGood a0 a1_0 a1_1 a1_2 a1_3 a1_4) fun y4 =>
  cond (!y4)
    (some true)
    (Option.bind (L_spec_l1In a2 0 ((a1_4.length : Nat) : Int)) fun y6 =>
    some (!y6))) fun l3_m19 =>
cond l3_m19
  (some ([], false))
  (Option.bind (L_spec_cmLive a1_4 a2) fun y10 =>
  some (y10, true))
def rv_spec_LiveRegisters (r : List Int × Bool) : RV := ⟨true, [(false, [.new 3 .int r.1]), (false, [.sc (.bool r.2)])]⟩
theorem ok_spec_LiveRegisters {a0 : Int} {a1_0 : Int} {a1_1 : Int} {a1_2 : Int} {a1_3 : Int} {a1_4 : List (Int × Int × Int × Int × Int)} {a2 : Int} {r : List Int × Bool} (h : L_spec_LiveRegisters a0 a1_0 a1_1 a1_2 a1_3 a1_4 a2 = some r) : CallOK Tryd.prog Tab 13 [(.int .i64 a0), (.agg [(.int .i64 a1_0), (.int .i64 a1_1), (.int .i64 a1_2), (.int .i64 a1_3), (.tree (.pair .int (.pair .int (.pair .int (.pair .int .int)))) a1_4)]), (.int .i64 a2)] (rv_spec_LiveRegisters r) := by
  refine call_of_ (by kernel_rfl) Tryd.func13 c_spec_LiveRegisters (n := 24) (by kernel_rfl) (by simp) (tl := [(0, (.int .i64 a0)), (1, (.agg [(.int .i64 a1_0), (.int .i64 a1_1), (.int .i64 a1_2), (.int .i64 a1_3), (.tree (.pair .int (.pair .int (.pair .int (.pair .int .int)))) a1_4)])), (2, (.int .i64 a2))]) rfl ?_
  unfold m_spec_LiveRegisters
  unfold L_spec_LiveRegisters at h
  refine awp_seq_ ?_
  refine awp_region_ 4 (by kernel_rfl) ?_
  refine rs1 (.box (4, 1) 0) (4, 1) (.cells 29 [(.int .i64 a1_0), (.int .i64 a1_1), (.int .i64 a1_2), (.int .i64 a1_3), (.tree (.pair .int (.pair .int (.pair .int (.pair .int .int)))) a1_4)]) (by kernel_rfl) ?_
  refine rs0 .nils (by kernel_rfl) ?_
  refine rs0 (.bool false) (by kernel_rfl) ?_
  refine rnil (tn_ ?_)
  refine awp_seq_ ?_
  refine awp_seqB h (fun (l3_m19 : Bool) S_ => S_ = ⟨mkTm [(2, (.int .i64 a2)), (4, (.box (0, 1) 0)), (19, (.bool l3_m19))], mkOb (someL [((0, 1), .cells 29 [(.int .i64 a1_0), (.int .i64 a1_1), (.int .i64 a1_2), (.int .i64 a1_3), (.tree (.pair .int (.pair .int (.pair .int (.pair .int .int)))) a1_4)])]), 2⟩) ?_ ?_
  · intro v_ h
    obtain ⟨y4, h4, h⟩ := ob_some h
    rcases cond_some h with ⟨q5, h⟩ | ⟨q5, h⟩
    · refine awp_region_ 16 (by kernel_rfl) ?_
      refine rs0 (.int .i64 a0) (by kernel_rfl) ?_
      refine rsl (.agg [(.int .i64 a1_0), (.int .i64 a1_1), (.int .i64 a1_2), (.int .i64 a1_3), (.tree (.pair .int (.pair .int (.pair .int (.pair .int .int)))) a1_4)]) (by kernel_rfl) ?_
      refine rcall (.bool y4) [] [(.int .i64 a0), (.agg [(.int .i64 a1_0), (.int .i64 a1_1), (.int .i64 a1_2), (.int .i64 a1_3), (.tree (.pair .int (.pair .int (.pair .int (.pair .int .int)))) a1_4)])] _ (caps := []) (args0 := [(.int .i64 a0), (.agg [(.int .i64 a1_0), (.int .i64 a1_1), (.int .i64 a1_2), (.int .i64 a1_3), (.tree (.pair .int (.pair .int (.pair .int (.pair .int .int)))) a1_4)])]) trivial (by kernel_rfl) (by kernel_rfl) (by kernel_rfl) (by kernel_rfl) (ok_spec_cmGood h4) hb_spec_cmGood (by kernel_rfl) ?_
      refine rs0 (.bool (!y4)) (by kernel_rfl) ?_
      refine rs0 (.bool (!y4)) (by kernel_rfl) ?_
      refine rs0 .any (s_skip (by kernel_rfl) q5) ?_
      refine rs0 .any (s_skip (by kernel_rfl) q5) ?_
      refine rs0 .any (s_skip (by kernel_rfl) q5) ?_
      refine rs0 .any (s_skip (by kernel_rfl) q5) ?_
      refine rs0 .any (s_skip (by kernel_rfl) q5) ?_
      refine rs0 .any (s_skip (by kernel_rfl) q5) ?_
      refine rs0 (.bool true) (s_pickT (by kernel_rfl) q5) ?_
      refine rnil (tn_ ?_)
      obtain rfl := Option.some.inj h
      exact ⟨_, (weak_ren (renF [((0, 1), (4, 1))]) (by kernel_rfl) (by kernel_rfl) (by kernel_rfl)), rfl⟩
    · obtain ⟨y6, h6, h⟩ := ob_some h
      refine awp_region_ 16 (by kernel_rfl) ?_
      refine rs0 (.int .i64 a0) (by kernel_rfl) ?_
      refine rsl (.agg [(.int .i64 a1_0), (.int .i64 a1_1), (.int .i64 a1_2), (.int .i64 a1_3), (.tree (.pair .int (.pair .int (.pair .int (.pair .int .int)))) a1_4)]) (by kernel_rfl) ?_
      refine rcall (.bool y4) [] [(.int .i64 a0), (.agg [(.int .i64 a1_0), (.int .i64 a1_1), (.int .i64 a1_2), (.int .i64 a1_3), (.tree (.pair .int (.pair .int (.pair .int (.pair .int .int)))) a1_4)])] _ (caps := []) (args0 := [(.int .i64 a0), (.agg [(.int .i64 a1_0), (.int .i64 a1_1), (.int .i64 a1_2), (.int .i64 a1_3), (.tree (.pair .int (.pair .int (.pair .int (.pair .int .int)))) a1_4)])]) trivial (by kernel_rfl) (by kernel_rfl) (by kernel_rfl) (by kernel_rfl) (ok_spec_cmGood h4) hb_spec_cmGood (by kernel_rfl) ?_
      refine rs0 (.bool (!y4)) (by kernel_rfl) ?_
      refine rs0 (.bool (!y4)) (by kernel_rfl) ?_
      refine rs0 (.int .i64 a2) (s_gd (by kernel_rfl) q5 (by kernel_rfl)) ?_
      refine rs0 (.box (4, 1) 4) (s_gd (by kernel_rfl) q5 (by kernel_rfl)) ?_
      refine rsl (.tree (.pair .int (.pair .int (.pair .int (.pair .int .int)))) a1_4) (s_gd (by kernel_rfl) q5 (by kernel_rfl)) ?_
      refine rs0 (.int .i64 ((a1_4.length : Nat) : Int)) (s_gd (by kernel_rfl) q5 (by kernel_rfl)) ?_
      refine rcall (.bool y6) [] [(.int .i64 a2), (.int .i64 0), (.int .i64 ((a1_4.length : Nat) : Int))] _ (caps := []) (args0 := [(.int .i64 a2), (.int .i64 0), (.int .i64 ((a1_4.length : Nat) : Int))]) (gdOK_b (by kernel_rfl) q5) (by kernel_rfl) (by kernel_rfl) (by kernel_rfl) (by kernel_rfl) (ok_spec_l1In h6) hb_spec_l1In (by kernel_rfl) ?_
      refine rs0 (.bool (!y6)) (s_gd (by kernel_rfl) q5 (by kernel_rfl)) ?_
      refine rs0 (.bool (!y6)) (s_pickF (by kernel_rfl) q5) ?_
      refine rnil (tn_ ?_)
      obtain rfl := Option.some.inj h
      exact ⟨_, (weak_ren (renF [((0, 1), (4, 1))]) (by kernel_rfl) (by kernel_rfl) (by kernel_rfl)), rfl⟩
  · rintro l3_m19 _ rfl h
    (try dsimp only at h)
    rcases cond_some h with ⟨q7, h⟩ | ⟨q7, h⟩
    · refine awp_condT_ q7 (by kernel_rfl) ?_
      refine awp_seq_ ?_
      refine awp_region_ 4 (by kernel_rfl) ?_
      refine rs0 .nils (by kernel_rfl) ?_
      refine rs0 (.bool false) (by kernel_rfl) ?_
      refine rnil (tn_ ?_)
      refine awp_ret_ (tr_ ?_)
      obtain rfl := Option.some.inj h
      exact ret_ [.nils, (.bool false)] (by simp) (by kernel_rfl) (p_one rfl (l_nils rfl) (p_one rfl (l_sc (by kernel_rfl)) p_nil)) (by kernel_rfl) (by kernel_rfl)
    · refine awp_condF_ q7 (by kernel_rfl) ?_
      refine awp_skip_ (tn_ ?_)
      refine awp_seq_ ?_
      obtain ⟨y10, h10, h⟩ := ob_some h
      refine awp_region_ 8 (by kernel_rfl) ?_
      refine rs0 (.box (0, 1) 4) (by kernel_rfl) ?_
      refine rsl (.tree (.pair .int (.pair .int (.pair .int (.pair .int .int)))) a1_4) (by kernel_rfl) ?_
      refine rs0 (.int .i64 a2) (by kernel_rfl) ?_
      refine rcall (.own (368, 5) .int 0 y10.length) [((368, 5), some (.arr 3 .int y10))] [(.tree (.pair .int (.pair .int (.pair .int (.pair .int .int)))) a1_4), (.int .i64 a2)] _ (caps := []) (args0 := [(.tree (.pair .int (.pair .int (.pair .int (.pair .int .int)))) a1_4), (.int .i64 a2)]) trivial (by kernel_rfl) (by kernel_rfl) (by kernel_rfl) (by kernel_rfl) (ok_spec_cmLive h10) hb_spec_cmLive (by kernel_rfl) ?_
      refine rs0 (.own (368, 5) .int 0 y10.length) (by kernel_rfl) ?_
      refine rs0 (.bool true) (by kernel_rfl) ?_
      refine rnil (tn_ ?_)
      refine awp_ret_ ?_
      obtain rfl := Option.some.inj h
      exact ret_ [(.own (368, 5) .int 0 y10.length), (.bool true)] (by simp) (by kernel_rfl) (p_one rfl (l_own (by kernel_rfl) rfl) (p_one rfl (l_sc (by kernel_rfl)) p_nil)) (by kernel_rfl) (by kernel_rfl)
def m_impl_LiveRegisters_l1 : AC :=
  (.seq (.region [⟨(some 30), none, (.i (.bin .lss (.tmp 29) (.cst (.int .i64 16))))⟩] false [])
  (.seq (.cond (.tmp 30)
    .skip
    (.exit 0))
  (.seq (.block 1 (.seq (.region [⟨(some 31), none, (.i (.mov (.tmp 29)))⟩, ⟨(some 32), none, (.i (.idxV 16 (.tmp 28) (.tmp 29)))⟩, ⟨(some 9), none, (.i (.mov (.tmp 31)))⟩, ⟨(some 10), none, (.i (.mov (.tmp 32)))⟩] false [])
  (.seq (.region [⟨(some 33), none, (.i (.mov (.tmp 10)))⟩, ⟨(some 34), none, (.i (.bin .eql (.tmp 33) (.cst (.int .i64 1))))⟩] false [])
  (.cond (.tmp 34)
    (.region [⟨(some 35), none, (.i (.mov (.tmp 8)))⟩, ⟨(some 36), none, (.i (.mov (.tmp 9)))⟩, ⟨(some 37), none, (.mkS 3 .int [(.tmp 36)])⟩, ⟨(some 38), none, (.append 3 .int 8 (.tmp 35) (.tmp 37))⟩, ⟨(some 8), none, (.i (.mov (.tmp 38)))⟩] false [])
    .skip))))
  (.region [⟨(some 39), none, (.i (.bin .add (.tmp 29) (.cst (.int .i64 1))))⟩, ⟨(some 29), none, (.i (.mov (.tmp 39)))⟩] false []))))
def m_impl_LiveRegisters : AC :=
  (.seq (.region [⟨(some 4), none, (.i (.box 29 (.tmp 1)))⟩, ⟨(some 6), none, (.i (.mov (.cst .nils)))⟩, ⟨(some 7), none, (.i (.mov (.cst (.bool false))))⟩] false [])
  (.seq (.seq (.region [⟨(some 11), none, (.i (.mov (.tmp 0)))⟩, ⟨(some 12), none, (.i (.ld false 5 (.tmp 4)))⟩, ⟨(some 13), none, (.call (.cst (.fn 35 [])) [(.tmp 11), (.tmp 12)] [[], [none, none, none, none, (some (.pair .int (.pair .int (.pair .int (.pair .int .int)))))]])⟩, ⟨(some 14), none, (.i (.not (.tmp 13)))⟩, ⟨(some 15), none, (.i (.mov (.tmp 14)))⟩, ⟨(some 16), (some (15, false)), (.i (.mov (.tmp 2)))⟩, ⟨(some 17), (some (15, false)), (.i (.fld 4 (.tmp 4)))⟩, ⟨(some 18), (some (15, false)), (.i (.ld true 1 (.tmp 17)))⟩, ⟨(some 19), (some (15, false)), (.i (.len (.tmp 18)))⟩, ⟨(some 20), (some (15, false)), (.call (.cst (.fn 39 [])) [(.tmp 16), (.cst (.int .i64 0)), (.tmp 19)] [[], [], []])⟩, ⟨(some 21), (some (15, false)), (.i (.not (.tmp 20)))⟩, ⟨(some 22), none, (.i (.pick (.tmp 15) (.cst (.bool true)) (.tmp 21)))⟩] false [])
  (.cond (.tmp 22)
    (.seq (.region [⟨(some 6), none, (.i (.mov (.cst .nils)))⟩, ⟨(some 7), none, (.i (.mov (.cst (.bool false))))⟩] false [])
    .ret)
    .skip))
  (.seq (.region [⟨(some 23), none, (.mkS 3 .int [])⟩, ⟨(some 8), none, (.i (.mov (.tmp 23)))⟩] false [])
  (.seq (.seq (.region [⟨(some 24), none, (.i (.ld false 5 (.tmp 4)))⟩, ⟨(some 25), none, (.call (.cst (.fn 40 [])) [(.tmp 24)] [[none, none, none, none, (some (.pair .int (.pair .int (.pair .int (.pair .int .int)))))]])⟩, ⟨(some 26), none, (.i (.mov (.tmp 2)))⟩, ⟨(some 27), none, (.i (.idx 16 (.tmp 25) (.tmp 26)))⟩, ⟨(some 28), none, (.i (.ld false 16 (.tmp 27)))⟩, ⟨(some 29), none, (.i (.mov (.cst (.int .i64 0))))⟩] false [])
  (.block 0 (.loop m_impl_LiveRegisters_l1)))
  (.seq (.region [⟨(some 40), none, (.i (.mov (.tmp 8)))⟩, ⟨(some 6), none, (.i (.mov (.tmp 40)))⟩, ⟨(some 7), none, (.i (.mov (.cst (.bool true))))⟩] false [])
  .ret)))))
def r_impl_LiveRegisters : List Res := [.tmp 6, .tmp 7]
theorem c_impl_LiveRegisters : compiled Tryd.prog Tryd.f14 = some (m_impl_LiveRegisters, r_impl_LiveRegisters) := by kernel_rfl
theorem hb_impl_LiveRegisters : hasBody Tryd.prog 14 = true := by kernel_rfl
def L_impl_LiveRegisters_l1 (x13 : List Int) (l14_m29 : Nat) (l14_m8 : List Int) : Option (Ctl (Nat × List Int) (List Int)) :=
  cond (decide (((l14_m29 : Nat) : Int) < 16))
  (Option.bind (og (0 ≤ ((l14_m29 : Nat) : Int) ∧ ((l14_m29 : Nat) : Int) < ((16 : Nat) : Int)) <|
    Option.bind (x13[l14_m29]?) fun x21 =>
    cond (x21 == 1)
      (og (l14_m8.length + 1 ≤ 1073741824 ∧ (l14_m8.length + 1) * 8 ≤ 140737488355328) <|
      some (l14_m8 ++ ([((l14_m29 : Nat) : Int)])))
      (some l14_m8)) fun l18_m8 =>
  og (l14_m29 + 1 < 4611686018427387904) <|
  some (Ctl.next (l14_m29 + 1, l18_m8)))
  (some (Ctl.out l14_m8))
def L_impl_LiveRegisters (a0 : Int) (a1_0 : Int) (a1_1 : Int) (a1_2 : Int) (a1_3 : Int) (a1_4 : List (Int × Int × Int × Int × Int)) (a2 : Int) : Option (List Int × Bool) :=
  Option.bind (Option.bind (L_impl_isProgram a0 a1_0 a1_1 a1_2 a1_3 a1_4) fun y4 =>
  cond (!y4)
    (some true)
    (Option.bind (L_impl_within a2 0 ((a1_4.length : Nat) : Int)) fun y6 =>
    some (!y6))) fun l3_m22 =>
cond l3_m22
  (some ([], false))
  (Option.bind (Option.bind (L_impl_Program_live a1_0 a1_1 a1_2 a1_3 a1_4) fun y12 =>
    Option.bind (getI y12 a2) fun x13 =>
    loopM (fun s_ : Nat × List Int => L_impl_LiveRegisters_l1 x13 s_.1 s_.2) 4611686018427387904 (0, [])) fun l10_m8 =>
  some (l10_m8, true))
def rv_impl_LiveRegisters (r : List Int × Bool) : RV := ⟨true, [(false, [.new 3 .int r.1]), (false, [.sc (.bool r.2)])]⟩
theorem ok_impl_LiveRegisters {a0 : Int} {a1_0 : Int} {a1_1 : Int} {a1_2 : Int} {a1_3 : Int} {a1_4 : List (Int × Int × Int × Int × Int)} {a2 : Int} {r : List Int × Bool} (h : L_impl_LiveRegisters a0 a1_0 a1_1 a1_2 a1_3 a1_4 a2 = some r) : CallOK Tryd.prog Tab 14 [(.int .i64 a0), (.agg [(.int .i64 a1_0), (.int .i64 a1_1), (.int .i64 a1_2), (.int .i64 a1_3), (.tree (.pair .int (.pair .int (.pair .int (.pair .int .int)))) a1_4)]), (.int .i64 a2)] (rv_impl_LiveRegisters r) := by
  refine call_of_ (by kernel_rfl) Tryd.func14 c_impl_LiveRegisters (n := 41) (by kernel_rfl) (by simp) (tl := [(0, (.int .i64 a0)), (1, (.agg [(.int .i64 a1_0), (.int .i64 a1_1), (.int .i64 a1_2), (.int .i64 a1_3), (.tree (.pair .int (.pair .int (.pair .int (.pair .int .int)))) a1_4)])), (2, (.int .i64 a2))]) rfl ?_
  unfold m_impl_LiveRegisters
  unfold L_impl_LiveRegisters at h
  refine awp_seq_ ?_
  refine awp_region_ 4 (by kernel_rfl) ?_
  refine rs1 (.box (4, 1) 0) (4, 1) (.cells 29 [(.int .i64 a1_0), (.int .i64 a1_1), (.int .i64 a1_2), (.int .i64 a1_3), (.tree (.pair .int (.pair .int (.pair .int (.pair .int .int)))) a1_4)]) (by kernel_rfl) ?_
  refine rs0 .nils (by kernel_rfl) ?_
  refine rs0 (.bool false) (by kernel_rfl) ?_
  refine rnil (tn_ ?_)
  refine awp_seq_ ?_
  refine awp_seqB h (fun (l3_m22 : Bool) S_ => S_ = ⟨mkTm [(2, (.int .i64 a2)), (4, (.box (0, 1) 0)), (22, (.bool l3_m22))], mkOb (someL [((0, 1), .cells 29 [(.int .i64 a1_0), (.int .i64 a1_1), (.int .i64 a1_2), (.int .i64 a1_3), (.tree (.pair .int (.pair .int (.pair .int (.pair .int .int)))) a1_4)])]), 2⟩) ?_ ?_
  · intro v_ h
    obtain ⟨y4, h4, h⟩ := ob_some h
    rcases cond_some h with ⟨q5, h⟩ | ⟨q5, h⟩
    · refine awp_region_ 16 (by kernel_rfl) ?_
      refine rs0 (.int .i64 a0) (by kernel_rfl) ?_
      refine rsl (.agg [(.int .i64 a1_0), (.int .i64 a1_1), (.int .i64 a1_2), (.int .i64 a1_3), (.tree (.pair .int (.pair .int (.pair .int (.pair .int .int)))) a1_4)]) (by kernel_rfl) ?_
      refine rcall (.bool y4) [] [(.int .i64 a0), (.agg [(.int .i64 a1_0), (.int .i64 a1_1), (.int .i64 a1_2), (.int .i64 a1_3), (.tree (.pair .int (.pair .int (.pair .int (.pair .int .int)))) a1_4)])] _ (caps := []) (args0 := [(.int .i64 a0), (.agg [(.int .i64 a1_0), (.int .i64 a1_1), (.int .i64 a1_2), (.int .i64 a1_3), (.tree (.pair .int (.pair .int (.pair .int (.pair .int .int)))) a1_4)])]) trivial (by kernel_rfl) (by kernel_rfl) (by kernel_rfl) (by kernel_rfl) (ok_impl_isProgram h4) hb_impl_isProgram (by kernel_rfl) ?_
      refine rs0 (.bool (!y4)) (by kernel_rfl) ?_
      refine rs0 (.bool (!y4)) (by kernel_rfl) ?_
      refine rs0 .any (s_skip (by kernel_rfl) q5) ?_
      refine rs0 .any (s_skip (by kernel_rfl) q5) ?_
      refine rs0 .any (s_skip (by kernel_rfl) q5) ?_
      refine rs0 .any (s_skip (by kernel_rfl) q5) ?_
      refine rs0 .any (s_skip (by kernel_rfl) q5) ?_
      refine rs0 .any (s_skip (by kernel_rfl) q5) ?_
      refine rs0 (.bool true) (s_pickT (by kernel_rfl) q5) ?_
      refine rnil (tn_ ?_)
      obtain rfl := Option.some.inj h
      exact ⟨_, (weak_ren (renF [((0, 1), (4, 1))]) (by kernel_rfl) (by kernel_rfl) (by kernel_rfl)), rfl⟩
    · obtain ⟨y6, h6, h⟩ := ob_some h
      refine awp_region_ 16 (by kernel_rfl) ?_
      refine rs0 (.int .i64 a0) (by kernel_rfl) ?_
      refine rsl (.agg [(.int .i64 a1_0), (.int .i64 a1_1), (.int .i64 a1_2), (.int .i64 a1_3), (.tree (.pair .int (.pair .int (.pair .int (.pair .int .int)))) a1_4)]) (by kernel_rfl) ?_
      refine rcall (.bool y4) [] [(.int .i64 a0), (.agg [(.int .i64 a1_0), (.int .i64 a1_1), (.int .i64 a1_2), (.int .i64 a1_3), (.tree (.pair .int (.pair .int (.pair .int (.pair .int .int)))) a1_4)])] _ (caps := []) (args0 := [(.int .i64 a0), (.agg [(.int .i64 a1_0), (.int .i64 a1_1), (.int .i64 a1_2), (.int .i64 a1_3), (.tree (.pair .int (.pair .int (.pair .int (.pair .int .int)))) a1_4)])]) trivial (by kernel_rfl) (by kernel_rfl) (by kernel_rfl) (by kernel_rfl) (ok_impl_isProgram h4) hb_impl_isProgram (by kernel_rfl) ?_
      refine rs0 (.bool (!y4)) (by kernel_rfl) ?_
      refine rs0 (.bool (!y4)) (by kernel_rfl) ?_
      refine rs0 (.int .i64 a2) (s_gd (by kernel_rfl) q5 (by kernel_rfl)) ?_
      refine rs0 (.box (4, 1) 4) (s_gd (by kernel_rfl) q5 (by kernel_rfl)) ?_
      refine rsl (.tree (.pair .int (.pair .int (.pair .int (.pair .int .int)))) a1_4) (s_gd (by kernel_rfl) q5 (by kernel_rfl)) ?_
      refine rs0 (.int .i64 ((a1_4.length : Nat) : Int)) (s_gd (by kernel_rfl) q5 (by kernel_rfl)) ?_
      refine rcall (.bool y6) [] [(.int .i64 a2), (.int .i64 0), (.int .i64 ((a1_4.length : Nat) : Int))] _ (caps := []) (args0 := [(.int .i64 a2), (.int .i64 0), (.int .i64 ((a1_4.length : Nat) : Int))]) (gdOK_b (by kernel_rfl) q5) (by kernel_rfl) (by kernel_rfl) (by kernel_rfl) (by kernel_rfl) (ok_impl_within h6) hb_impl_within (by kernel_rfl) ?_
      refine rs0 (.bool (!y6)) (s_gd (by kernel_rfl) q5 (by kernel_rfl)) ?_
      refine rs0 (.bool (!y6)) (s_pickF (by kernel_rfl) q5) ?_
      refine rnil (tn_ ?_)
      obtain rfl := Option.some.inj h
      exact ⟨_, (weak_ren (renF [((0, 1), (4, 1))]) (by kernel_rfl) (by kernel_rfl) (by kernel_rfl)), rfl⟩
  · rintro l3_m22 _ rfl h
    (try dsimp only at h)
    rcases cond_some h with ⟨q7, h⟩ | ⟨q7, h⟩
    · refine awp_condT_ q7 (by kernel_rfl) ?_
      refine awp_seq_ ?_
      refine awp_region_ 4 (by kernel_rfl) ?_
      refine rs0 .nils (by kernel_rfl) ?_
      refine rs0 (.bool false) (by kernel_rfl) ?_
      refine rnil (tn_ ?_)
      refine awp_ret_ (tr_ ?_)
      obtain rfl := Option.some.inj h
      exact ret_ [.nils, (.bool false)] (by simp) (by kernel_rfl) (p_one rfl (l_nils rfl) (p_one rfl (l_sc (by kernel_rfl)) p_nil)) (by kernel_rfl) (by kernel_rfl)
    · refine awp_condF_ q7 (by kernel_rfl) ?_
      refine awp_skip_ (tn_ ?_)
      refine awp_seq_ ?_
      refine awp_region_ 4 (by kernel_rfl) ?_
      refine rs1 (.own (23, 2) .int 0 0) (23, 2) (.arr 3 .int []) (by kernel_rfl) ?_
      refine rs0 (.own (23, 2) .int 0 0) (by kernel_rfl) ?_
      refine rnil (tn_ ?_)
      refine awp_seqB h (fun (l10_m8 : List Int) S_ => S_ = ⟨mkTm [(8, (.own (0, 1) .int 0 l10_m8.length))], mkOb (someL [((0, 1), .arr 3 .int l10_m8)]), 2⟩) ?_ ?_
      · intro v_ h
        refine awp_seq_ ?_
        obtain ⟨y12, h12, h⟩ := ob_some h
        obtain ⟨x13, f13, h⟩ := ob_some h
        obtain ⟨p13, b13, e13⟩ := getI_some f13
        refine awp_region_ 10 (by kernel_rfl) ?_
        refine rsl (.agg [(.int .i64 a1_0), (.int .i64 a1_1), (.int .i64 a1_2), (.int .i64 a1_3), (.tree (.pair .int (.pair .int (.pair .int (.pair .int .int)))) a1_4)]) (by kernel_rfl) ?_
        refine rcall (.own (400, 5) (tyA 15) 0 ((y12.map (tupA 15)).length)) [((400, 5), some (.arr 59 (tyA 15) (y12.map (tupA 15))))] [(.agg [(.int .i64 a1_0), (.int .i64 a1_1), (.int .i64 a1_2), (.int .i64 a1_3), (.tree (.pair .int (.pair .int (.pair .int (.pair .int .int)))) a1_4)])] _ (caps := []) (args0 := [(.agg [(.int .i64 a1_0), (.int .i64 a1_1), (.int .i64 a1_2), (.int .i64 a1_3), (.tree (.pair .int (.pair .int (.pair .int (.pair .int .int)))) a1_4)])]) trivial (by kernel_rfl) (by kernel_rfl) (by kernel_rfl) (by kernel_rfl) (ok_impl_Program_live h12) hb_impl_Program_live (by kernel_rfl) ?_
        refine rs0 (.int .i64 a2) (by kernel_rfl) ?_
        refine rs0 (.elt (400, 5) a2.toNat 0) (s_idxO (t := (tyA 15)) (o := (400, 5)) (len := (y12.map (tupA 15)).length) (k := .i64) (m := a2) (by kernel_rfl) (by kernel_rfl) rfl p13 rfl (by rw [(List.length_map _)]; exact getN_lt e13)) ?_
        refine rsl (.agg ((tyA 15).av (tupA 15 x13))) (s_ldW (N := 15) (ty := 59) (i := (400, 5)) (e := a2.toNat) (l := x13) (xs := y12.map (tupA 15)) (by kernel_rfl) (by kernel_rfl) (map_tup e13) rfl) ?_
        refine rs0 (.int .i64 0) (by kernel_rfl) ?_
        refine rnil (tn_ ?_)
        refine awp_block_ ?_
        refine awp_loopL h (fun t_ S_ => ∃ (l14_m29 : Nat), ∃ (l14_m8 : List Int), t_ = (l14_m29, l14_m8) ∧ S_ = ⟨mkTm [(8, (.own (0, 1) .int 0 l14_m8.length)), (28, (.agg ((tyA 15).av (tupA 15 x13)))), (29, (.int .i64 ((l14_m29 : Nat) : Int)))], mkOb (someL [((0, 1), .arr 3 .int l14_m8)]), 2⟩) ⟨_, (weak_ren (renF [((0, 1), (23, 2))]) (by kernel_rfl) (by kernel_rfl) (by kernel_rfl)), ⟨0, [], rfl, rfl⟩⟩ ?_
        · rintro n_ _ _ c_ ⟨l14_m29, l14_m8, rfl, rfl⟩ h hn14
          (try dsimp only at h)
          unfold L_impl_LiveRegisters_l1 at h
          unfold m_impl_LiveRegisters_l1
          refine awp_seq_ ?_
          refine awp_region_ 3 (by kernel_rfl) ?_
          refine rs0 (.bool (decide (((l14_m29 : Nat) : Int) < 16))) (by kernel_rfl) ?_
          refine rnil (tn_ ?_)
          refine awp_seq_ ?_
          rcases cond_some h with ⟨q17, h⟩ | ⟨q17, h⟩
          · have q17_ := of_decide_eq_true q17
            refine awp_condT_ q17 (by kernel_rfl) ?_
            refine awp_skip_ (tn_ ?_)
            refine awp_seqB h (fun (l18_m8 : List Int) S_ => S_ = ⟨mkTm [(8, (.own (0, 1) .int 0 l18_m8.length)), (28, (.agg ((tyA 15).av (tupA 15 x13)))), (29, (.int .i64 ((l14_m29 : Nat) : Int)))], mkOb (someL [((0, 1), .arr 3 .int l18_m8)]), 2⟩) ?_ ?_
            · intro v_ h
              refine awp_block_ ?_
              refine awp_seq_ ?_
              obtain ⟨g20, h⟩ := og_some h
              obtain ⟨x21, e21, h⟩ := ob_some h
              refine awp_region_ 7 (by kernel_rfl) ?_
              refine rs0 (.int .i64 ((l14_m29 : Nat) : Int)) (by kernel_rfl) ?_
              refine rs0 (.int .i64 x21) (s_idxV (N := 15) (l := x13) (k := .i64) (m := ((l14_m29 : Nat) : Int)) (by kernel_rfl) (by kernel_rfl) g20 rfl e21) ?_
              refine rs0 (.int .i64 ((l14_m29 : Nat) : Int)) (by kernel_rfl) ?_
              refine rs0 (.int .i64 x21) (by kernel_rfl) ?_
              refine rnil (tn_ ?_)
              refine awp_seq_ ?_
              refine awp_region_ 9 (by kernel_rfl) ?_
              refine rs0 (.int .i64 x21) (by kernel_rfl) ?_
              refine rs0 (.bool (x21 == 1)) (by kernel_rfl) ?_
              refine rnil (tn_ ?_)
              rcases cond_some h with ⟨q23, h⟩ | ⟨q23, h⟩
              · refine awp_condT_ q23 (by kernel_rfl) ?_
                obtain ⟨g24, h⟩ := og_some h
                refine awp_region_ 14 (by kernel_rfl) ?_
                refine rs0 (.own (0, 1) .int 0 l14_m8.length) (by kernel_rfl) ?_
                refine rs0 (.int .i64 ((l14_m29 : Nat) : Int)) (by kernel_rfl) ?_
                refine rs1 (.own (37, 11) .int 0 1) (37, 11) (.arr 3 .int ([((l14_m29 : Nat) : Int)])) (by kernel_rfl) ?_
                refine rs2 (.own (0, 12) .int 0 ((l14_m8 ++ ([((l14_m29 : Nat) : Int)])).length)) (0, 1) (0, 12) (.arr 3 .int (l14_m8 ++ ([((l14_m29 : Nat) : Int)]))) (s_appO (t := .int) (t' := .int) (xs := l14_m8) (ys := [((l14_m29 : Nat) : Int)]) (zs := l14_m8 ++ ([((l14_m29 : Nat) : Int)])) (j := (0, 1)) (len := l14_m8.length) (c := (.own (37, 11) .int 0 1)) (by kernel_rfl) (by kernel_rfl) rfl (by kernel_rfl) (sr_own (e := 3) (by kernel_rfl) rfl) rfl g24) ?_
                refine rs0 (.own (0, 12) .int 0 ((l14_m8 ++ ([((l14_m29 : Nat) : Int)])).length)) (by kernel_rfl) ?_
                refine rnil (bn_ (tn_ ?_))
                obtain rfl := Option.some.inj h
                exact ⟨_, (weak_ren (renF [((0, 1), (0, 12))]) (by kernel_rfl) (by kernel_rfl) (by kernel_rfl)), rfl⟩
              · refine awp_condF_ q23 (by kernel_rfl) ?_
                refine awp_skip_ (bn_ (tn_ ?_))
                obtain rfl := Option.some.inj h
                exact ⟨_, (weak_ren (renF []) (by kernel_rfl) (by kernel_rfl) (by kernel_rfl)), rfl⟩
            · rintro l18_m8 _ rfl h
              (try dsimp only at h)
              obtain ⟨g25, h⟩ := og_some h
              refine awp_region_ 4 (by kernel_rfl) ?_
              refine rs0 (.int .i64 ((l14_m29 + 1 : Nat) : Int)) (s_add1 (j := l14_m29) (by kernel_rfl) (by kernel_rfl) g25) ?_
              refine rs0 (.int .i64 ((l14_m29 + 1 : Nat) : Int)) (by kernel_rfl) ?_
              refine rnil (tn_ ?_)
              obtain rfl := Option.some.inj h
              exact ⟨(l14_m29 + 1, l18_m8), _, (weak_ren (renF []) (by kernel_rfl) (by kernel_rfl) (by kernel_rfl)), ⟨l14_m29 + 1, l18_m8, rfl, rfl⟩, hn14⟩
          · have q17_ := of_decide_eq_false q17
            refine awp_condF_ q17 (by kernel_rfl) ?_
            refine awp_exit_ (te_ (te_ (be_ (tn_ ?_))))
            obtain rfl := Option.some.inj h
            have h := hn14
            (try dsimp only at h)
            obtain rfl := Option.some.inj h
            exact ⟨_, (weak_ren (renF []) (by kernel_rfl) (by kernel_rfl) (by kernel_rfl)), rfl⟩
      · rintro l10_m8 _ rfl h
        (try dsimp only at h)
        refine awp_seq_ ?_
        refine awp_region_ 5 (by kernel_rfl) ?_
        refine rs0 (.own (0, 1) .int 0 l10_m8.length) (by kernel_rfl) ?_
        refine rs0 (.own (0, 1) .int 0 l10_m8.length) (by kernel_rfl) ?_
        refine rs0 (.bool true) (by kernel_rfl) ?_
        refine rnil (tn_ ?_)
        refine awp_ret_ ?_
        obtain rfl := Option.some.inj h
        exact ret_ [(.own (0, 1) .int 0 l10_m8.length), (.bool true)] (by simp) (by kernel_rfl) (p_one rfl (l_own (by kernel_rfl) rfl) (p_one rfl (l_sc (by kernel_rfl)) p_nil)) (by kernel_rfl) (by kernel_rfl)
def m_laws_FnExactLiveRegisters : AC :=
  (.seq (.region [⟨(some 4), none, (.i (.box 24 (.tmp 1)))⟩, ⟨(some 6), none, (.i (.mov (.cst (.bool false))))⟩] false [])
  (.seq (.region [⟨(some 7), none, (.i (.mov (.cst (.int .i64 1048576))))⟩] false [])
  (.seq (.region [⟨(some 18), none, (.i (.ld false 5 (.tmp 4)))⟩, ⟨(some 19), none, (.i (.mov (.tmp 7)))⟩, ⟨(some 20), none, (.call (.cst (.fn 8 [])) [(.tmp 18), (.tmp 19)] [[none, none, none, none, (some (.pair .int (.pair .int (.pair .int (.pair .int .int)))))], []])⟩, ⟨(some 7), none, (.i (.mov (.tmp 20)))⟩] false [])
  (.seq (.seq (.region [⟨(some 21), none, (.i (.mov (.tmp 7)))⟩, ⟨(some 22), none, (.i (.bin .lss (.tmp 21) (.cst (.int .i64 0))))⟩] false [])
  (.cond (.tmp 22)
    (.seq (.region [⟨(some 6), none, (.i (.mov (.cst (.bool true))))⟩] false [])
    .ret)
    .skip))
  (.seq (.region [⟨(some 24), none, (.i (.mov (.tmp 0)))⟩, ⟨(some 25), none, (.i (.ld false 5 (.tmp 4)))⟩, ⟨(some 26), none, (.call (.cst (.fn 10 [])) [(.tmp 25)] [[none, none, none, none, (some (.pair .int (.pair .int (.pair .int (.pair .int .int)))))]])⟩, ⟨(some 27), none, (.i (.mov (.tmp 2)))⟩, ⟨(some 28), none, (.call (.cst (.fn 13 [])) [(.tmp 24), (.tmp 26), (.tmp 27)] [[], [none, none, none, none, (some (.pair .int (.pair .int (.pair .int (.pair .int .int)))))], []])⟩, ⟨(some 23), none, (.i (.mov (.tmp 28)))⟩, ⟨(some 29), none, (.i (.extr 0 (.tmp 23)))⟩, ⟨(some 30), none, (.i (.extr 1 (.tmp 23)))⟩, ⟨(some 8), none, (.i (.mov (.tmp 29)))⟩, ⟨(some 9), none, (.i (.mov (.tmp 30)))⟩] false [])
  (.seq (.region [⟨(some 31), none, (.i (.ld false 5 (.tmp 4)))⟩, ⟨(some 32), none, (.call (.cst (.fn 10 [])) [(.tmp 31)] [[none, none, none, none, (some (.pair .int (.pair .int (.pair .int (.pair .int .int)))))]])⟩, ⟨(some 10), none, (.i (.alloc 29 [(.int .i64 0), (.int .i64 0), (.int .i64 0), (.int .i64 0), .nils]))⟩, ⟨none, none, (.st false 5 (.tmp 10) (.tmp 32))⟩] false [])
  (.seq (.region [⟨(some 34), none, (.i (.mov (.tmp 0)))⟩, ⟨(some 35), none, (.i (.ld false 5 (.tmp 10)))⟩, ⟨(some 36), none, (.i (.mov (.tmp 2)))⟩, ⟨(some 37), none, (.call (.cst (.fn 14 [])) [(.tmp 34), (.tmp 35), (.tmp 36)] [[], [none, none, none, none, (some (.pair .int (.pair .int (.pair .int (.pair .int .int)))))], []])⟩, ⟨(some 33), none, (.i (.mov (.tmp 37)))⟩, ⟨(some 38), none, (.i (.extr 0 (.tmp 33)))⟩, ⟨(some 39), none, (.i (.extr 1 (.tmp 33)))⟩, ⟨(some 11), none, (.i (.mov (.tmp 38)))⟩, ⟨(some 12), none, (.i (.mov (.tmp 39)))⟩] false [])
  (.seq (.seq (.region [⟨(some 40), none, (.i (.mov (.tmp 11)))⟩, ⟨(some 41), none, (.i (.mov (.tmp 8)))⟩, ⟨(some 42), none, (.call (.cst (.fn 15 [])) [(.tmp 40), (.tmp 41)] [[(some .int)], [(some .int)]])⟩, ⟨(some 43), none, (.i (.not (.tmp 42)))⟩, ⟨(some 44), none, (.i (.mov (.tmp 43)))⟩, ⟨(some 45), (some (44, false)), (.i (.mov (.tmp 12)))⟩, ⟨(some 46), (some (44, false)), (.i (.mov (.tmp 9)))⟩, ⟨(some 47), (some (44, false)), (.i (.cmp true 0 (.tmp 45) (.tmp 46)))⟩, ⟨(some 48), none, (.i (.pick (.tmp 44) (.cst (.bool true)) (.tmp 47)))⟩] false [])
  (.cond (.tmp 48)
    (.seq (.region [⟨(some 6), none, (.i (.mov (.cst (.bool false))))⟩] false [])
    .ret)
    .skip))
  (.seq (.seq (.region [⟨(some 49), none, (.i (.ld false 5 (.tmp 10)))⟩, ⟨(some 50), none, (.i (.ld false 5 (.tmp 4)))⟩, ⟨(some 51), none, (.call (.cst (.fn 10 [])) [(.tmp 50)] [[none, none, none, none, (some (.pair .int (.pair .int (.pair .int (.pair .int .int)))))]])⟩, ⟨(some 52), none, (.call (.cst (.fn 12 [])) [(.tmp 49), (.tmp 51)] [[none, none, none, none, (some (.pair .int (.pair .int (.pair .int (.pair .int .int)))))], [none, none, none, none, (some (.pair .int (.pair .int (.pair .int (.pair .int .int)))))]])⟩, ⟨(some 53), none, (.i (.not (.tmp 52)))⟩] true [(0, 2)])
  (.cond (.tmp 53)
    (.seq (.region [⟨(some 6), none, (.i (.mov (.cst (.bool false))))⟩] false [])
    .ret)
    .skip))
  (.seq (.region [⟨(some 13), none, (.i (.mov (.cst (.int .i64 1))))⟩] false [])
  (.seq (.region [⟨(some 54), none, (.i (.ld false 5 (.tmp 10)))⟩, ⟨(some 55), none, (.i (.mov (.tmp 13)))⟩, ⟨(some 56), none, (.call (.cst (.fn 16 [])) [(.tmp 54), (.tmp 55)] [[none, none, none, none, (some (.pair .int (.pair .int (.pair .int (.pair .int .int)))))], []])⟩, ⟨(some 13), none, (.i (.mov (.tmp 56)))⟩] false [])
  (.seq (.seq (.region [⟨(some 57), none, (.i (.mov (.tmp 13)))⟩, ⟨(some 58), none, (.i (.bin .lss (.tmp 57) (.cst (.int .i64 0))))⟩, ⟨(some 59), none, (.i (.mov (.tmp 58)))⟩, ⟨(some 60), (some (59, false)), (.i (.mov (.tmp 11)))⟩, ⟨(some 61), (some (59, false)), (.i (.mov (.tmp 8)))⟩, ⟨(some 62), (some (59, false)), (.call (.cst (.fn 15 [])) [(.tmp 60), (.tmp 61)] [[(some .int)], [(some .int)]])⟩, ⟨(some 63), (some (59, false)), (.i (.not (.tmp 62)))⟩, ⟨(some 64), none, (.i (.pick (.tmp 59) (.cst (.bool true)) (.tmp 63)))⟩, ⟨(some 65), none, (.i (.mov (.tmp 64)))⟩, ⟨(some 66), (some (65, false)), (.i (.mov (.tmp 12)))⟩, ⟨(some 67), (some (65, false)), (.i (.mov (.tmp 9)))⟩, ⟨(some 68), (some (65, false)), (.i (.cmp true 0 (.tmp 66) (.tmp 67)))⟩, ⟨(some 69), none, (.i (.pick (.tmp 65) (.cst (.bool true)) (.tmp 68)))⟩] false [])
  (.cond (.tmp 69)
    (.seq (.region [⟨(some 6), none, (.i (.mov (.cst (.bool false))))⟩] false [])
    .ret)
    .skip))
  (.seq (.region [⟨(some 14), none, (.i (.mov (.cst (.int .i64 1))))⟩] false [])
  (.seq (.region [⟨(some 70), none, (.i (.mov (.tmp 11)))⟩, ⟨(some 71), none, (.i (.mov (.tmp 14)))⟩, ⟨(some 72), none, (.call (.cst (.fn 17 [])) [(.tmp 70), (.tmp 71)] [[(some .int)], []])⟩, ⟨(some 14), none, (.i (.mov (.tmp 72)))⟩] false [])
  (.seq (.region [⟨(some 15), none, (.i (.mov (.cst (.int .i64 1))))⟩] false [])
  (.seq (.region [⟨(some 73), none, (.i (.mov (.tmp 11)))⟩, ⟨(some 74), none, (.i (.mov (.tmp 15)))⟩, ⟨(some 75), none, (.call (.cst (.fn 18 [])) [(.tmp 73), (.tmp 74)] [[(some .int)], []])⟩, ⟨(some 15), none, (.i (.mov (.tmp 75)))⟩] false [])
  (.seq (.seq (.region [⟨(some 76), none, (.i (.mov (.tmp 15)))⟩, ⟨(some 77), none, (.i (.bin .lss (.tmp 76) (.cst (.int .i64 0))))⟩] false [])
  (.cond (.tmp 77)
    (.seq (.region [⟨(some 6), none, (.i (.mov (.cst (.bool false))))⟩] false [])
    .ret)
    .skip))
  (.seq (.seq (.region [⟨(some 78), none, (.i (.mov (.tmp 15)))⟩, ⟨(some 79), none, (.i (.mov (.tmp 14)))⟩, ⟨(some 80), none, (.i (.bin .neq (.tmp 78) (.tmp 79)))⟩] false [])
  (.cond (.tmp 80)
    (.seq (.region [⟨(some 6), none, (.i (.mov (.cst (.bool false))))⟩] false [])
    .ret)
    .skip))
  (.seq (.region [⟨(some 82), none, (.i (.mov (.tmp 0)))⟩, ⟨(some 83), none, (.i (.ld false 5 (.tmp 4)))⟩, ⟨(some 84), none, (.call (.cst (.fn 10 [])) [(.tmp 83)] [[none, none, none, none, (some (.pair .int (.pair .int (.pair .int (.pair .int .int)))))]])⟩, ⟨(some 85), none, (.i (.mov (.tmp 2)))⟩, ⟨(some 86), none, (.call (.cst (.fn 14 [])) [(.tmp 82), (.tmp 84), (.tmp 85)] [[], [none, none, none, none, (some (.pair .int (.pair .int (.pair .int (.pair .int .int)))))], []])⟩, ⟨(some 81), none, (.i (.mov (.tmp 86)))⟩, ⟨(some 87), none, (.i (.extr 0 (.tmp 81)))⟩, ⟨(some 88), none, (.i (.extr 1 (.tmp 81)))⟩, ⟨(some 16), none, (.i (.mov (.tmp 87)))⟩, ⟨(some 17), none, (.i (.mov (.tmp 88)))⟩] false [])
  (.seq (.seq (.region [⟨(some 89), none, (.i (.mov (.tmp 16)))⟩, ⟨(some 90), none, (.i (.mov (.tmp 8)))⟩, ⟨(some 91), none, (.call (.cst (.fn 15 [])) [(.tmp 89), (.tmp 90)] [[(some .int)], [(some .int)]])⟩, ⟨(some 92), none, (.i (.not (.tmp 91)))⟩, ⟨(some 93), none, (.i (.mov (.tmp 92)))⟩, ⟨(some 94), (some (93, false)), (.i (.mov (.tmp 17)))⟩, ⟨(some 95), (some (93, false)), (.i (.mov (.tmp 9)))⟩, ⟨(some 96), (some (93, false)), (.i (.cmp true 0 (.tmp 94) (.tmp 95)))⟩, ⟨(some 97), none, (.i (.pick (.tmp 93) (.cst (.bool true)) (.tmp 96)))⟩] false [])
  (.cond (.tmp 97)
    (.seq (.region [⟨(some 6), none, (.i (.mov (.cst (.bool false))))⟩] false [])
    .ret)
    .skip))
  (.seq (.region [⟨(some 15), none, (.i (.mov (.cst (.int .i64 1))))⟩] false [])
  (.seq (.region [⟨(some 98), none, (.i (.mov (.tmp 11)))⟩, ⟨(some 99), none, (.i (.mov (.tmp 15)))⟩, ⟨(some 100), none, (.call (.cst (.fn 18 [])) [(.tmp 98), (.tmp 99)] [[(some .int)], []])⟩, ⟨(some 15), none, (.i (.mov (.tmp 100)))⟩] false [])
  (.seq (.seq (.region [⟨(some 101), none, (.i (.mov (.tmp 15)))⟩, ⟨(some 102), none, (.i (.bin .lss (.tmp 101) (.cst (.int .i64 0))))⟩] false [])
  (.cond (.tmp 102)
    (.seq (.region [⟨(some 6), none, (.i (.mov (.cst (.bool false))))⟩] false [])
    .ret)
    .skip))
  (.seq (.seq (.region [⟨(some 103), none, (.i (.mov (.tmp 15)))⟩, ⟨(some 104), none, (.i (.mov (.tmp 14)))⟩, ⟨(some 105), none, (.i (.bin .neq (.tmp 103) (.tmp 104)))⟩] false [])
  (.cond (.tmp 105)
    (.seq (.region [⟨(some 6), none, (.i (.mov (.cst (.bool false))))⟩] false [])
    .ret)
    .skip))
  (.seq (.region [⟨(some 6), none, (.i (.mov (.cst (.bool true))))⟩] false [])
  .ret)))))))))))))))))))))))))
def r_laws_FnExactLiveRegisters : List Res := [.tmp 6]
theorem c_laws_FnExactLiveRegisters : compiled Tryd.prog Tryd.f4 = some (m_laws_FnExactLiveRegisters, r_laws_FnExactLiveRegisters) := by kernel_rfl
theorem hb_laws_FnExactLiveRegisters : hasBody Tryd.prog 4 = true := by kernel_rfl
def L_laws_FnExactLiveRegisters (a0 : Int) (a1_0 : Int) (a1_1 : Int) (a1_2 : Int) (a1_3 : Int) (a1_4 : List (Int × Int × Int × Int × Int)) (a2 : Int) : Option Bool :=
  Option.bind (L_laws_szProgram a1_0 a1_1 a1_2 a1_3 a1_4 1048576) fun y4 =>
cond (decide (y4 < 0))
  (some true)
  (Option.bind (L_laws_toProgram a1_0 a1_1 a1_2 a1_3 a1_4) fun y10 =>
  Option.bind (L_spec_LiveRegisters a0 y10.1 y10.2.1 y10.2.2.1 y10.2.2.2.1 y10.2.2.2.2 a2) fun y11 =>
  Option.bind (L_laws_toProgram a1_0 a1_1 a1_2 a1_3 a1_4) fun y13 =>
  Option.bind (L_impl_LiveRegisters a0 y13.1 y13.2.1 y13.2.2.1 y13.2.2.2.1 y13.2.2.2.2 a2) fun y15 =>
  Option.bind (Option.bind (L_laws_eqIntS y15.1 y11.1) fun y18 =>
    cond (!y18)
      (some true)
      (some (y15.2 != y11.2))) fun l17_m48 =>
  cond l17_m48
    (some false)
    (Option.bind (L_laws_toProgram a1_0 a1_1 a1_2 a1_3 a1_4) fun y24 =>
    Option.bind (L_laws_eqProgram y13.1 y13.2.1 y13.2.2.1 y13.2.2.2.1 y13.2.2.2.2 y24.1 y24.2.1 y24.2.2.1 y24.2.2.2.1 y24.2.2.2.2) fun y25 =>
    cond (!y25)
      (some false)
      (Option.bind (L_laws_markProgram y13.1 y13.2.1 y13.2.2.1 y13.2.2.2.1 y13.2.2.2.2 1) fun y30 =>
      og (y30.1.length = y13.2.2.2.2.length) <|
      Option.bind (cond (decide (y30.2 < 0))
          (some true)
          (Option.bind (L_laws_eqIntS y15.1 y11.1) fun y35 =>
          cond (!y35)
            (some true)
            (some (y15.2 != y11.2)))) fun l33_m69 =>
      cond l33_m69
        (some false)
        (Option.bind (L_laws_markIntS y15.1 1) fun y41 =>
        og (y41.1.length = y15.1.length) <|
        Option.bind (L_laws_heldIntS y41.1 1) fun y45 =>
        cond (decide (y45 < 0))
          (some false)
          (cond (y45 != y41.2)
            (some false)
            (Option.bind (L_laws_toProgram a1_0 a1_1 a1_2 a1_3 a1_4) fun y55 =>
            Option.bind (L_impl_LiveRegisters a0 y55.1 y55.2.1 y55.2.2.1 y55.2.2.2.1 y55.2.2.2.2 a2) fun y56 =>
            Option.bind (Option.bind (L_laws_eqIntS y56.1 y11.1) fun y59 =>
              cond (!y59)
                (some true)
                (some (y56.2 != y11.2))) fun l58_m97 =>
            cond l58_m97
              (some false)
              (Option.bind (L_laws_heldIntS y41.1 1) fun y65 =>
              cond (decide (y65 < 0))
                (some false)
                (cond (y65 != y41.2)
                  (some false)
                  (some true)))))))))
def rv_laws_FnExactLiveRegisters (r : Bool) : RV := ⟨false, [(false, [.sc (.bool r)])]⟩
theorem ok_laws_FnExactLiveRegisters {a0 : Int} {a1_0 : Int} {a1_1 : Int} {a1_2 : Int} {a1_3 : Int} {a1_4 : List (Int × Int × Int × Int × Int)} {a2 : Int} {r : Bool} (h : L_laws_FnExactLiveRegisters a0 a1_0 a1_1 a1_2 a1_3 a1_4 a2 = some r) : CallOK Tryd.prog Tab 4 [(.int .i64 a0), (.agg [(.int .i64 a1_0), (.int .i64 a1_1), (.int .i64 a1_2), (.int .i64 a1_3), (.tree (.pair .int (.pair .int (.pair .int (.pair .int .int)))) a1_4)]), (.int .i64 a2)] (rv_laws_FnExactLiveRegisters r) := by
  refine call_of_ (by kernel_rfl) Tryd.func4 c_laws_FnExactLiveRegisters (n := 106) (by kernel_rfl) (by simp) (tl := [(0, (.int .i64 a0)), (1, (.agg [(.int .i64 a1_0), (.int .i64 a1_1), (.int .i64 a1_2), (.int .i64 a1_3), (.tree (.pair .int (.pair .int (.pair .int (.pair .int .int)))) a1_4)])), (2, (.int .i64 a2))]) rfl ?_
  unfold m_laws_FnExactLiveRegisters
  unfold L_laws_FnExactLiveRegisters at h
  refine awp_seq_ ?_
  refine awp_region_ 3 (by kernel_rfl) ?_
  refine rs1 (.box (4, 1) 0) (4, 1) (.cells 24 [(.int .i64 a1_0), (.int .i64 a1_1), (.int .i64 a1_2), (.int .i64 a1_3), (.tree (.pair .int (.pair .int (.pair .int (.pair .int .int)))) a1_4)]) (by kernel_rfl) ?_
  refine rs0 (.bool false) (by kernel_rfl) ?_
  refine rnil (tn_ ?_)
  refine awp_seq_ ?_
  refine awp_region_ 4 (by kernel_rfl) ?_
  refine rs0 (.int .i64 1048576) (by kernel_rfl) ?_
  refine rnil (tn_ ?_)
  refine awp_seq_ ?_
  obtain ⟨y4, h4, h⟩ := ob_some h
  refine awp_region_ 8 (by kernel_rfl) ?_
  refine rsl (.agg [(.int .i64 a1_0), (.int .i64 a1_1), (.int .i64 a1_2), (.int .i64 a1_3), (.tree (.pair .int (.pair .int (.pair .int (.pair .int .int)))) a1_4)]) (by kernel_rfl) ?_
  refine rs0 (.int .i64 1048576) (by kernel_rfl) ?_
  refine rcall (.int .i64 y4) [] [(.agg [(.int .i64 a1_0), (.int .i64 a1_1), (.int .i64 a1_2), (.int .i64 a1_3), (.tree (.pair .int (.pair .int (.pair .int (.pair .int .int)))) a1_4)]), (.int .i64 1048576)] _ (caps := []) (args0 := [(.agg [(.int .i64 a1_0), (.int .i64 a1_1), (.int .i64 a1_2), (.int .i64 a1_3), (.tree (.pair .int (.pair .int (.pair .int (.pair .int .int)))) a1_4)]), (.int .i64 1048576)]) trivial (by kernel_rfl) (by kernel_rfl) (by kernel_rfl) (by kernel_rfl) (ok_laws_szProgram h4) hb_laws_szProgram (by kernel_rfl) ?_
  refine rs0 (.int .i64 y4) (by kernel_rfl) ?_
  refine rnil (tn_ ?_)
  refine awp_seq_ ?_
  refine awp_seq_ ?_
  refine awp_region_ 10 (by kernel_rfl) ?_
  refine rs0 (.int .i64 y4) (by kernel_rfl) ?_
  refine rs0 (.bool (decide (y4 < 0))) (by kernel_rfl) ?_
  refine rnil (tn_ ?_)
  rcases cond_some h with ⟨q7, h⟩ | ⟨q7, h⟩
  · have q7_ := of_decide_eq_true q7
    refine awp_condT_ q7 (by kernel_rfl) ?_
    refine awp_seq_ ?_
    refine awp_region_ 11 (by kernel_rfl) ?_
    refine rs0 (.bool true) (by kernel_rfl) ?_
    refine rnil (tn_ ?_)
    refine awp_ret_ (tr_ ?_)
    obtain rfl := Option.some.inj h
    exact ret_ [(.bool true)] (by simp) (by kernel_rfl) (p_one rfl (l_sc (by kernel_rfl)) p_nil) (by kernel_rfl) (by kernel_rfl)
  · have q7_ := of_decide_eq_false q7
    refine awp_condF_ q7 (by kernel_rfl) ?_
    refine awp_skip_ (tn_ ?_)
    refine awp_seq_ ?_
    obtain ⟨y10, h10, h⟩ := ob_some h
    obtain ⟨y11, h11, h⟩ := ob_some h
    refine awp_region_ 20 (by kernel_rfl) ?_
    refine rs0 (.int .i64 a0) (by kernel_rfl) ?_
    refine rsl (.agg [(.int .i64 a1_0), (.int .i64 a1_1), (.int .i64 a1_2), (.int .i64 a1_3), (.tree (.pair .int (.pair .int (.pair .int (.pair .int .int)))) a1_4)]) (by kernel_rfl) ?_
    refine rcall (.agg [(.int .i64 y10.1), (.int .i64 y10.2.1), (.int .i64 y10.2.2.1), (.int .i64 y10.2.2.2.1), (.own (416, 12) (.pair .int (.pair .int (.pair .int (.pair .int .int)))) 0 y10.2.2.2.2.length)]) [((416, 12), some (.arr 69 (.pair .int (.pair .int (.pair .int (.pair .int .int)))) y10.2.2.2.2))] [(.agg [(.int .i64 a1_0), (.int .i64 a1_1), (.int .i64 a1_2), (.int .i64 a1_3), (.tree (.pair .int (.pair .int (.pair .int (.pair .int .int)))) a1_4)])] _ (caps := []) (args0 := [(.agg [(.int .i64 a1_0), (.int .i64 a1_1), (.int .i64 a1_2), (.int .i64 a1_3), (.tree (.pair .int (.pair .int (.pair .int (.pair .int .int)))) a1_4)])]) trivial (by kernel_rfl) (by kernel_rfl) (by kernel_rfl) (by kernel_rfl) (ok_laws_toProgram h10) hb_laws_toProgram (by kernel_rfl) ?_
    refine rs0 (.int .i64 a2) (by kernel_rfl) ?_
    refine rcall (.tup [(.own (448, 14) .int 0 y11.1.length), (.bool y11.2)]) [((448, 14), some (.arr 3 .int y11.1))] [(.int .i64 a0), (.agg [(.int .i64 y10.1), (.int .i64 y10.2.1), (.int .i64 y10.2.2.1), (.int .i64 y10.2.2.2.1), (.own (416, 12) (.pair .int (.pair .int (.pair .int (.pair .int .int)))) 0 y10.2.2.2.2.length)]), (.int .i64 a2)] _ (caps := []) (args0 := [(.int .i64 a0), (.agg [(.int .i64 y10.1), (.int .i64 y10.2.1), (.int .i64 y10.2.2.1), (.int .i64 y10.2.2.2.1), (.tree (.pair .int (.pair .int (.pair .int (.pair .int .int)))) y10.2.2.2.2)]), (.int .i64 a2)]) trivial (by kernel_rfl) (by kernel_rfl) (gm_cons (by kernel_rfl) (gm_cons (gd_agg (gm_cons (by kernel_rfl) (gm_cons (by kernel_rfl) (gm_cons (by kernel_rfl) (gm_cons (by kernel_rfl) (gm_cons (gd_own (e := 69) (by kernel_rfl) rfl) gm_nil)))))) (gm_cons (by kernel_rfl) gm_nil))) (by kernel_rfl) (ok_spec_LiveRegisters h11) hb_spec_LiveRegisters (by kernel_rfl) ?_
    refine rs0 (.tup [(.own (448, 14) .int 0 y11.1.length), (.bool y11.2)]) (by kernel_rfl) ?_
    refine rs0 (.own (448, 14) .int 0 y11.1.length) (by kernel_rfl) ?_
    refine rs0 (.bool y11.2) (by kernel_rfl) ?_
    refine rs0 (.own (448, 14) .int 0 y11.1.length) (by kernel_rfl) ?_
    refine rs0 (.bool y11.2) (by kernel_rfl) ?_
    refine rnil (tn_ ?_)
    refine awp_seq_ ?_
    obtain ⟨y13, h13, h⟩ := ob_some h
    refine awp_region_ 24 (by kernel_rfl) ?_
    refine rsl (.agg [(.int .i64 a1_0), (.int .i64 a1_1), (.int .i64 a1_2), (.int .i64 a1_3), (.tree (.pair .int (.pair .int (.pair .int (.pair .int .int)))) a1_4)]) (by kernel_rfl) ?_
    refine rcall (.agg [(.int .i64 y13.1), (.int .i64 y13.2.1), (.int .i64 y13.2.2.1), (.int .i64 y13.2.2.2.1), (.own (512, 21) (.pair .int (.pair .int (.pair .int (.pair .int .int)))) 0 y13.2.2.2.2.length)]) [((512, 21), some (.arr 69 (.pair .int (.pair .int (.pair .int (.pair .int .int)))) y13.2.2.2.2))] [(.agg [(.int .i64 a1_0), (.int .i64 a1_1), (.int .i64 a1_2), (.int .i64 a1_3), (.tree (.pair .int (.pair .int (.pair .int (.pair .int .int)))) a1_4)])] _ (caps := []) (args0 := [(.agg [(.int .i64 a1_0), (.int .i64 a1_1), (.int .i64 a1_2), (.int .i64 a1_3), (.tree (.pair .int (.pair .int (.pair .int (.pair .int .int)))) a1_4)])]) trivial (by kernel_rfl) (by kernel_rfl) (by kernel_rfl) (by kernel_rfl) (ok_laws_toProgram h13) hb_laws_toProgram (by kernel_rfl) ?_
    refine rs1 (.box (10, 22) 0) (10, 22) (.cells 29 [(.int .i64 0), (.int .i64 0), (.int .i64 0), (.int .i64 0), .nils]) (by kernel_rfl) ?_
    refine rsn2 (10, 22) (10, 22) (.cells 29 [(.int .i64 y13.1), (.int .i64 y13.2.1), (.int .i64 y13.2.2.1), (.int .i64 y13.2.2.2.1), (.own (512, 21) (.pair .int (.pair .int (.pair .int (.pair .int .int)))) 0 y13.2.2.2.2.length)]) (by kernel_rfl) ?_
    refine rnil (tn_ ?_)
    refine awp_seq_ ?_
    obtain ⟨y15, h15, h⟩ := ob_some h
    refine awp_region_ 33 (by kernel_rfl) ?_
    refine rs0 (.int .i64 a0) (by kernel_rfl) ?_
    refine rsl (.agg [(.int .i64 y13.1), (.int .i64 y13.2.1), (.int .i64 y13.2.2.1), (.int .i64 y13.2.2.2.1), (.own (512, 21) (.pair .int (.pair .int (.pair .int (.pair .int .int)))) 0 y13.2.2.2.2.length)]) (by kernel_rfl) ?_
    refine rs0 (.int .i64 a2) (by kernel_rfl) ?_
    refine rcall (.tup [(.own (592, 27) .int 0 y15.1.length), (.bool y15.2)]) [((592, 27), some (.arr 3 .int y15.1))] [(.int .i64 a0), (.agg [(.int .i64 y13.1), (.int .i64 y13.2.1), (.int .i64 y13.2.2.1), (.int .i64 y13.2.2.2.1), (.own (512, 21) (.pair .int (.pair .int (.pair .int (.pair .int .int)))) 0 y13.2.2.2.2.length)]), (.int .i64 a2)] _ (caps := []) (args0 := [(.int .i64 a0), (.agg [(.int .i64 y13.1), (.int .i64 y13.2.1), (.int .i64 y13.2.2.1), (.int .i64 y13.2.2.2.1), (.tree (.pair .int (.pair .int (.pair .int (.pair .int .int)))) y13.2.2.2.2)]), (.int .i64 a2)]) trivial (by kernel_rfl) (by kernel_rfl) (gm_cons (by kernel_rfl) (gm_cons (gd_agg (gm_cons (by kernel_rfl) (gm_cons (by kernel_rfl) (gm_cons (by kernel_rfl) (gm_cons (by kernel_rfl) (gm_cons (gd_own (e := 69) (by kernel_rfl) rfl) gm_nil)))))) (gm_cons (by kernel_rfl) gm_nil))) (by kernel_rfl) (ok_impl_LiveRegisters h15) hb_impl_LiveRegisters (by kernel_rfl) ?_
    refine rs0 (.tup [(.own (592, 27) .int 0 y15.1.length), (.bool y15.2)]) (by kernel_rfl) ?_
    refine rs0 (.own (592, 27) .int 0 y15.1.length) (by kernel_rfl) ?_
    refine rs0 (.bool y15.2) (by kernel_rfl) ?_
    refine rs0 (.own (592, 27) .int 0 y15.1.length) (by kernel_rfl) ?_
    refine rs0 (.bool y15.2) (by kernel_rfl) ?_
    refine rnil (tn_ ?_)
    refine awp_seq_ ?_
    refine awp_seqB h (fun (l17_m48 : Bool) S_ => S_ = ⟨mkTm [(0, (.int .i64 a0)), (2, (.int .i64 a2)), (4, (.box (0, 1) 0)), (8, (.own (1, 1) .int 0 y11.1.length)), (9, (.bool y11.2)), (10, (.box (2, 1) 0)), (11, (.own (3, 1) .int 0 y15.1.length)), (12, (.bool y15.2)), (48, (.bool l17_m48))], mkOb (someL [((0, 1), .cells 24 [(.int .i64 a1_0), (.int .i64 a1_1), (.int .i64 a1_2), (.int .i64 a1_3), (.tree (.pair .int (.pair .int (.pair .int (.pair .int .int)))) a1_4)]), ((1, 1), .arr 3 .int y11.1), ((2, 1), .cells 29 [(.int .i64 y13.1), (.int .i64 y13.2.1), (.int .i64 y13.2.2.1), (.int .i64 y13.2.2.2.1), (.own (4, 1) (.pair .int (.pair .int (.pair .int (.pair .int .int)))) 0 y13.2.2.2.2.length)]), ((3, 1), .arr 3 .int y15.1), ((4, 1), .arr 69 (.pair .int (.pair .int (.pair .int (.pair .int .int)))) y13.2.2.2.2)]), 2⟩) ?_ ?_
    · intro v_ h
      obtain ⟨y18, h18, h⟩ := ob_some h
      rcases cond_some h with ⟨q19, h⟩ | ⟨q19, h⟩
      · refine awp_region_ 42 (by kernel_rfl) ?_
        refine rs0 (.own (592, 27) .int 0 y15.1.length) (by kernel_rfl) ?_
        refine rs0 (.own (448, 14) .int 0 y11.1.length) (by kernel_rfl) ?_
        refine rcall (.bool y18) [] [(.own (592, 27) .int 0 y15.1.length), (.own (448, 14) .int 0 y11.1.length)] _ (caps := []) (args0 := [(.tree .int y15.1), (.tree .int y11.1)]) trivial (by kernel_rfl) (by kernel_rfl) (gm_cons (gd_own (e := 3) (by kernel_rfl) rfl) (gm_cons (gd_own (e := 3) (by kernel_rfl) rfl) gm_nil)) (by kernel_rfl) (ok_laws_eqIntS h18) hb_laws_eqIntS (by kernel_rfl) ?_
        refine rs0 (.bool (!y18)) (by kernel_rfl) ?_
        refine rs0 (.bool (!y18)) (by kernel_rfl) ?_
        refine rs0 .any (s_skip (by kernel_rfl) q19) ?_
        refine rs0 .any (s_skip (by kernel_rfl) q19) ?_
        refine rs0 .any (s_skip (by kernel_rfl) q19) ?_
        refine rs0 (.bool true) (s_pickT (by kernel_rfl) q19) ?_
        refine rnil (tn_ ?_)
        obtain rfl := Option.some.inj h
        exact ⟨_, (weak_ren (renF [((0, 1), (4, 1)), ((1, 1), (448, 14)), ((2, 1), (10, 22)), ((4, 1), (512, 21)), ((3, 1), (592, 27))]) (by kernel_rfl) (by kernel_rfl) (by kernel_rfl)), rfl⟩
      · refine awp_region_ 42 (by kernel_rfl) ?_
        refine rs0 (.own (592, 27) .int 0 y15.1.length) (by kernel_rfl) ?_
        refine rs0 (.own (448, 14) .int 0 y11.1.length) (by kernel_rfl) ?_
        refine rcall (.bool y18) [] [(.own (592, 27) .int 0 y15.1.length), (.own (448, 14) .int 0 y11.1.length)] _ (caps := []) (args0 := [(.tree .int y15.1), (.tree .int y11.1)]) trivial (by kernel_rfl) (by kernel_rfl) (gm_cons (gd_own (e := 3) (by kernel_rfl) rfl) (gm_cons (gd_own (e := 3) (by kernel_rfl) rfl) gm_nil)) (by kernel_rfl) (ok_laws_eqIntS h18) hb_laws_eqIntS (by kernel_rfl) ?_
        refine rs0 (.bool (!y18)) (by kernel_rfl) ?_
        refine rs0 (.bool (!y18)) (by kernel_rfl) ?_
        refine rs0 (.bool y15.2) (s_gd (by kernel_rfl) q19 (by kernel_rfl)) ?_
        refine rs0 (.bool y11.2) (s_gd (by kernel_rfl) q19 (by kernel_rfl)) ?_
        refine rs0 (.bool (y15.2 != y11.2)) (s_gd (by kernel_rfl) q19 (by kernel_rfl)) ?_
        refine rs0 (.bool (y15.2 != y11.2)) (s_pickF (by kernel_rfl) q19) ?_
        refine rnil (tn_ ?_)
        obtain rfl := Option.some.inj h
        exact ⟨_, (weak_ren (renF [((0, 1), (4, 1)), ((1, 1), (448, 14)), ((2, 1), (10, 22)), ((4, 1), (512, 21)), ((3, 1), (592, 27))]) (by kernel_rfl) (by kernel_rfl) (by kernel_rfl)), rfl⟩
    · rintro l17_m48 _ rfl h
      (try dsimp only at h)
      rcases cond_some h with ⟨q20, h⟩ | ⟨q20, h⟩
      · refine awp_condT_ q20 (by kernel_rfl) ?_
        refine awp_seq_ ?_
        refine awp_region_ 3 (by kernel_rfl) ?_
        refine rs0 (.bool false) (by kernel_rfl) ?_
        refine rnil (tn_ ?_)
        refine awp_ret_ (tr_ ?_)
        obtain rfl := Option.some.inj h
        exact ret_ [(.bool false)] (by simp) (by kernel_rfl) (p_one rfl (l_sc (by kernel_rfl)) p_nil) (by kernel_rfl) (by kernel_rfl)
      · refine awp_condF_ q20 (by kernel_rfl) ?_
        refine awp_skip_ (tn_ ?_)
        refine awp_seq_ ?_
        refine awp_seq_ ?_
        obtain ⟨y24, h24, h⟩ := ob_some h
        obtain ⟨y25, h25, h⟩ := ob_some h
        refine awp_regionD_ 7 (by kernel_rfl) ?_
        refine dsl (.agg [(.int .i64 y13.1), (.int .i64 y13.2.1), (.int .i64 y13.2.2.1), (.int .i64 y13.2.2.2.1), (.own (4, 1) (.pair .int (.pair .int (.pair .int (.pair .int .int)))) 0 y13.2.2.2.2.length)]) (by kernel_rfl) ?_
        refine dsl (.agg [(.int .i64 a1_0), (.int .i64 a1_1), (.int .i64 a1_2), (.int .i64 a1_3), (.tree (.pair .int (.pair .int (.pair .int (.pair .int .int)))) a1_4)]) (by kernel_rfl) ?_
        refine dcall (.agg [(.int .i64 y24.1), (.int .i64 y24.2.1), (.int .i64 y24.2.2.1), (.int .i64 y24.2.2.2.1), (.own (816, 4) (.pair .int (.pair .int (.pair .int (.pair .int .int)))) 0 y24.2.2.2.2.length)]) [((816, 4), some (.arr 69 (.pair .int (.pair .int (.pair .int (.pair .int .int)))) y24.2.2.2.2))] [(.agg [(.int .i64 a1_0), (.int .i64 a1_1), (.int .i64 a1_2), (.int .i64 a1_3), (.tree (.pair .int (.pair .int (.pair .int (.pair .int .int)))) a1_4)])] _ (caps := []) (args0 := [(.agg [(.int .i64 a1_0), (.int .i64 a1_1), (.int .i64 a1_2), (.int .i64 a1_3), (.tree (.pair .int (.pair .int (.pair .int (.pair .int .int)))) a1_4)])]) trivial (by kernel_rfl) (by kernel_rfl) (by kernel_rfl) (by kernel_rfl) (ok_laws_toProgram h24) hb_laws_toProgram (by kernel_rfl) ?_
        refine dcall (.bool y25) [] [(.agg [(.int .i64 y13.1), (.int .i64 y13.2.1), (.int .i64 y13.2.2.1), (.int .i64 y13.2.2.2.1), (.own (4, 1) (.pair .int (.pair .int (.pair .int (.pair .int .int)))) 0 y13.2.2.2.2.length)]), (.agg [(.int .i64 y24.1), (.int .i64 y24.2.1), (.int .i64 y24.2.2.1), (.int .i64 y24.2.2.2.1), (.own (816, 4) (.pair .int (.pair .int (.pair .int (.pair .int .int)))) 0 y24.2.2.2.2.length)])] _ (caps := []) (args0 := [(.agg [(.int .i64 y13.1), (.int .i64 y13.2.1), (.int .i64 y13.2.2.1), (.int .i64 y13.2.2.2.1), (.tree (.pair .int (.pair .int (.pair .int (.pair .int .int)))) y13.2.2.2.2)]), (.agg [(.int .i64 y24.1), (.int .i64 y24.2.1), (.int .i64 y24.2.2.1), (.int .i64 y24.2.2.2.1), (.tree (.pair .int (.pair .int (.pair .int (.pair .int .int)))) y24.2.2.2.2)])]) trivial (by kernel_rfl) (by kernel_rfl) (gm_cons (gd_agg (gm_cons (by kernel_rfl) (gm_cons (by kernel_rfl) (gm_cons (by kernel_rfl) (gm_cons (by kernel_rfl) (gm_cons (gd_own (e := 69) (by kernel_rfl) rfl) gm_nil)))))) (gm_cons (gd_agg (gm_cons (by kernel_rfl) (gm_cons (by kernel_rfl) (gm_cons (by kernel_rfl) (gm_cons (by kernel_rfl) (gm_cons (gd_own (e := 69) (by kernel_rfl) rfl) gm_nil)))))) gm_nil)) (by kernel_rfl) (ok_laws_eqProgram h25) hb_laws_eqProgram (by kernel_rfl) ?_
        refine ds0 (.bool (!y25)) (by kernel_rfl) ?_
        refine dnil (by kernel_rfl) (tn_ ?_)
        rcases cond_some h with ⟨q26, h⟩ | ⟨q26, h⟩
        · refine awp_condT_ q26 (by kernel_rfl) ?_
          refine awp_seq_ ?_
          refine awp_region_ 8 (by kernel_rfl) ?_
          refine rs0 (.bool false) (by kernel_rfl) ?_
          refine rnil (tn_ ?_)
          refine awp_ret_ (tr_ ?_)
          obtain rfl := Option.some.inj h
          exact ret_ [(.bool false)] (by simp) (by kernel_rfl) (p_one rfl (l_sc (by kernel_rfl)) p_nil) (by kernel_rfl) (by kernel_rfl)
        · refine awp_condF_ q26 (by kernel_rfl) ?_
          refine awp_skip_ (tn_ ?_)
          refine awp_seq_ ?_
          refine awp_region_ 8 (by kernel_rfl) ?_
          refine rs0 (.int .i64 1) (by kernel_rfl) ?_
          refine rnil (tn_ ?_)
          refine awp_seq_ ?_
          obtain ⟨y30, h30, h⟩ := ob_some h
          obtain ⟨g31, h⟩ := og_some h
          refine awp_region_ 12 (by kernel_rfl) ?_
          refine rsl (.agg [(.int .i64 y13.1), (.int .i64 y13.2.1), (.int .i64 y13.2.2.1), (.int .i64 y13.2.2.2.1), (.own (4, 1) (.pair .int (.pair .int (.pair .int (.pair .int .int)))) 0 y13.2.2.2.2.length)]) (by kernel_rfl) ?_
          refine rs0 (.int .i64 1) (by kernel_rfl) ?_
          refine rcallM (.int .i64 y30.2) [((0, 0), (4, 1))] [(.agg [(.int .i64 y13.1), (.int .i64 y13.2.1), (.int .i64 y13.2.2.1), (.int .i64 y13.2.2.2.1), (.own (4, 1) (.pair .int (.pair .int (.pair .int (.pair .int .int)))) 0 y13.2.2.2.2.length)]), (.int .i64 1)] (caps := []) trivial (by kernel_rfl) (by kernel_rfl) (ok_laws_markProgram h30 rfl) (by kernel_rfl) (by kernel_rfl) (by kernel_rfl) (by kernel_rfl) (by kernel_rfl) hb_laws_markProgram ?_
          refine rs0 (.int .i64 y30.2) (by kernel_rfl) ?_
          refine rnil (tn_ ?_)
          refine awp_seq_ ?_
          refine awp_seqB h (fun (l33_m69 : Bool) S_ => S_ = ⟨mkTm [(0, (.int .i64 a0)), (2, (.int .i64 a2)), (4, (.box (0, 1) 0)), (8, (.own (1, 1) .int 0 y11.1.length)), (9, (.bool y11.2)), (11, (.own (2, 1) .int 0 y15.1.length)), (69, (.bool l33_m69))], mkOb (someL [((0, 1), .cells 24 [(.int .i64 a1_0), (.int .i64 a1_1), (.int .i64 a1_2), (.int .i64 a1_3), (.tree (.pair .int (.pair .int (.pair .int (.pair .int .int)))) a1_4)]), ((1, 1), .arr 3 .int y11.1), ((2, 1), .arr 3 .int y15.1)]), 2⟩) ?_ ?_
          · intro v_ h
            rcases cond_some h with ⟨q34, h⟩ | ⟨q34, h⟩
            · have q34_ := of_decide_eq_true q34
              refine awp_region_ 25 (by kernel_rfl) ?_
              refine rs0 (.int .i64 y30.2) (by kernel_rfl) ?_
              refine rs0 (.bool (decide (y30.2 < 0))) (by kernel_rfl) ?_
              refine rs0 (.bool (decide (y30.2 < 0))) (by kernel_rfl) ?_
              refine rs0 .any (s_skip (by kernel_rfl) q34) ?_
              refine rs0 .any (s_skip (by kernel_rfl) q34) ?_
              refine rs0 .any (s_skip (by kernel_rfl) q34) ?_
              refine rs0 .any (s_skip (by kernel_rfl) q34) ?_
              refine rs0 (.bool true) (s_pickT (by kernel_rfl) q34) ?_
              refine rs0 (.bool true) (by kernel_rfl) ?_
              refine rs0 .any (by kernel_rfl) ?_
              refine rs0 .any (by kernel_rfl) ?_
              refine rs0 .any (by kernel_rfl) ?_
              refine rs0 (.bool true) (by kernel_rfl) ?_
              refine rnil (tn_ ?_)
              obtain rfl := Option.some.inj h
              exact ⟨_, (weak_ren (renF [((2, 1), (3, 1))]) (by kernel_rfl) (by kernel_rfl) (by kernel_rfl)), rfl⟩
            · have q34_ := of_decide_eq_false q34
              obtain ⟨y35, h35, h⟩ := ob_some h
              rcases cond_some h with ⟨q36, h⟩ | ⟨q36, h⟩
              · refine awp_region_ 25 (by kernel_rfl) ?_
                refine rs0 (.int .i64 y30.2) (by kernel_rfl) ?_
                refine rs0 (.bool (decide (y30.2 < 0))) (by kernel_rfl) ?_
                refine rs0 (.bool (decide (y30.2 < 0))) (by kernel_rfl) ?_
                refine rs0 (.own (3, 1) .int 0 y15.1.length) (s_gd (by kernel_rfl) q34 (by kernel_rfl)) ?_
                refine rs0 (.own (1, 1) .int 0 y11.1.length) (s_gd (by kernel_rfl) q34 (by kernel_rfl)) ?_
                refine rcall (.bool y35) [] [(.own (3, 1) .int 0 y15.1.length), (.own (1, 1) .int 0 y11.1.length)] _ (caps := []) (args0 := [(.tree .int y15.1), (.tree .int y11.1)]) (gdOK_b (by kernel_rfl) q34) (by kernel_rfl) (by kernel_rfl) (gm_cons (gd_own (e := 3) (by kernel_rfl) rfl) (gm_cons (gd_own (e := 3) (by kernel_rfl) rfl) gm_nil)) (by kernel_rfl) (ok_laws_eqIntS h35) hb_laws_eqIntS (by kernel_rfl) ?_
                refine rs0 (.bool (!y35)) (s_gd (by kernel_rfl) q34 (by kernel_rfl)) ?_
                refine rs0 (.bool (!y35)) (s_pickF (by kernel_rfl) q34) ?_
                refine rs0 (.bool (!y35)) (by kernel_rfl) ?_
                refine rs0 .any (s_skip (by kernel_rfl) q36) ?_
                refine rs0 .any (s_skip (by kernel_rfl) q36) ?_
                refine rs0 .any (s_skip (by kernel_rfl) q36) ?_
                refine rs0 (.bool true) (s_pickT (by kernel_rfl) q36) ?_
                refine rnil (tn_ ?_)
                obtain rfl := Option.some.inj h
                exact ⟨_, (weak_ren (renF [((2, 1), (3, 1))]) (by kernel_rfl) (by kernel_rfl) (by kernel_rfl)), rfl⟩
              · refine awp_region_ 25 (by kernel_rfl) ?_
                refine rs0 (.int .i64 y30.2) (by kernel_rfl) ?_
                refine rs0 (.bool (decide (y30.2 < 0))) (by kernel_rfl) ?_
                refine rs0 (.bool (decide (y30.2 < 0))) (by kernel_rfl) ?_
                refine rs0 (.own (3, 1) .int 0 y15.1.length) (s_gd (by kernel_rfl) q34 (by kernel_rfl)) ?_
                refine rs0 (.own (1, 1) .int 0 y11.1.length) (s_gd (by kernel_rfl) q34 (by kernel_rfl)) ?_
                refine rcall (.bool y35) [] [(.own (3, 1) .int 0 y15.1.length), (.own (1, 1) .int 0 y11.1.length)] _ (caps := []) (args0 := [(.tree .int y15.1), (.tree .int y11.1)]) (gdOK_b (by kernel_rfl) q34) (by kernel_rfl) (by kernel_rfl) (gm_cons (gd_own (e := 3) (by kernel_rfl) rfl) (gm_cons (gd_own (e := 3) (by kernel_rfl) rfl) gm_nil)) (by kernel_rfl) (ok_laws_eqIntS h35) hb_laws_eqIntS (by kernel_rfl) ?_
                refine rs0 (.bool (!y35)) (s_gd (by kernel_rfl) q34 (by kernel_rfl)) ?_
                refine rs0 (.bool (!y35)) (s_pickF (by kernel_rfl) q34) ?_
                refine rs0 (.bool (!y35)) (by kernel_rfl) ?_
                refine rs0 (.bool y15.2) (s_gd (by kernel_rfl) q36 (by kernel_rfl)) ?_
                refine rs0 (.bool y11.2) (s_gd (by kernel_rfl) q36 (by kernel_rfl)) ?_
                refine rs0 (.bool (y15.2 != y11.2)) (s_gd (by kernel_rfl) q36 (by kernel_rfl)) ?_
                refine rs0 (.bool (y15.2 != y11.2)) (s_pickF (by kernel_rfl) q36) ?_
                refine rnil (tn_ ?_)
                obtain rfl := Option.some.inj h
                exact ⟨_, (weak_ren (renF [((2, 1), (3, 1))]) (by kernel_rfl) (by kernel_rfl) (by kernel_rfl)), rfl⟩
          · rintro l33_m69 _ rfl h
            (try dsimp only at h)
            rcases cond_some h with ⟨q37, h⟩ | ⟨q37, h⟩
            · refine awp_condT_ q37 (by kernel_rfl) ?_
              refine awp_seq_ ?_
              refine awp_region_ 3 (by kernel_rfl) ?_
              refine rs0 (.bool false) (by kernel_rfl) ?_
              refine rnil (tn_ ?_)
              refine awp_ret_ (tr_ ?_)
              obtain rfl := Option.some.inj h
              exact ret_ [(.bool false)] (by simp) (by kernel_rfl) (p_one rfl (l_sc (by kernel_rfl)) p_nil) (by kernel_rfl) (by kernel_rfl)
            · refine awp_condF_ q37 (by kernel_rfl) ?_
              refine awp_skip_ (tn_ ?_)
              refine awp_seq_ ?_
              refine awp_region_ 3 (by kernel_rfl) ?_
              refine rs0 (.int .i64 1) (by kernel_rfl) ?_
              refine rnil (tn_ ?_)
              refine awp_seq_ ?_
              obtain ⟨y41, h41, h⟩ := ob_some h
              obtain ⟨g42, h⟩ := og_some h
              refine awp_region_ 7 (by kernel_rfl) ?_
              refine rs0 (.own (2, 1) .int 0 y15.1.length) (by kernel_rfl) ?_
              refine rs0 (.int .i64 1) (by kernel_rfl) ?_
              refine rcallM (.int .i64 y41.2) [((0, 0), (2, 1))] [(.own (2, 1) .int 0 y15.1.length), (.int .i64 1)] (caps := []) trivial (by kernel_rfl) (by kernel_rfl) (ok_laws_markIntS h41 rfl) (by kernel_rfl) (by kernel_rfl) (by kernel_rfl) (by kernel_rfl) (by kernel_rfl) hb_laws_markIntS ?_
              refine rs0 (.int .i64 y41.2) (by kernel_rfl) ?_
              refine rnil (tn_ ?_)
              refine awp_seq_ ?_
              refine awp_region_ 8 (by kernel_rfl) ?_
              refine rs0 (.int .i64 1) (by kernel_rfl) ?_
              refine rnil (tn_ ?_)
              refine awp_seq_ ?_
              obtain ⟨y45, h45, h⟩ := ob_some h
              refine awp_region_ 12 (by kernel_rfl) ?_
              refine rs0 (.own (2, 1) .int 0 y15.1.length) (by kernel_rfl) ?_
              refine rs0 (.int .i64 1) (by kernel_rfl) ?_
              refine rcall (.int .i64 y45) [] [(.own (2, 1) .int 0 y15.1.length), (.int .i64 1)] _ (caps := []) (args0 := [(.tree .int y41.1), (.int .i64 1)]) trivial (by kernel_rfl) (by kernel_rfl) (gm_cons (gd_own (e := 3) (by kernel_rfl) g42.symm) (gm_cons (by kernel_rfl) gm_nil)) (by kernel_rfl) (ok_laws_heldIntS h45) hb_laws_heldIntS (by kernel_rfl) ?_
              refine rs0 (.int .i64 y45) (by kernel_rfl) ?_
              refine rnil (tn_ ?_)
              refine awp_seq_ ?_
              refine awp_seq_ ?_
              refine awp_region_ 14 (by kernel_rfl) ?_
              refine rs0 (.int .i64 y45) (by kernel_rfl) ?_
              refine rs0 (.bool (decide (y45 < 0))) (by kernel_rfl) ?_
              refine rnil (tn_ ?_)
              rcases cond_some h with ⟨q48, h⟩ | ⟨q48, h⟩
              · have q48_ := of_decide_eq_true q48
                refine awp_condT_ q48 (by kernel_rfl) ?_
                refine awp_seq_ ?_
                refine awp_region_ 15 (by kernel_rfl) ?_
                refine rs0 (.bool false) (by kernel_rfl) ?_
                refine rnil (tn_ ?_)
                refine awp_ret_ (tr_ ?_)
                obtain rfl := Option.some.inj h
                exact ret_ [(.bool false)] (by simp) (by kernel_rfl) (p_one rfl (l_sc (by kernel_rfl)) p_nil) (by kernel_rfl) (by kernel_rfl)
              · have q48_ := of_decide_eq_false q48
                refine awp_condF_ q48 (by kernel_rfl) ?_
                refine awp_skip_ (tn_ ?_)
                refine awp_seq_ ?_
                refine awp_seq_ ?_
                refine awp_region_ 17 (by kernel_rfl) ?_
                refine rs0 (.int .i64 y45) (by kernel_rfl) ?_
                refine rs0 (.int .i64 y41.2) (by kernel_rfl) ?_
                refine rs0 (.bool (y45 != y41.2)) (by kernel_rfl) ?_
                refine rnil (tn_ ?_)
                rcases cond_some h with ⟨q52, h⟩ | ⟨q52, h⟩
                · refine awp_condT_ q52 (by kernel_rfl) ?_
                  refine awp_seq_ ?_
                  refine awp_region_ 18 (by kernel_rfl) ?_
                  refine rs0 (.bool false) (by kernel_rfl) ?_
                  refine rnil (tn_ ?_)
                  refine awp_ret_ (tr_ ?_)
                  obtain rfl := Option.some.inj h
                  exact ret_ [(.bool false)] (by simp) (by kernel_rfl) (p_one rfl (l_sc (by kernel_rfl)) p_nil) (by kernel_rfl) (by kernel_rfl)
                · refine awp_condF_ q52 (by kernel_rfl) ?_
                  refine awp_skip_ (tn_ ?_)
                  refine awp_seq_ ?_
                  obtain ⟨y55, h55, h⟩ := ob_some h
                  obtain ⟨y56, h56, h⟩ := ob_some h
                  refine awp_region_ 27 (by kernel_rfl) ?_
                  refine rs0 (.int .i64 a0) (by kernel_rfl) ?_
                  refine rsl (.agg [(.int .i64 a1_0), (.int .i64 a1_1), (.int .i64 a1_2), (.int .i64 a1_3), (.tree (.pair .int (.pair .int (.pair .int (.pair .int .int)))) a1_4)]) (by kernel_rfl) ?_
                  refine rcall (.agg [(.int .i64 y55.1), (.int .i64 y55.2.1), (.int .i64 y55.2.2.1), (.int .i64 y55.2.2.2.1), (.own (1344, 19) (.pair .int (.pair .int (.pair .int (.pair .int .int)))) 0 y55.2.2.2.2.length)]) [((1344, 19), some (.arr 69 (.pair .int (.pair .int (.pair .int (.pair .int .int)))) y55.2.2.2.2))] [(.agg [(.int .i64 a1_0), (.int .i64 a1_1), (.int .i64 a1_2), (.int .i64 a1_3), (.tree (.pair .int (.pair .int (.pair .int (.pair .int .int)))) a1_4)])] _ (caps := []) (args0 := [(.agg [(.int .i64 a1_0), (.int .i64 a1_1), (.int .i64 a1_2), (.int .i64 a1_3), (.tree (.pair .int (.pair .int (.pair .int (.pair .int .int)))) a1_4)])]) trivial (by kernel_rfl) (by kernel_rfl) (by kernel_rfl) (by kernel_rfl) (ok_laws_toProgram h55) hb_laws_toProgram (by kernel_rfl) ?_
                  refine rs0 (.int .i64 a2) (by kernel_rfl) ?_
                  refine rcall (.tup [(.own (1376, 21) .int 0 y56.1.length), (.bool y56.2)]) [((1376, 21), some (.arr 3 .int y56.1))] [(.int .i64 a0), (.agg [(.int .i64 y55.1), (.int .i64 y55.2.1), (.int .i64 y55.2.2.1), (.int .i64 y55.2.2.2.1), (.own (1344, 19) (.pair .int (.pair .int (.pair .int (.pair .int .int)))) 0 y55.2.2.2.2.length)]), (.int .i64 a2)] _ (caps := []) (args0 := [(.int .i64 a0), (.agg [(.int .i64 y55.1), (.int .i64 y55.2.1), (.int .i64 y55.2.2.1), (.int .i64 y55.2.2.2.1), (.tree (.pair .int (.pair .int (.pair .int (.pair .int .int)))) y55.2.2.2.2)]), (.int .i64 a2)]) trivial (by kernel_rfl) (by kernel_rfl) (gm_cons (by kernel_rfl) (gm_cons (gd_agg (gm_cons (by kernel_rfl) (gm_cons (by kernel_rfl) (gm_cons (by kernel_rfl) (gm_cons (by kernel_rfl) (gm_cons (gd_own (e := 69) (by kernel_rfl) rfl) gm_nil)))))) (gm_cons (by kernel_rfl) gm_nil))) (by kernel_rfl) (ok_impl_LiveRegisters h56) hb_impl_LiveRegisters (by kernel_rfl) ?_
                  refine rs0 (.tup [(.own (1376, 21) .int 0 y56.1.length), (.bool y56.2)]) (by kernel_rfl) ?_
                  refine rs0 (.own (1376, 21) .int 0 y56.1.length) (by kernel_rfl) ?_
                  refine rs0 (.bool y56.2) (by kernel_rfl) ?_
                  refine rs0 (.own (1376, 21) .int 0 y56.1.length) (by kernel_rfl) ?_
                  refine rs0 (.bool y56.2) (by kernel_rfl) ?_
                  refine rnil (tn_ ?_)
                  refine awp_seq_ ?_
                  refine awp_seqB h (fun (l58_m97 : Bool) S_ => S_ = ⟨mkTm [(11, (.own (0, 1) .int 0 y41.1.length)), (14, (.int .i64 y41.2)), (97, (.bool l58_m97))], mkOb (someL [((0, 1), .arr 3 .int y41.1)]), 2⟩) ?_ ?_
                  · intro v_ h
                    obtain ⟨y59, h59, h⟩ := ob_some h
                    rcases cond_some h with ⟨q60, h⟩ | ⟨q60, h⟩
                    · refine awp_region_ 36 (by kernel_rfl) ?_
                      refine rs0 (.own (1376, 21) .int 0 y56.1.length) (by kernel_rfl) ?_
                      refine rs0 (.own (1, 1) .int 0 y11.1.length) (by kernel_rfl) ?_
                      refine rcall (.bool y59) [] [(.own (1376, 21) .int 0 y56.1.length), (.own (1, 1) .int 0 y11.1.length)] _ (caps := []) (args0 := [(.tree .int y56.1), (.tree .int y11.1)]) trivial (by kernel_rfl) (by kernel_rfl) (gm_cons (gd_own (e := 3) (by kernel_rfl) rfl) (gm_cons (gd_own (e := 3) (by kernel_rfl) rfl) gm_nil)) (by kernel_rfl) (ok_laws_eqIntS h59) hb_laws_eqIntS (by kernel_rfl) ?_
                      refine rs0 (.bool (!y59)) (by kernel_rfl) ?_
                      refine rs0 (.bool (!y59)) (by kernel_rfl) ?_
                      refine rs0 .any (s_skip (by kernel_rfl) q60) ?_
                      refine rs0 .any (s_skip (by kernel_rfl) q60) ?_
                      refine rs0 .any (s_skip (by kernel_rfl) q60) ?_
                      refine rs0 (.bool true) (s_pickT (by kernel_rfl) q60) ?_
                      refine rnil (tn_ ?_)
                      obtain rfl := Option.some.inj h
                      exact ⟨_, ((weak_tm_ 11 (.own (2, 1) .int 0 y15.1.length) (.own (2, 1) .int 0 y41.1.length) (by kernel_rfl) (congrArg (fun z_ => ((.own (2, 1) .int 0 z_) : AV)) (g42.symm : y15.1.length = y41.1.length))).trans (weak_ren (renF [((0, 1), (2, 1))]) (by kernel_rfl) (by kernel_rfl) (by kernel_rfl))), rfl⟩
                    · refine awp_region_ 36 (by kernel_rfl) ?_
                      refine rs0 (.own (1376, 21) .int 0 y56.1.length) (by kernel_rfl) ?_
                      refine rs0 (.own (1, 1) .int 0 y11.1.length) (by kernel_rfl) ?_
                      refine rcall (.bool y59) [] [(.own (1376, 21) .int 0 y56.1.length), (.own (1, 1) .int 0 y11.1.length)] _ (caps := []) (args0 := [(.tree .int y56.1), (.tree .int y11.1)]) trivial (by kernel_rfl) (by kernel_rfl) (gm_cons (gd_own (e := 3) (by kernel_rfl) rfl) (gm_cons (gd_own (e := 3) (by kernel_rfl) rfl) gm_nil)) (by kernel_rfl) (ok_laws_eqIntS h59) hb_laws_eqIntS (by kernel_rfl) ?_
                      refine rs0 (.bool (!y59)) (by kernel_rfl) ?_
                      refine rs0 (.bool (!y59)) (by kernel_rfl) ?_
                      refine rs0 (.bool y56.2) (s_gd (by kernel_rfl) q60 (by kernel_rfl)) ?_
                      refine rs0 (.bool y11.2) (s_gd (by kernel_rfl) q60 (by kernel_rfl)) ?_
                      refine rs0 (.bool (y56.2 != y11.2)) (s_gd (by kernel_rfl) q60 (by kernel_rfl)) ?_
                      refine rs0 (.bool (y56.2 != y11.2)) (s_pickF (by kernel_rfl) q60) ?_
                      refine rnil (tn_ ?_)
                      obtain rfl := Option.some.inj h
                      exact ⟨_, ((weak_tm_ 11 (.own (2, 1) .int 0 y15.1.length) (.own (2, 1) .int 0 y41.1.length) (by kernel_rfl) (congrArg (fun z_ => ((.own (2, 1) .int 0 z_) : AV)) (g42.symm : y15.1.length = y41.1.length))).trans (weak_ren (renF [((0, 1), (2, 1))]) (by kernel_rfl) (by kernel_rfl) (by kernel_rfl))), rfl⟩
                  · rintro l58_m97 _ rfl h
                    (try dsimp only at h)
                    rcases cond_some h with ⟨q61, h⟩ | ⟨q61, h⟩
                    · refine awp_condT_ q61 (by kernel_rfl) ?_
                      refine awp_seq_ ?_
                      refine awp_region_ 3 (by kernel_rfl) ?_
                      refine rs0 (.bool false) (by kernel_rfl) ?_
                      refine rnil (tn_ ?_)
                      refine awp_ret_ (tr_ ?_)
                      obtain rfl := Option.some.inj h
                      exact ret_ [(.bool false)] (by simp) (by kernel_rfl) (p_one rfl (l_sc (by kernel_rfl)) p_nil) (by kernel_rfl) (by kernel_rfl)
                    · refine awp_condF_ q61 (by kernel_rfl) ?_
                      refine awp_skip_ (tn_ ?_)
                      refine awp_seq_ ?_
                      refine awp_region_ 3 (by kernel_rfl) ?_
                      refine rs0 (.int .i64 1) (by kernel_rfl) ?_
                      refine rnil (tn_ ?_)
                      refine awp_seq_ ?_
                      obtain ⟨y65, h65, h⟩ := ob_some h
                      refine awp_region_ 7 (by kernel_rfl) ?_
                      refine rs0 (.own (0, 1) .int 0 y41.1.length) (by kernel_rfl) ?_
                      refine rs0 (.int .i64 1) (by kernel_rfl) ?_
                      refine rcall (.int .i64 y65) [] [(.own (0, 1) .int 0 y41.1.length), (.int .i64 1)] _ (caps := []) (args0 := [(.tree .int y41.1), (.int .i64 1)]) trivial (by kernel_rfl) (by kernel_rfl) (gm_cons (gd_own (e := 3) (by kernel_rfl) rfl) (gm_cons (by kernel_rfl) gm_nil)) (by kernel_rfl) (ok_laws_heldIntS h65) hb_laws_heldIntS (by kernel_rfl) ?_
                      refine rs0 (.int .i64 y65) (by kernel_rfl) ?_
                      refine rnil (tn_ ?_)
                      refine awp_seq_ ?_
                      refine awp_seq_ ?_
                      refine awp_region_ 9 (by kernel_rfl) ?_
                      refine rs0 (.int .i64 y65) (by kernel_rfl) ?_
                      refine rs0 (.bool (decide (y65 < 0))) (by kernel_rfl) ?_
                      refine rnil (tn_ ?_)
                      rcases cond_some h with ⟨q68, h⟩ | ⟨q68, h⟩
                      · have q68_ := of_decide_eq_true q68
                        refine awp_condT_ q68 (by kernel_rfl) ?_
                        refine awp_seq_ ?_
                        refine awp_region_ 10 (by kernel_rfl) ?_
                        refine rs0 (.bool false) (by kernel_rfl) ?_
                        refine rnil (tn_ ?_)
                        refine awp_ret_ (tr_ ?_)
                        obtain rfl := Option.some.inj h
                        exact ret_ [(.bool false)] (by simp) (by kernel_rfl) (p_one rfl (l_sc (by kernel_rfl)) p_nil) (by kernel_rfl) (by kernel_rfl)
                      · have q68_ := of_decide_eq_false q68
                        refine awp_condF_ q68 (by kernel_rfl) ?_
                        refine awp_skip_ (tn_ ?_)
                        refine awp_seq_ ?_
                        refine awp_seq_ ?_
                        refine awp_region_ 12 (by kernel_rfl) ?_
                        refine rs0 (.int .i64 y65) (by kernel_rfl) ?_
                        refine rs0 (.int .i64 y41.2) (by kernel_rfl) ?_
                        refine rs0 (.bool (y65 != y41.2)) (by kernel_rfl) ?_
                        refine rnil (tn_ ?_)
                        rcases cond_some h with ⟨q72, h⟩ | ⟨q72, h⟩
                        · refine awp_condT_ q72 (by kernel_rfl) ?_
                          refine awp_seq_ ?_
                          refine awp_region_ 13 (by kernel_rfl) ?_
                          refine rs0 (.bool false) (by kernel_rfl) ?_
                          refine rnil (tn_ ?_)
                          refine awp_ret_ (tr_ ?_)
                          obtain rfl := Option.some.inj h
                          exact ret_ [(.bool false)] (by simp) (by kernel_rfl) (p_one rfl (l_sc (by kernel_rfl)) p_nil) (by kernel_rfl) (by kernel_rfl)
                        · refine awp_condF_ q72 (by kernel_rfl) ?_
                          refine awp_skip_ (tn_ ?_)
                          refine awp_seq_ ?_
                          refine awp_region_ 13 (by kernel_rfl) ?_
                          refine rs0 (.bool true) (by kernel_rfl) ?_
                          refine rnil (tn_ ?_)
                          refine awp_ret_ ?_
                          obtain rfl := Option.some.inj h
                          exact ret_ [(.bool true)] (by simp) (by kernel_rfl) (p_one rfl (l_sc (by kernel_rfl)) p_nil) (by kernel_rfl) (by kernel_rfl)
end Go.Proofs.YtomijolkdmaimaaDoor
