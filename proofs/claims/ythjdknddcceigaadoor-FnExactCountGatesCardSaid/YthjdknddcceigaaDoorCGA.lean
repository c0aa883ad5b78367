/- Partial functions in place of code, and that the code does what they say: CGA. No condition. -/
import Derived.Test.YthjdknddcceigaaDoorB3
namespace Go.Proofs.YthjdknddcceigaaDoor
open Go.RowKit Go.Deep
set_option maxRecDepth 4000
def m_spec_CountGates_l1 : AC :=
  (.seq (.region [⟨(some 18), none, (.i (.bin .lss (.tmp 17) (.tmp 16)))⟩] false [])
  (.seq (.cond (.tmp 18)
    .skip
    (.exit 0))
  (.seq (.block 1 (.seq (.region [⟨(some 19), none, (.i (.idx 4 (.tmp 15) (.tmp 17)))⟩, ⟨(some 20), none, (.i (.ld false 4 (.tmp 19)))⟩, ⟨(some 8), none, (.i (.alloc 51 [(.int .i64 0), (.int .i64 0), (.int .i64 0), (.int .i64 0)]))⟩, ⟨none, none, (.st false 4 (.tmp 8) (.tmp 20))⟩] false [])
  (.region [⟨(some 21), none, (.i (.mov (.tmp 6)))⟩, ⟨(some 22), none, (.i (.fld 0 (.tmp 8)))⟩, ⟨(some 23), none, (.i (.ld true 1 (.tmp 22)))⟩, ⟨(some 24), none, (.i (.bin .sub (.tmp 23) (.cst (.int .i64 1))))⟩, ⟨(some 25), none, (.i (.idx 1 (.tmp 21) (.tmp 24)))⟩, ⟨(some 26), none, (.i (.ld true 1 (.tmp 25)))⟩, ⟨(some 27), none, (.i (.bin .add (.tmp 26) (.cst (.int .i64 1))))⟩, ⟨(some 28), none, (.i (.idx 1 (.tmp 21) (.tmp 24)))⟩, ⟨none, none, (.st true 1 (.tmp 28) (.tmp 27))⟩] false [])))
  (.region [⟨(some 29), none, (.i (.bin .add (.tmp 17) (.cst (.int .i64 1))))⟩, ⟨(some 17), none, (.i (.mov (.tmp 29)))⟩] false []))))
def m_spec_CountGates : AC :=
  (.seq (.region [⟨(some 3), none, (.i (.box 31 (.tmp 1)))⟩, ⟨(some 4), none, (.i (.mov (.cst .nils)))⟩, ⟨(some 5), none, (.i (.mov (.cst (.bool false))))⟩] false [])
  (.seq (.seq (.region [⟨(some 9), none, (.i (.mov (.tmp 0)))⟩, ⟨(some 10), none, (.i (.ld false 3 (.tmp 3)))⟩, ⟨(some 11), none, (.call (.cst (.fn 35 [])) [(.tmp 9), (.tmp 10)] [[], [none, (some (.pair .int (.pair .int (.pair .int .int)))), (some .int)]])⟩, ⟨(some 12), none, (.i (.not (.tmp 11)))⟩] false [])
  (.cond (.tmp 12)
    (.seq (.region [⟨(some 4), none, (.i (.mov (.cst .nils)))⟩, ⟨(some 5), none, (.i (.mov (.cst (.bool false))))⟩] false [])
    .ret)
    .skip))
  (.seq (.region [⟨(some 13), none, (.make 3 .int 8 (.cst (.int .i64 5)) (.cst (.int .i64 5)))⟩, ⟨(some 6), none, (.i (.mov (.tmp 13)))⟩] false [])
  (.seq (.seq (.region [⟨(some 14), none, (.i (.fld 1 (.tmp 3)))⟩, ⟨(some 15), none, (.i (.ld true 1 (.tmp 14)))⟩, ⟨(some 16), none, (.i (.len (.tmp 15)))⟩, ⟨(some 17), none, (.i (.mov (.cst (.int .i64 0))))⟩] false [])
  (.block 0 (.loop m_spec_CountGates_l1)))
  (.seq (.region [⟨(some 30), none, (.i (.mov (.tmp 6)))⟩, ⟨(some 4), none, (.i (.mov (.tmp 30)))⟩, ⟨(some 5), none, (.i (.mov (.cst (.bool true))))⟩] false [])
  .ret)))))
def r_spec_CountGates : List Res := [.tmp 4, .tmp 5]
theorem c_spec_CountGates : compiled Tryd.prog Tryd.f11 = some (m_spec_CountGates, r_spec_CountGates) := by kernel_rfl
theorem hb_spec_CountGates : hasBody Tryd.prog 11 = true := by kernel_rfl
def L_spec_CountGates_l1 (a1_1 : List (Int × Int × Int × Int)) (l11_m17 : Nat) (l11_m6 : List Int) : Option (Ctl (Nat × List Int) (List Int)) :=
  cond (decide (((l11_m17 : Nat) : Int) < ((a1_1.length : Nat) : Int)))
  (Option.bind (a1_1[l11_m17]?) fun x17 =>
  Option.bind (getI l11_m6 (IntKind.i64.wrap (x17.1 - 1))) fun x18 =>
  Option.bind (getI l11_m6 (IntKind.i64.wrap (x17.1 - 1))) fun x19 =>
  og (l11_m17 + 1 < 4611686018427387904) <|
  some (Ctl.next (l11_m17 + 1, l11_m6.set ((IntKind.i64.wrap (x17.1 - 1)).toNat) (IntKind.i64.wrap (x19 + 1)))))
  (some (Ctl.out l11_m6))
def L_spec_CountGates (a0 : Int) (a1_0 : Int) (a1_1 : List (Int × Int × Int × Int)) (a1_2 : List Int) : Option (List Int × Bool) :=
  Option.bind (L_spec_crGood a0 a1_0 a1_1 a1_2) fun y4 =>
cond (!y4)
  (some ([], false))
  (og (0 ≤ (5 : Int) ∧ (5 : Int) ≤ (5 : Int) ∧ (5 : Int) ≤ 1073741824 ∧ (8 : Int) * 5 ≤ 140737488355328) <|
  Option.bind (loopM (fun s_ : Nat × List Int => L_spec_CountGates_l1 a1_1 s_.1 s_.2) 4611686018427387904 (0, List.replicate 5 (0 : Int))) fun l9_m6 =>
  some (l9_m6, true))
def rv_spec_CountGates (r : List Int × Bool) : RV := ⟨true, [(false, [.new 3 .int r.1]), (false, [.sc (.bool r.2)])]⟩
theorem ok_spec_CountGates {a0 : Int} {a1_0 : Int} {a1_1 : List (Int × Int × Int × Int)} {a1_2 : List Int} {r : List Int × Bool} (h : L_spec_CountGates a0 a1_0 a1_1 a1_2 = some r) : CallOK Tryd.prog Tab 11 [(.int .i64 a0), (.agg [(.int .i64 a1_0), (.tree (.pair .int (.pair .int (.pair .int .int))) a1_1), (.tree .int a1_2)])] (rv_spec_CountGates r) := by
  refine call_of_ (by kernel_rfl) Tryd.func11 c_spec_CountGates (n := 31) (by kernel_rfl) (by simp) (tl := [(0, (.int .i64 a0)), (1, (.agg [(.int .i64 a1_0), (.tree (.pair .int (.pair .int (.pair .int .int))) a1_1), (.tree .int a1_2)]))]) rfl ?_
  unfold m_spec_CountGates
  unfold L_spec_CountGates at h
  refine awp_seq_ ?_
  refine awp_region_ 4 (by kernel_rfl) ?_
  refine rs1 (.box (3, 1) 0) (3, 1) (.cells 31 [(.int .i64 a1_0), (.tree (.pair .int (.pair .int (.pair .int .int))) a1_1), (.tree .int a1_2)]) (by kernel_rfl) ?_
  refine rs0 .nils (by kernel_rfl) ?_
  refine rs0 (.bool false) (by kernel_rfl) ?_
  refine rnil (tn_ ?_)
  refine awp_seq_ ?_
  refine awp_seq_ ?_
  obtain ⟨y4, h4, h⟩ := ob_some h
  refine awp_region_ 8 (by kernel_rfl) ?_
  refine rs0 (.int .i64 a0) (by kernel_rfl) ?_
  refine rsl (.agg [(.int .i64 a1_0), (.tree (.pair .int (.pair .int (.pair .int .int))) a1_1), (.tree .int a1_2)]) (by kernel_rfl) ?_
  refine rcall (.bool y4) [] [(.int .i64 a0), (.agg [(.int .i64 a1_0), (.tree (.pair .int (.pair .int (.pair .int .int))) a1_1), (.tree .int a1_2)])] _ (caps := []) (args0 := [(.int .i64 a0), (.agg [(.int .i64 a1_0), (.tree (.pair .int (.pair .int (.pair .int .int))) a1_1), (.tree .int a1_2)])]) trivial (by kernel_rfl) (by kernel_rfl) (by kernel_rfl) (by kernel_rfl) (ok_spec_crGood h4) hb_spec_crGood (by kernel_rfl) ?_
  refine rs0 (.bool (!y4)) (by kernel_rfl) ?_
  refine rnil (tn_ ?_)
  rcases cond_some h with ⟨q5, h⟩ | ⟨q5, h⟩
  · refine awp_condT_ q5 (by kernel_rfl) ?_
    refine awp_seq_ ?_
    refine awp_region_ 10 (by kernel_rfl) ?_
    refine rs0 .nils (by kernel_rfl) ?_
    refine rs0 (.bool false) (by kernel_rfl) ?_
    refine rnil (tn_ ?_)
    refine awp_ret_ (tr_ ?_)
    obtain rfl := Option.some.inj h
    exact ret_ [.nils, (.bool false)] (by simp) (by kernel_rfl) (p_one rfl (l_nils rfl) (p_one rfl (l_sc (by kernel_rfl)) p_nil)) (by kernel_rfl) (by kernel_rfl)
  · refine awp_condF_ q5 (by kernel_rfl) ?_
    refine awp_skip_ (tn_ ?_)
    refine awp_seq_ ?_
    obtain ⟨g8, h⟩ := og_some h
    refine awp_region_ 10 (by kernel_rfl) ?_
    refine rs1 (.own (13, 8) .int 0 5) (13, 8) (.arr 3 .int (List.replicate 5 (0 : Int))) (s_make (t := .int) (k := .i64) (k' := .i64) (m := 5) (m' := 5) (by kernel_rfl) (by kernel_rfl) g8 rfl) ?_
    refine rs0 (.own (13, 8) .int 0 5) (by kernel_rfl) ?_
    refine rnil (tn_ ?_)
    refine awp_seqB h (fun (l9_m6 : List Int) S_ => S_ = ⟨mkTm [(6, (.own (0, 1) .int 0 l9_m6.length))], mkOb (someL [((0, 1), .arr 3 .int l9_m6)]), 2⟩) ?_ ?_
    · intro v_ h
      refine awp_seq_ ?_
      refine awp_region_ 14 (by kernel_rfl) ?_
      refine rs0 (.box (3, 1) 1) (by kernel_rfl) ?_
      refine rsl (.tree (.pair .int (.pair .int (.pair .int .int))) a1_1) (by kernel_rfl) ?_
      refine rs0 (.int .i64 ((a1_1.length : Nat) : Int)) (by kernel_rfl) ?_
      refine rs0 (.int .i64 0) (by kernel_rfl) ?_
      refine rnil (tn_ ?_)
      refine awp_block_ ?_
      refine awp_loopL h (fun t_ S_ => ∃ (l11_m17 : Nat), ∃ (l11_m6 : List Int), t_ = (l11_m17, l11_m6) ∧ S_ = ⟨mkTm [(6, (.own (0, 1) .int 0 l11_m6.length)), (15, (.tree (.pair .int (.pair .int (.pair .int .int))) a1_1)), (16, (.int .i64 ((a1_1.length : Nat) : Int))), (17, (.int .i64 ((l11_m17 : Nat) : Int)))], mkOb (someL [((0, 1), .arr 3 .int l11_m6)]), 2⟩) ⟨_, ((weak_tm_ 6 (.own (13, 8) .int 0 5) (.own (13, 8) .int 0 ((List.replicate 5 (0 : Int)).length)) (by kernel_rfl) (congrArg (fun z_ => ((.own (13, 8) .int 0 z_) : AV)) (List.length_replicate.symm : 5 = (List.replicate 5 (0 : Int)).length))).trans (weak_ren (renF [((0, 1), (13, 8))]) (by kernel_rfl) (by kernel_rfl) (by kernel_rfl))), ⟨0, List.replicate 5 (0 : Int), rfl, rfl⟩⟩ ?_
      · rintro n_ _ _ c_ ⟨l11_m17, l11_m6, rfl, rfl⟩ h hn11
        (try dsimp only at h)
        unfold L_spec_CountGates_l1 at h
        unfold m_spec_CountGates_l1
        refine awp_seq_ ?_
        refine awp_region_ 3 (by kernel_rfl) ?_
        refine rs0 (.bool (decide (((l11_m17 : Nat) : Int) < ((a1_1.length : Nat) : Int)))) (by kernel_rfl) ?_
        refine rnil (tn_ ?_)
        refine awp_seq_ ?_
        rcases cond_some h with ⟨q14, h⟩ | ⟨q14, h⟩
        · have q14_ := of_decide_eq_true q14
          refine awp_condT_ q14 (by kernel_rfl) ?_
          refine awp_skip_ (tn_ ?_)
          refine awp_seq_ ?_
          refine awp_block_ ?_
          refine awp_seq_ ?_
          obtain ⟨x17, e17, h⟩ := ob_some h
          refine awp_region_ 7 (by kernel_rfl) ?_
          refine rs0 (.telt (.pair .int (.pair .int (.pair .int .int))) x17 0) (s_idxT (t := (.pair .int (.pair .int (.pair .int .int)))) (xs := a1_1) (k := .i64) (m := ((l11_m17 : Nat) : Int)) (by kernel_rfl) (by kernel_rfl) rfl (nat_nn _) rfl e17) ?_
          refine rs0 (.agg [(.int .i64 x17.1), (.int .i64 x17.2.1), (.int .i64 x17.2.2.1), (.int .i64 x17.2.2.2)]) (by kernel_rfl) ?_
          refine rs1 (.box (8, 5) 0) (8, 5) (.cells 51 [(.int .i64 0), (.int .i64 0), (.int .i64 0), (.int .i64 0)]) (by kernel_rfl) ?_
          refine rsn2 (8, 5) (8, 5) (.cells 51 [(.int .i64 x17.1), (.int .i64 x17.2.1), (.int .i64 x17.2.2.1), (.int .i64 x17.2.2.2)]) (by kernel_rfl) ?_
          refine rnil (tn_ ?_)
          obtain ⟨x18, f18, h⟩ := ob_some h
          obtain ⟨p18, b18, e18⟩ := getI_some f18
          obtain ⟨x19, f19, h⟩ := ob_some h
          obtain ⟨p19, b19, e19⟩ := getI_some f19
          refine awp_region_ 16 (by kernel_rfl) ?_
          refine rs0 (.own (0, 1) .int 0 l11_m6.length) (by kernel_rfl) ?_
          refine rs0 (.box (8, 5) 0) (by kernel_rfl) ?_
          refine rsl (.int .i64 x17.1) (by kernel_rfl) ?_
          refine rs0 (.int .i64 (IntKind.i64.wrap (x17.1 - 1))) (by kernel_rfl) ?_
          refine rs0 (.elt (0, 1) ((IntKind.i64.wrap (x17.1 - 1)).toNat) 0) (s_idxO (t := .int) (o := (0, 1)) (len := l11_m6.length) (k := .i64) (m := IntKind.i64.wrap (x17.1 - 1)) (by kernel_rfl) (by kernel_rfl) rfl p18 rfl (getN_lt e18)) ?_
          refine rsl (.int .i64 x19) (s_ldE (i := (0, 1)) (j := (IntKind.i64.wrap (x17.1 - 1)).toNat) (k := 0) (e := 3) (t := .int) (xs := l11_m6) (by kernel_rfl) (by kernel_rfl) e19 (by kernel_rfl)) ?_
          refine rs0 (.int .i64 (IntKind.i64.wrap (x19 + 1))) (by kernel_rfl) ?_
          refine rs0 (.elt (0, 1) ((IntKind.i64.wrap (x17.1 - 1)).toNat) 0) (s_idxO (t := .int) (o := (0, 1)) (len := l11_m6.length) (k := .i64) (m := IntKind.i64.wrap (x17.1 - 1)) (by kernel_rfl) (by kernel_rfl) rfl p18 rfl (getN_lt e18)) ?_
          refine rsn2 (0, 1) (0, 1) (.arr 3 .int (l11_m6.set ((IntKind.i64.wrap (x17.1 - 1)).toNat) (IntKind.i64.wrap (x19 + 1)))) (s_stE (i := (0, 1)) (j := (IntKind.i64.wrap (x17.1 - 1)).toNat) (k := 0) (e := 3) (t := .int) (xs := l11_m6) (cs := [(.int .i64 (IntKind.i64.wrap (x19 + 1)))]) (x1 := IntKind.i64.wrap (x19 + 1)) (by kernel_rfl) (by kernel_rfl) e19 (by kernel_rfl) (by kernel_rfl)) ?_
          refine rnil (bn_ (tn_ ?_))
          obtain ⟨g20, h⟩ := og_some h
          refine awp_region_ 18 (by kernel_rfl) ?_
          refine rs0 (.int .i64 ((l11_m17 + 1 : Nat) : Int)) (s_add1 (j := l11_m17) (by kernel_rfl) (by kernel_rfl) g20) ?_
          refine rs0 (.int .i64 ((l11_m17 + 1 : Nat) : Int)) (by kernel_rfl) ?_
          refine rnil (tn_ ?_)
          obtain rfl := Option.some.inj h
          exact ⟨(l11_m17 + 1, l11_m6.set ((IntKind.i64.wrap (x17.1 - 1)).toNat) (IntKind.i64.wrap (x19 + 1))), _, ((weak_tm_ 6 (.own (0, 1) .int 0 l11_m6.length) (.own (0, 1) .int 0 ((l11_m6.set ((IntKind.i64.wrap (x17.1 - 1)).toNat) (IntKind.i64.wrap (x19 + 1))).length)) (by kernel_rfl) (congrArg (fun z_ => ((.own (0, 1) .int 0 z_) : AV)) (((rfl : l11_m6.length = l11_m6.length).trans List.length_set.symm) : l11_m6.length = (l11_m6.set ((IntKind.i64.wrap (x17.1 - 1)).toNat) (IntKind.i64.wrap (x19 + 1))).length))).trans (weak_ren (renF []) (by kernel_rfl) (by kernel_rfl) (by kernel_rfl))), ⟨l11_m17 + 1, l11_m6.set ((IntKind.i64.wrap (x17.1 - 1)).toNat) (IntKind.i64.wrap (x19 + 1)), rfl, rfl⟩, hn11⟩
        · have q14_ := of_decide_eq_false q14
          refine awp_condF_ q14 (by kernel_rfl) ?_
          refine awp_exit_ (te_ (te_ (be_ (tn_ ?_))))
          obtain rfl := Option.some.inj h
          have h := hn11
          (try dsimp only at h)
          obtain rfl := Option.some.inj h
          exact ⟨_, (weak_ren (renF []) (by kernel_rfl) (by kernel_rfl) (by kernel_rfl)), rfl⟩
    · rintro l9_m6 _ rfl h
      (try dsimp only at h)
      refine awp_seq_ ?_
      refine awp_region_ 5 (by kernel_rfl) ?_
      refine rs0 (.own (0, 1) .int 0 l9_m6.length) (by kernel_rfl) ?_
      refine rs0 (.own (0, 1) .int 0 l9_m6.length) (by kernel_rfl) ?_
      refine rs0 (.bool true) (by kernel_rfl) ?_
      refine rnil (tn_ ?_)
      refine awp_ret_ ?_
      obtain rfl := Option.some.inj h
      exact ret_ [(.own (0, 1) .int 0 l9_m6.length), (.bool true)] (by simp) (by kernel_rfl) (p_one rfl (l_own (by kernel_rfl) rfl) (p_one rfl (l_sc (by kernel_rfl)) p_nil)) (by kernel_rfl) (by kernel_rfl)
def m_impl_CountGates_l1 : AC :=
  (.seq (.region [⟨(some 18), none, (.i (.bin .lss (.tmp 17) (.tmp 16)))⟩] false [])
  (.seq (.cond (.tmp 18)
    .skip
    (.exit 0))
  (.seq (.block 1 (.seq (.region [⟨(some 19), none, (.i (.idx 4 (.tmp 15) (.tmp 17)))⟩, ⟨(some 20), none, (.i (.ld false 4 (.tmp 19)))⟩, ⟨(some 8), none, (.i (.alloc 51 [(.int .i64 0), (.int .i64 0), (.int .i64 0), (.int .i64 0)]))⟩, ⟨none, none, (.st false 4 (.tmp 8) (.tmp 20))⟩] false [])
  (.region [⟨(some 21), none, (.i (.mov (.tmp 6)))⟩, ⟨(some 22), none, (.i (.fld 0 (.tmp 8)))⟩, ⟨(some 23), none, (.i (.ld true 1 (.tmp 22)))⟩, ⟨(some 24), none, (.i (.bin .sub (.tmp 23) (.cst (.int .i64 1))))⟩, ⟨(some 25), none, (.i (.idx 1 (.tmp 21) (.tmp 24)))⟩, ⟨(some 26), none, (.i (.ld true 1 (.tmp 25)))⟩, ⟨(some 27), none, (.i (.bin .add (.tmp 26) (.cst (.int .i64 1))))⟩, ⟨(some 28), none, (.i (.idx 1 (.tmp 21) (.tmp 24)))⟩, ⟨none, none, (.st true 1 (.tmp 28) (.tmp 27))⟩] false [])))
  (.region [⟨(some 29), none, (.i (.bin .add (.tmp 17) (.cst (.int .i64 1))))⟩, ⟨(some 17), none, (.i (.mov (.tmp 29)))⟩] false []))))
def m_impl_CountGates : AC :=
  (.seq (.region [⟨(some 3), none, (.i (.box 31 (.tmp 1)))⟩, ⟨(some 4), none, (.i (.mov (.cst .nils)))⟩, ⟨(some 5), none, (.i (.mov (.cst (.bool false))))⟩] false [])
  (.seq (.seq (.region [⟨(some 9), none, (.i (.mov (.tmp 0)))⟩, ⟨(some 10), none, (.i (.ld false 3 (.tmp 3)))⟩, ⟨(some 11), none, (.call (.cst (.fn 37 [])) [(.tmp 9), (.tmp 10)] [[], [none, (some (.pair .int (.pair .int (.pair .int .int)))), (some .int)]])⟩, ⟨(some 12), none, (.i (.not (.tmp 11)))⟩] false [])
  (.cond (.tmp 12)
    (.seq (.region [⟨(some 4), none, (.i (.mov (.cst .nils)))⟩, ⟨(some 5), none, (.i (.mov (.cst (.bool false))))⟩] false [])
    .ret)
    .skip))
  (.seq (.region [⟨(some 13), none, (.call (.cst (.fn 38 [])) [(.cst (.int .i64 5))] [[]])⟩, ⟨(some 6), none, (.i (.mov (.tmp 13)))⟩] false [])
  (.seq (.seq (.region [⟨(some 14), none, (.i (.fld 1 (.tmp 3)))⟩, ⟨(some 15), none, (.i (.ld true 1 (.tmp 14)))⟩, ⟨(some 16), none, (.i (.len (.tmp 15)))⟩, ⟨(some 17), none, (.i (.mov (.cst (.int .i64 0))))⟩] false [])
  (.block 0 (.loop m_impl_CountGates_l1)))
  (.seq (.region [⟨(some 30), none, (.i (.mov (.tmp 6)))⟩, ⟨(some 4), none, (.i (.mov (.tmp 30)))⟩, ⟨(some 5), none, (.i (.mov (.cst (.bool true))))⟩] false [])
  .ret)))))
def r_impl_CountGates : List Res := [.tmp 4, .tmp 5]
theorem c_impl_CountGates : compiled Tryd.prog Tryd.f13 = some (m_impl_CountGates, r_impl_CountGates) := by kernel_rfl
theorem hb_impl_CountGates : hasBody Tryd.prog 13 = true := by kernel_rfl
def L_impl_CountGates_l1 (a1_1 : List (Int × Int × Int × Int)) (l11_m17 : Nat) (l11_m6 : List Int) : Option (Ctl (Nat × List Int) (List Int)) :=
  cond (decide (((l11_m17 : Nat) : Int) < ((a1_1.length : Nat) : Int)))
  (Option.bind (a1_1[l11_m17]?) fun x17 =>
  Option.bind (getI l11_m6 (IntKind.i64.wrap (x17.1 - 1))) fun x18 =>
  Option.bind (getI l11_m6 (IntKind.i64.wrap (x17.1 - 1))) fun x19 =>
  og (l11_m17 + 1 < 4611686018427387904) <|
  some (Ctl.next (l11_m17 + 1, l11_m6.set ((IntKind.i64.wrap (x17.1 - 1)).toNat) (IntKind.i64.wrap (x19 + 1)))))
  (some (Ctl.out l11_m6))
def L_impl_CountGates (a0 : Int) (a1_0 : Int) (a1_1 : List (Int × Int × Int × Int)) (a1_2 : List Int) : Option (List Int × Bool) :=
  Option.bind (L_impl_isCircuit a0 a1_0 a1_1 a1_2) fun y4 =>
cond (!y4)
  (some ([], false))
  (Option.bind (L_impl_zeros 5) fun y8 =>
  Option.bind (loopM (fun s_ : Nat × List Int => L_impl_CountGates_l1 a1_1 s_.1 s_.2) 4611686018427387904 (0, y8)) fun l9_m6 =>
  some (l9_m6, true))
def rv_impl_CountGates (r : List Int × Bool) : RV := ⟨true, [(false, [.new 3 .int r.1]), (false, [.sc (.bool r.2)])]⟩
theorem ok_impl_CountGates {a0 : Int} {a1_0 : Int} {a1_1 : List (Int × Int × Int × Int)} {a1_2 : List Int} {r : List Int × Bool} (h : L_impl_CountGates a0 a1_0 a1_1 a1_2 = some r) : CallOK Tryd.prog Tab 13 [(.int .i64 a0), (.agg [(.int .i64 a1_0), (.tree (.pair .int (.pair .int (.pair .int .int))) a1_1), (.tree .int a1_2)])] (rv_impl_CountGates r) := by
  refine call_of_ (by kernel_rfl) Tryd.func13 c_impl_CountGates (n := 31) (by kernel_rfl) (by simp) (tl := [(0, (.int .i64 a0)), (1, (.agg [(.int .i64 a1_0), (.tree (.pair .int (.pair .int (.pair .int .int))) a1_1), (.tree .int a1_2)]))]) rfl ?_
  unfold m_impl_CountGates
  unfold L_impl_CountGates at h
  refine awp_seq_ ?_
  refine awp_region_ 4 (by kernel_rfl) ?_
  refine rs1 (.box (3, 1) 0) (3, 1) (.cells 31 [(.int .i64 a1_0), (.tree (.pair .int (.pair .int (.pair .int .int))) a1_1), (.tree .int a1_2)]) (by kernel_rfl) ?_
  refine rs0 .nils (by kernel_rfl) ?_
  refine rs0 (.bool false) (by kernel_rfl) ?_
  refine rnil (tn_ ?_)
  refine awp_seq_ ?_
  refine awp_seq_ ?_
  obtain ⟨y4, h4, h⟩ := ob_some h
  refine awp_region_ 8 (by kernel_rfl) ?_
  refine rs0 (.int .i64 a0) (by kernel_rfl) ?_
  refine rsl (.agg [(.int .i64 a1_0), (.tree (.pair .int (.pair .int (.pair .int .int))) a1_1), (.tree .int a1_2)]) (by kernel_rfl) ?_
  refine rcall (.bool y4) [] [(.int .i64 a0), (.agg [(.int .i64 a1_0), (.tree (.pair .int (.pair .int (.pair .int .int))) a1_1), (.tree .int a1_2)])] _ (caps := []) (args0 := [(.int .i64 a0), (.agg [(.int .i64 a1_0), (.tree (.pair .int (.pair .int (.pair .int .int))) a1_1), (.tree .int a1_2)])]) trivial (by kernel_rfl) (by kernel_rfl) (by kernel_rfl) (by kernel_rfl) (ok_impl_isCircuit h4) hb_impl_isCircuit (by kernel_rfl) ?_
  refine rs0 (.bool (!y4)) (by kernel_rfl) ?_
  refine rnil (tn_ ?_)
  rcases cond_some h with ⟨q5, h⟩ | ⟨q5, h⟩
  · refine awp_condT_ q5 (by kernel_rfl) ?_
    refine awp_seq_ ?_
    refine awp_region_ 10 (by kernel_rfl) ?_
    refine rs0 .nils (by kernel_rfl) ?_
    refine rs0 (.bool false) (by kernel_rfl) ?_
    refine rnil (tn_ ?_)
    refine awp_ret_ (tr_ ?_)
    obtain rfl := Option.some.inj h
    exact ret_ [.nils, (.bool false)] (by simp) (by kernel_rfl) (p_one rfl (l_nils rfl) (p_one rfl (l_sc (by kernel_rfl)) p_nil)) (by kernel_rfl) (by kernel_rfl)
  · refine awp_condF_ q5 (by kernel_rfl) ?_
    refine awp_skip_ (tn_ ?_)
    refine awp_seq_ ?_
    obtain ⟨y8, h8, h⟩ := ob_some h
    refine awp_region_ 10 (by kernel_rfl) ?_
    refine rcall (.own (208, 8) .int 0 y8.length) [((208, 8), some (.arr 3 .int y8))] [(.int .i64 5)] _ (caps := []) (args0 := [(.int .i64 5)]) trivial (by kernel_rfl) (by kernel_rfl) (by kernel_rfl) (by kernel_rfl) (ok_impl_zeros h8) hb_impl_zeros (by kernel_rfl) ?_
    refine rs0 (.own (208, 8) .int 0 y8.length) (by kernel_rfl) ?_
    refine rnil (tn_ ?_)
    refine awp_seqB h (fun (l9_m6 : List Int) S_ => S_ = ⟨mkTm [(6, (.own (0, 1) .int 0 l9_m6.length))], mkOb (someL [((0, 1), .arr 3 .int l9_m6)]), 2⟩) ?_ ?_
    · intro v_ h
      refine awp_seq_ ?_
      refine awp_region_ 14 (by kernel_rfl) ?_
      refine rs0 (.box (3, 1) 1) (by kernel_rfl) ?_
      refine rsl (.tree (.pair .int (.pair .int (.pair .int .int))) a1_1) (by kernel_rfl) ?_
      refine rs0 (.int .i64 ((a1_1.length : Nat) : Int)) (by kernel_rfl) ?_
      refine rs0 (.int .i64 0) (by kernel_rfl) ?_
      refine rnil (tn_ ?_)
      refine awp_block_ ?_
      refine awp_loopL h (fun t_ S_ => ∃ (l11_m17 : Nat), ∃ (l11_m6 : List Int), t_ = (l11_m17, l11_m6) ∧ S_ = ⟨mkTm [(6, (.own (0, 1) .int 0 l11_m6.length)), (15, (.tree (.pair .int (.pair .int (.pair .int .int))) a1_1)), (16, (.int .i64 ((a1_1.length : Nat) : Int))), (17, (.int .i64 ((l11_m17 : Nat) : Int)))], mkOb (someL [((0, 1), .arr 3 .int l11_m6)]), 2⟩) ⟨_, (weak_ren (renF [((0, 1), (208, 8))]) (by kernel_rfl) (by kernel_rfl) (by kernel_rfl)), ⟨0, y8, rfl, rfl⟩⟩ ?_
      · rintro n_ _ _ c_ ⟨l11_m17, l11_m6, rfl, rfl⟩ h hn11
        (try dsimp only at h)
        unfold L_impl_CountGates_l1 at h
        unfold m_impl_CountGates_l1
        refine awp_seq_ ?_
        refine awp_region_ 3 (by kernel_rfl) ?_
        refine rs0 (.bool (decide (((l11_m17 : Nat) : Int) < ((a1_1.length : Nat) : Int)))) (by kernel_rfl) ?_
        refine rnil (tn_ ?_)
        refine awp_seq_ ?_
        rcases cond_some h with ⟨q14, h⟩ | ⟨q14, h⟩
        · have q14_ := of_decide_eq_true q14
          refine awp_condT_ q14 (by kernel_rfl) ?_
          refine awp_skip_ (tn_ ?_)
          refine awp_seq_ ?_
          refine awp_block_ ?_
          refine awp_seq_ ?_
          obtain ⟨x17, e17, h⟩ := ob_some h
          refine awp_region_ 7 (by kernel_rfl) ?_
          refine rs0 (.telt (.pair .int (.pair .int (.pair .int .int))) x17 0) (s_idxT (t := (.pair .int (.pair .int (.pair .int .int)))) (xs := a1_1) (k := .i64) (m := ((l11_m17 : Nat) : Int)) (by kernel_rfl) (by kernel_rfl) rfl (nat_nn _) rfl e17) ?_
          refine rs0 (.agg [(.int .i64 x17.1), (.int .i64 x17.2.1), (.int .i64 x17.2.2.1), (.int .i64 x17.2.2.2)]) (by kernel_rfl) ?_
          refine rs1 (.box (8, 5) 0) (8, 5) (.cells 51 [(.int .i64 0), (.int .i64 0), (.int .i64 0), (.int .i64 0)]) (by kernel_rfl) ?_
          refine rsn2 (8, 5) (8, 5) (.cells 51 [(.int .i64 x17.1), (.int .i64 x17.2.1), (.int .i64 x17.2.2.1), (.int .i64 x17.2.2.2)]) (by kernel_rfl) ?_
          refine rnil (tn_ ?_)
          obtain ⟨x18, f18, h⟩ := ob_some h
          obtain ⟨p18, b18, e18⟩ := getI_some f18
          obtain ⟨x19, f19, h⟩ := ob_some h
          obtain ⟨p19, b19, e19⟩ := getI_some f19
          refine awp_region_ 16 (by kernel_rfl) ?_
          refine rs0 (.own (0, 1) .int 0 l11_m6.length) (by kernel_rfl) ?_
          refine rs0 (.box (8, 5) 0) (by kernel_rfl) ?_
          refine rsl (.int .i64 x17.1) (by kernel_rfl) ?_
          refine rs0 (.int .i64 (IntKind.i64.wrap (x17.1 - 1))) (by kernel_rfl) ?_
          refine rs0 (.elt (0, 1) ((IntKind.i64.wrap (x17.1 - 1)).toNat) 0) (s_idxO (t := .int) (o := (0, 1)) (len := l11_m6.length) (k := .i64) (m := IntKind.i64.wrap (x17.1 - 1)) (by kernel_rfl) (by kernel_rfl) rfl p18 rfl (getN_lt e18)) ?_
          refine rsl (.int .i64 x19) (s_ldE (i := (0, 1)) (j := (IntKind.i64.wrap (x17.1 - 1)).toNat) (k := 0) (e := 3) (t := .int) (xs := l11_m6) (by kernel_rfl) (by kernel_rfl) e19 (by kernel_rfl)) ?_
          refine rs0 (.int .i64 (IntKind.i64.wrap (x19 + 1))) (by kernel_rfl) ?_
          refine rs0 (.elt (0, 1) ((IntKind.i64.wrap (x17.1 - 1)).toNat) 0) (s_idxO (t := .int) (o := (0, 1)) (len := l11_m6.length) (k := .i64) (m := IntKind.i64.wrap (x17.1 - 1)) (by kernel_rfl) (by kernel_rfl) rfl p18 rfl (getN_lt e18)) ?_
          refine rsn2 (0, 1) (0, 1) (.arr 3 .int (l11_m6.set ((IntKind.i64.wrap (x17.1 - 1)).toNat) (IntKind.i64.wrap (x19 + 1)))) (s_stE (i := (0, 1)) (j := (IntKind.i64.wrap (x17.1 - 1)).toNat) (k := 0) (e := 3) (t := .int) (xs := l11_m6) (cs := [(.int .i64 (IntKind.i64.wrap (x19 + 1)))]) (x1 := IntKind.i64.wrap (x19 + 1)) (by kernel_rfl) (by kernel_rfl) e19 (by kernel_rfl) (by kernel_rfl)) ?_
          refine rnil (bn_ (tn_ ?_))
          obtain ⟨g20, h⟩ := og_some h
          refine awp_region_ 18 (by kernel_rfl) ?_
          refine rs0 (.int .i64 ((l11_m17 + 1 : Nat) : Int)) (s_add1 (j := l11_m17) (by kernel_rfl) (by kernel_rfl) g20) ?_
          refine rs0 (.int .i64 ((l11_m17 + 1 : Nat) : Int)) (by kernel_rfl) ?_
          refine rnil (tn_ ?_)
          obtain rfl := Option.some.inj h
          exact ⟨(l11_m17 + 1, l11_m6.set ((IntKind.i64.wrap (x17.1 - 1)).toNat) (IntKind.i64.wrap (x19 + 1))), _, ((weak_tm_ 6 (.own (0, 1) .int 0 l11_m6.length) (.own (0, 1) .int 0 ((l11_m6.set ((IntKind.i64.wrap (x17.1 - 1)).toNat) (IntKind.i64.wrap (x19 + 1))).length)) (by kernel_rfl) (congrArg (fun z_ => ((.own (0, 1) .int 0 z_) : AV)) (((rfl : l11_m6.length = l11_m6.length).trans List.length_set.symm) : l11_m6.length = (l11_m6.set ((IntKind.i64.wrap (x17.1 - 1)).toNat) (IntKind.i64.wrap (x19 + 1))).length))).trans (weak_ren (renF []) (by kernel_rfl) (by kernel_rfl) (by kernel_rfl))), ⟨l11_m17 + 1, l11_m6.set ((IntKind.i64.wrap (x17.1 - 1)).toNat) (IntKind.i64.wrap (x19 + 1)), rfl, rfl⟩, hn11⟩
        · have q14_ := of_decide_eq_false q14
          refine awp_condF_ q14 (by kernel_rfl) ?_
          refine awp_exit_ (te_ (te_ (be_ (tn_ ?_))))
          obtain rfl := Option.some.inj h
          have h := hn11
          (try dsimp only at h)
          obtain rfl := Option.some.inj h
          exact ⟨_, (weak_ren (renF []) (by kernel_rfl) (by kernel_rfl) (by kernel_rfl)), rfl⟩
    · rintro l9_m6 _ rfl h
      (try dsimp only at h)
      refine awp_seq_ ?_
      refine awp_region_ 5 (by kernel_rfl) ?_
      refine rs0 (.own (0, 1) .int 0 l9_m6.length) (by kernel_rfl) ?_
      refine rs0 (.own (0, 1) .int 0 l9_m6.length) (by kernel_rfl) ?_
      refine rs0 (.bool true) (by kernel_rfl) ?_
      refine rnil (tn_ ?_)
      refine awp_ret_ ?_
      obtain rfl := Option.some.inj h
      exact ret_ [(.own (0, 1) .int 0 l9_m6.length), (.bool true)] (by simp) (by kernel_rfl) (p_one rfl (l_own (by kernel_rfl) rfl) (p_one rfl (l_sc (by kernel_rfl)) p_nil)) (by kernel_rfl) (by kernel_rfl)
def m_laws_FnExactCountGates : AC :=
  (.seq (.region [⟨(some 3), none, (.i (.box 25 (.tmp 1)))⟩, ⟨(some 4), none, (.i (.mov (.cst (.bool false))))⟩] false [])
  (.seq (.region [⟨(some 5), none, (.i (.mov (.cst (.int .i64 1048576))))⟩] false [])
  (.seq (.region [⟨(some 16), none, (.i (.ld false 3 (.tmp 3)))⟩, ⟨(some 17), none, (.i (.mov (.tmp 5)))⟩, ⟨(some 18), none, (.call (.cst (.fn 10 [])) [(.tmp 16), (.tmp 17)] [[none, (some (.pair .int (.pair .int (.pair .int .int)))), (some .int)], []])⟩, ⟨(some 5), none, (.i (.mov (.tmp 18)))⟩] false [])
  (.seq (.seq (.region [⟨(some 19), none, (.i (.mov (.tmp 5)))⟩, ⟨(some 20), none, (.i (.bin .lss (.tmp 19) (.cst (.int .i64 0))))⟩] false [])
  (.cond (.tmp 20)
    (.seq (.region [⟨(some 4), none, (.i (.mov (.cst (.bool true))))⟩] false [])
    .ret)
    .skip))
  (.seq (.region [⟨(some 22), none, (.i (.mov (.tmp 0)))⟩, ⟨(some 23), none, (.i (.ld false 3 (.tmp 3)))⟩, ⟨(some 24), none, (.call (.cst (.fn 12 [])) [(.tmp 23)] [[none, (some (.pair .int (.pair .int (.pair .int .int)))), (some .int)]])⟩, ⟨(some 25), none, (.call (.cst (.fn 11 [])) [(.tmp 22), (.tmp 24)] [[], [none, (some (.pair .int (.pair .int (.pair .int .int)))), (some .int)]])⟩, ⟨(some 21), none, (.i (.mov (.tmp 25)))⟩, ⟨(some 26), none, (.i (.extr 0 (.tmp 21)))⟩, ⟨(some 27), none, (.i (.extr 1 (.tmp 21)))⟩, ⟨(some 6), none, (.i (.mov (.tmp 26)))⟩, ⟨(some 7), none, (.i (.mov (.tmp 27)))⟩] false [])
  (.seq (.region [⟨(some 28), none, (.i (.ld false 3 (.tmp 3)))⟩, ⟨(some 29), none, (.call (.cst (.fn 12 [])) [(.tmp 28)] [[none, (some (.pair .int (.pair .int (.pair .int .int)))), (some .int)]])⟩, ⟨(some 8), none, (.i (.alloc 31 [(.int .i64 0), .nils, .nils]))⟩, ⟨none, none, (.st false 3 (.tmp 8) (.tmp 29))⟩] false [])
  (.seq (.region [⟨(some 31), none, (.i (.mov (.tmp 0)))⟩, ⟨(some 32), none, (.i (.ld false 3 (.tmp 8)))⟩, ⟨(some 33), none, (.call (.cst (.fn 13 [])) [(.tmp 31), (.tmp 32)] [[], [none, (some (.pair .int (.pair .int (.pair .int .int)))), (some .int)]])⟩, ⟨(some 30), none, (.i (.mov (.tmp 33)))⟩, ⟨(some 34), none, (.i (.extr 0 (.tmp 30)))⟩, ⟨(some 35), none, (.i (.extr 1 (.tmp 30)))⟩, ⟨(some 9), none, (.i (.mov (.tmp 34)))⟩, ⟨(some 10), none, (.i (.mov (.tmp 35)))⟩] false [])
  (.seq (.seq (.region [⟨(some 36), none, (.i (.mov (.tmp 9)))⟩, ⟨(some 37), none, (.i (.mov (.tmp 6)))⟩, ⟨(some 38), none, (.call (.cst (.fn 14 [])) [(.tmp 36), (.tmp 37)] [[(some .int)], [(some .int)]])⟩, ⟨(some 39), none, (.i (.not (.tmp 38)))⟩, ⟨(some 40), none, (.i (.mov (.tmp 39)))⟩, ⟨(some 41), (some (40, false)), (.i (.mov (.tmp 10)))⟩, ⟨(some 42), (some (40, false)), (.i (.mov (.tmp 7)))⟩, ⟨(some 43), (some (40, false)), (.i (.cmp true 0 (.tmp 41) (.tmp 42)))⟩, ⟨(some 44), none, (.i (.pick (.tmp 40) (.cst (.bool true)) (.tmp 43)))⟩] false [])
  (.cond (.tmp 44)
    (.seq (.region [⟨(some 4), none, (.i (.mov (.cst (.bool false))))⟩] false [])
    .ret)
    .skip))
  (.seq (.seq (.region [⟨(some 45), none, (.i (.ld false 3 (.tmp 8)))⟩, ⟨(some 46), none, (.i (.ld false 3 (.tmp 3)))⟩, ⟨(some 47), none, (.call (.cst (.fn 12 [])) [(.tmp 46)] [[none, (some (.pair .int (.pair .int (.pair .int .int)))), (some .int)]])⟩, ⟨(some 48), none, (.call (.cst (.fn 15 [])) [(.tmp 45), (.tmp 47)] [[none, (some (.pair .int (.pair .int (.pair .int .int)))), (some .int)], [none, (some (.pair .int (.pair .int (.pair .int .int)))), (some .int)]])⟩, ⟨(some 49), none, (.i (.not (.tmp 48)))⟩] true [(0, 2)])
  (.cond (.tmp 49)
    (.seq (.region [⟨(some 4), none, (.i (.mov (.cst (.bool false))))⟩] false [])
    .ret)
    .skip))
  (.seq (.region [⟨(some 11), none, (.i (.mov (.cst (.int .i64 1))))⟩] false [])
  (.seq (.region [⟨(some 50), none, (.i (.ld false 3 (.tmp 8)))⟩, ⟨(some 51), none, (.i (.mov (.tmp 11)))⟩, ⟨(some 52), none, (.call (.cst (.fn 16 [])) [(.tmp 50), (.tmp 51)] [[none, (some (.pair .int (.pair .int (.pair .int .int)))), (some .int)], []])⟩, ⟨(some 11), none, (.i (.mov (.tmp 52)))⟩] false [])
  (.seq (.seq (.region [⟨(some 53), none, (.i (.mov (.tmp 11)))⟩, ⟨(some 54), none, (.i (.bin .lss (.tmp 53) (.cst (.int .i64 0))))⟩, ⟨(some 55), none, (.i (.mov (.tmp 54)))⟩, ⟨(some 56), (some (55, false)), (.i (.mov (.tmp 9)))⟩, ⟨(some 57), (some (55, false)), (.i (.mov (.tmp 6)))⟩, ⟨(some 58), (some (55, false)), (.call (.cst (.fn 14 [])) [(.tmp 56), (.tmp 57)] [[(some .int)], [(some .int)]])⟩, ⟨(some 59), (some (55, false)), (.i (.not (.tmp 58)))⟩, ⟨(some 60), none, (.i (.pick (.tmp 55) (.cst (.bool true)) (.tmp 59)))⟩, ⟨(some 61), none, (.i (.mov (.tmp 60)))⟩, ⟨(some 62), (some (61, false)), (.i (.mov (.tmp 10)))⟩, ⟨(some 63), (some (61, false)), (.i (.mov (.tmp 7)))⟩, ⟨(some 64), (some (61, false)), (.i (.cmp true 0 (.tmp 62) (.tmp 63)))⟩, ⟨(some 65), none, (.i (.pick (.tmp 61) (.cst (.bool true)) (.tmp 64)))⟩] false [])
  (.cond (.tmp 65)
    (.seq (.region [⟨(some 4), none, (.i (.mov (.cst (.bool false))))⟩] false [])
    .ret)
    .skip))
  (.seq (.region [⟨(some 12), none, (.i (.mov (.cst (.int .i64 1))))⟩] false [])
  (.seq (.region [⟨(some 66), none, (.i (.mov (.tmp 9)))⟩, ⟨(some 67), none, (.i (.mov (.tmp 12)))⟩, ⟨(some 68), none, (.call (.cst (.fn 17 [])) [(.tmp 66), (.tmp 67)] [[(some .int)], []])⟩, ⟨(some 12), none, (.i (.mov (.tmp 68)))⟩] false [])
  (.seq (.region [⟨(some 13), none, (.i (.mov (.cst (.int .i64 1))))⟩] false [])
  (.seq (.region [⟨(some 69), none, (.i (.mov (.tmp 9)))⟩, ⟨(some 70), none, (.i (.mov (.tmp 13)))⟩, ⟨(some 71), none, (.call (.cst (.fn 18 [])) [(.tmp 69), (.tmp 70)] [[(some .int)], []])⟩, ⟨(some 13), none, (.i (.mov (.tmp 71)))⟩] false [])
  (.seq (.seq (.region [⟨(some 72), none, (.i (.mov (.tmp 13)))⟩, ⟨(some 73), none, (.i (.bin .lss (.tmp 72) (.cst (.int .i64 0))))⟩] false [])
  (.cond (.tmp 73)
    (.seq (.region [⟨(some 4), none, (.i (.mov (.cst (.bool false))))⟩] false [])
    .ret)
    .skip))
  (.seq (.seq (.region [⟨(some 74), none, (.i (.mov (.tmp 13)))⟩, ⟨(some 75), none, (.i (.mov (.tmp 12)))⟩, ⟨(some 76), none, (.i (.bin .neq (.tmp 74) (.tmp 75)))⟩] false [])
  (.cond (.tmp 76)
    (.seq (.region [⟨(some 4), none, (.i (.mov (.cst (.bool false))))⟩] false [])
    .ret)
    .skip))
  (.seq (.region [⟨(some 78), none, (.i (.mov (.tmp 0)))⟩, ⟨(some 79), none, (.i (.ld false 3 (.tmp 3)))⟩, ⟨(some 80), none, (.call (.cst (.fn 12 [])) [(.tmp 79)] [[none, (some (.pair .int (.pair .int (.pair .int .int)))), (some .int)]])⟩, ⟨(some 81), none, (.call (.cst (.fn 13 [])) [(.tmp 78), (.tmp 80)] [[], [none, (some (.pair .int (.pair .int (.pair .int .int)))), (some .int)]])⟩, ⟨(some 77), none, (.i (.mov (.tmp 81)))⟩, ⟨(some 82), none, (.i (.extr 0 (.tmp 77)))⟩, ⟨(some 83), none, (.i (.extr 1 (.tmp 77)))⟩, ⟨(some 14), none, (.i (.mov (.tmp 82)))⟩, ⟨(some 15), none, (.i (.mov (.tmp 83)))⟩] false [])
  (.seq (.seq (.region [⟨(some 84), none, (.i (.mov (.tmp 14)))⟩, ⟨(some 85), none, (.i (.mov (.tmp 6)))⟩, ⟨(some 86), none, (.call (.cst (.fn 14 [])) [(.tmp 84), (.tmp 85)] [[(some .int)], [(some .int)]])⟩, ⟨(some 87), none, (.i (.not (.tmp 86)))⟩, ⟨(some 88), none, (.i (.mov (.tmp 87)))⟩, ⟨(some 89), (some (88, false)), (.i (.mov (.tmp 15)))⟩, ⟨(some 90), (some (88, false)), (.i (.mov (.tmp 7)))⟩, ⟨(some 91), (some (88, false)), (.i (.cmp true 0 (.tmp 89) (.tmp 90)))⟩, ⟨(some 92), none, (.i (.pick (.tmp 88) (.cst (.bool true)) (.tmp 91)))⟩] false [])
  (.cond (.tmp 92)
    (.seq (.region [⟨(some 4), none, (.i (.mov (.cst (.bool false))))⟩] false [])
    .ret)
    .skip))
  (.seq (.region [⟨(some 13), none, (.i (.mov (.cst (.int .i64 1))))⟩] false [])
  (.seq (.region [⟨(some 93), none, (.i (.mov (.tmp 9)))⟩, ⟨(some 94), none, (.i (.mov (.tmp 13)))⟩, ⟨(some 95), none, (.call (.cst (.fn 18 [])) [(.tmp 93), (.tmp 94)] [[(some .int)], []])⟩, ⟨(some 13), none, (.i (.mov (.tmp 95)))⟩] false [])
  (.seq (.seq (.region [⟨(some 96), none, (.i (.mov (.tmp 13)))⟩, ⟨(some 97), none, (.i (.bin .lss (.tmp 96) (.cst (.int .i64 0))))⟩] false [])
  (.cond (.tmp 97)
    (.seq (.region [⟨(some 4), none, (.i (.mov (.cst (.bool false))))⟩] false [])
    .ret)
    .skip))
  (.seq (.seq (.region [⟨(some 98), none, (.i (.mov (.tmp 13)))⟩, ⟨(some 99), none, (.i (.mov (.tmp 12)))⟩, ⟨(some 100), none, (.i (.bin .neq (.tmp 98) (.tmp 99)))⟩] false [])
  (.cond (.tmp 100)
    (.seq (.region [⟨(some 4), none, (.i (.mov (.cst (.bool false))))⟩] false [])
    .ret)
    .skip))
  (.seq (.region [⟨(some 4), none, (.i (.mov (.cst (.bool true))))⟩] false [])
  .ret)))))))))))))))))))))))))
def r_laws_FnExactCountGates : List Res := [.tmp 4]
theorem c_laws_FnExactCountGates : compiled Tryd.prog Tryd.f3 = some (m_laws_FnExactCountGates, r_laws_FnExactCountGates) := by kernel_rfl
theorem hb_laws_FnExactCountGates : hasBody Tryd.prog 3 = true := by kernel_rfl
def L_laws_FnExactCountGates (a0 : Int) (a1_0 : Int) (a1_1 : List (Int × Int × Int × Int)) (a1_2 : List Int) : Option Bool :=
  Option.bind (L_laws_szCircuit a1_0 a1_1 a1_2 1048576) fun y4 =>
cond (decide (y4 < 0))
  (some true)
  (Option.bind (L_laws_toCircuit a1_0 a1_1 a1_2) fun y10 =>
  Option.bind (L_spec_CountGates a0 y10.1 y10.2.1 y10.2.2) fun y11 =>
  Option.bind (L_laws_toCircuit a1_0 a1_1 a1_2) fun y13 =>
  Option.bind (L_impl_CountGates a0 y13.1 y13.2.1 y13.2.2) fun y15 =>
  Option.bind (Option.bind (L_laws_eqIntS y15.1 y11.1) fun y18 =>
    cond (!y18)
      (some true)
      (some (y15.2 != y11.2))) fun l17_m44 =>
  cond l17_m44
    (some false)
    (Option.bind (L_laws_toCircuit a1_0 a1_1 a1_2) fun y24 =>
    Option.bind (L_laws_eqCircuit y13.1 y13.2.1 y13.2.2 y24.1 y24.2.1 y24.2.2) fun y25 =>
    cond (!y25)
      (some false)
      (Option.bind (L_laws_markCircuit y13.1 y13.2.1 y13.2.2 1) fun y30 =>
      og (y30.1.length = y13.2.1.length) <|
      og (y30.2.1.length = y13.2.2.length) <|
      Option.bind (cond (decide (y30.2.2 < 0))
          (some true)
          (Option.bind (L_laws_eqIntS y15.1 y11.1) fun y36 =>
          cond (!y36)
            (some true)
            (some (y15.2 != y11.2)))) fun l34_m65 =>
      cond l34_m65
        (some false)
        (Option.bind (L_laws_markIntS y15.1 1) fun y42 =>
        og (y42.1.length = y15.1.length) <|
        Option.bind (L_laws_heldIntS y42.1 1) fun y46 =>
        cond (decide (y46 < 0))
          (some false)
          (cond (y46 != y42.2)
            (some false)
            (Option.bind (L_laws_toCircuit a1_0 a1_1 a1_2) fun y56 =>
            Option.bind (L_impl_CountGates a0 y56.1 y56.2.1 y56.2.2) fun y57 =>
            Option.bind (Option.bind (L_laws_eqIntS y57.1 y11.1) fun y60 =>
              cond (!y60)
                (some true)
                (some (y57.2 != y11.2))) fun l59_m92 =>
            cond l59_m92
              (some false)
              (Option.bind (L_laws_heldIntS y42.1 1) fun y66 =>
              cond (decide (y66 < 0))
                (some false)
                (cond (y66 != y42.2)
                  (some false)
                  (some true)))))))))
def rv_laws_FnExactCountGates (r : Bool) : RV := ⟨false, [(false, [.sc (.bool r)])]⟩
theorem ok_laws_FnExactCountGates {a0 : Int} {a1_0 : Int} {a1_1 : List (Int × Int × Int × Int)} {a1_2 : List Int} {r : Bool} (h : L_laws_FnExactCountGates a0 a1_0 a1_1 a1_2 = some r) : CallOK Tryd.prog Tab 3 [(.int .i64 a0), (.agg [(.int .i64 a1_0), (.tree (.pair .int (.pair .int (.pair .int .int))) a1_1), (.tree .int a1_2)])] (rv_laws_FnExactCountGates r) := by
  refine call_of_ (by kernel_rfl) Tryd.func3 c_laws_FnExactCountGates (n := 101) (by kernel_rfl) (by simp) (tl := [(0, (.int .i64 a0)), (1, (.agg [(.int .i64 a1_0), (.tree (.pair .int (.pair .int (.pair .int .int))) a1_1), (.tree .int a1_2)]))]) rfl ?_
  unfold m_laws_FnExactCountGates
  unfold L_laws_FnExactCountGates at h
  refine awp_seq_ ?_
  refine awp_region_ 3 (by kernel_rfl) ?_
  refine rs1 (.box (3, 1) 0) (3, 1) (.cells 25 [(.int .i64 a1_0), (.tree (.pair .int (.pair .int (.pair .int .int))) a1_1), (.tree .int a1_2)]) (by kernel_rfl) ?_
  refine rs0 (.bool false) (by kernel_rfl) ?_
  refine rnil (tn_ ?_)
  refine awp_seq_ ?_
  refine awp_region_ 4 (by kernel_rfl) ?_
  refine rs0 (.int .i64 1048576) (by kernel_rfl) ?_
  refine rnil (tn_ ?_)
  refine awp_seq_ ?_
  obtain ⟨y4, h4, h⟩ := ob_some h
  refine awp_region_ 8 (by kernel_rfl) ?_
  refine rsl (.agg [(.int .i64 a1_0), (.tree (.pair .int (.pair .int (.pair .int .int))) a1_1), (.tree .int a1_2)]) (by kernel_rfl) ?_
  refine rs0 (.int .i64 1048576) (by kernel_rfl) ?_
  refine rcall (.int .i64 y4) [] [(.agg [(.int .i64 a1_0), (.tree (.pair .int (.pair .int (.pair .int .int))) a1_1), (.tree .int a1_2)]), (.int .i64 1048576)] _ (caps := []) (args0 := [(.agg [(.int .i64 a1_0), (.tree (.pair .int (.pair .int (.pair .int .int))) a1_1), (.tree .int a1_2)]), (.int .i64 1048576)]) trivial (by kernel_rfl) (by kernel_rfl) (by kernel_rfl) (by kernel_rfl) (ok_laws_szCircuit h4) hb_laws_szCircuit (by kernel_rfl) ?_
  refine rs0 (.int .i64 y4) (by kernel_rfl) ?_
  refine rnil (tn_ ?_)
  refine awp_seq_ ?_
  refine awp_seq_ ?_
  refine awp_region_ 10 (by kernel_rfl) ?_
  refine rs0 (.int .i64 y4) (by kernel_rfl) ?_
  refine rs0 (.bool (decide (y4 < 0))) (by kernel_rfl) ?_
  refine rnil (tn_ ?_)
  rcases cond_some h with ⟨q7, h⟩ | ⟨q7, h⟩
  · have q7_ := of_decide_eq_true q7
    refine awp_condT_ q7 (by kernel_rfl) ?_
    refine awp_seq_ ?_
    refine awp_region_ 11 (by kernel_rfl) ?_
    refine rs0 (.bool true) (by kernel_rfl) ?_
    refine rnil (tn_ ?_)
    refine awp_ret_ (tr_ ?_)
    obtain rfl := Option.some.inj h
    exact ret_ [(.bool true)] (by simp) (by kernel_rfl) (p_one rfl (l_sc (by kernel_rfl)) p_nil) (by kernel_rfl) (by kernel_rfl)
  · have q7_ := of_decide_eq_false q7
    refine awp_condF_ q7 (by kernel_rfl) ?_
    refine awp_skip_ (tn_ ?_)
    refine awp_seq_ ?_
    obtain ⟨y10, h10, h⟩ := ob_some h
    obtain ⟨y11, h11, h⟩ := ob_some h
    refine awp_region_ 19 (by kernel_rfl) ?_
    refine rs0 (.int .i64 a0) (by kernel_rfl) ?_
    refine rsl (.agg [(.int .i64 a1_0), (.tree (.pair .int (.pair .int (.pair .int .int))) a1_1), (.tree .int a1_2)]) (by kernel_rfl) ?_
    refine rcall (.agg [(.int .i64 y10.1), (.own (384, 12) (.pair .int (.pair .int (.pair .int .int))) 0 y10.2.1.length), (.own (385, 12) .int 0 y10.2.2.length)]) [((384, 12), some (.arr 51 (.pair .int (.pair .int (.pair .int .int))) y10.2.1)), ((385, 12), some (.arr 3 .int y10.2.2))] [(.agg [(.int .i64 a1_0), (.tree (.pair .int (.pair .int (.pair .int .int))) a1_1), (.tree .int a1_2)])] _ (caps := []) (args0 := [(.agg [(.int .i64 a1_0), (.tree (.pair .int (.pair .int (.pair .int .int))) a1_1), (.tree .int a1_2)])]) trivial (by kernel_rfl) (by kernel_rfl) (by kernel_rfl) (by kernel_rfl) (ok_laws_toCircuit h10) hb_laws_toCircuit (by kernel_rfl) ?_
    refine rcall (.tup [(.own (400, 13) .int 0 y11.1.length), (.bool y11.2)]) [((400, 13), some (.arr 3 .int y11.1))] [(.int .i64 a0), (.agg [(.int .i64 y10.1), (.own (384, 12) (.pair .int (.pair .int (.pair .int .int))) 0 y10.2.1.length), (.own (385, 12) .int 0 y10.2.2.length)])] _ (caps := []) (args0 := [(.int .i64 a0), (.agg [(.int .i64 y10.1), (.tree (.pair .int (.pair .int (.pair .int .int))) y10.2.1), (.tree .int y10.2.2)])]) trivial (by kernel_rfl) (by kernel_rfl) (gm_cons (by kernel_rfl) (gm_cons (gd_agg (gm_cons (by kernel_rfl) (gm_cons (gd_own (e := 51) (by kernel_rfl) rfl) (gm_cons (gd_own (e := 3) (by kernel_rfl) rfl) gm_nil)))) gm_nil)) (by kernel_rfl) (ok_spec_CountGates h11) hb_spec_CountGates (by kernel_rfl) ?_
    refine rs0 (.tup [(.own (400, 13) .int 0 y11.1.length), (.bool y11.2)]) (by kernel_rfl) ?_
    refine rs0 (.own (400, 13) .int 0 y11.1.length) (by kernel_rfl) ?_
    refine rs0 (.bool y11.2) (by kernel_rfl) ?_
    refine rs0 (.own (400, 13) .int 0 y11.1.length) (by kernel_rfl) ?_
    refine rs0 (.bool y11.2) (by kernel_rfl) ?_
    refine rnil (tn_ ?_)
    refine awp_seq_ ?_
    obtain ⟨y13, h13, h⟩ := ob_some h
    refine awp_region_ 23 (by kernel_rfl) ?_
    refine rsl (.agg [(.int .i64 a1_0), (.tree (.pair .int (.pair .int (.pair .int .int))) a1_1), (.tree .int a1_2)]) (by kernel_rfl) ?_
    refine rcall (.agg [(.int .i64 y13.1), (.own (464, 20) (.pair .int (.pair .int (.pair .int .int))) 0 y13.2.1.length), (.own (465, 20) .int 0 y13.2.2.length)]) [((464, 20), some (.arr 51 (.pair .int (.pair .int (.pair .int .int))) y13.2.1)), ((465, 20), some (.arr 3 .int y13.2.2))] [(.agg [(.int .i64 a1_0), (.tree (.pair .int (.pair .int (.pair .int .int))) a1_1), (.tree .int a1_2)])] _ (caps := []) (args0 := [(.agg [(.int .i64 a1_0), (.tree (.pair .int (.pair .int (.pair .int .int))) a1_1), (.tree .int a1_2)])]) trivial (by kernel_rfl) (by kernel_rfl) (by kernel_rfl) (by kernel_rfl) (ok_laws_toCircuit h13) hb_laws_toCircuit (by kernel_rfl) ?_
    refine rs1 (.box (8, 21) 0) (8, 21) (.cells 31 [(.int .i64 0), .nils, .nils]) (by kernel_rfl) ?_
    refine rsn2 (8, 21) (8, 21) (.cells 31 [(.int .i64 y13.1), (.own (464, 20) (.pair .int (.pair .int (.pair .int .int))) 0 y13.2.1.length), (.own (465, 20) .int 0 y13.2.2.length)]) (by kernel_rfl) ?_
    refine rnil (tn_ ?_)
    refine awp_seq_ ?_
    obtain ⟨y15, h15, h⟩ := ob_some h
    refine awp_region_ 31 (by kernel_rfl) ?_
    refine rs0 (.int .i64 a0) (by kernel_rfl) ?_
    refine rsl (.agg [(.int .i64 y13.1), (.own (464, 20) (.pair .int (.pair .int (.pair .int .int))) 0 y13.2.1.length), (.own (465, 20) .int 0 y13.2.2.length)]) (by kernel_rfl) ?_
    refine rcall (.tup [(.own (528, 25) .int 0 y15.1.length), (.bool y15.2)]) [((528, 25), some (.arr 3 .int y15.1))] [(.int .i64 a0), (.agg [(.int .i64 y13.1), (.own (464, 20) (.pair .int (.pair .int (.pair .int .int))) 0 y13.2.1.length), (.own (465, 20) .int 0 y13.2.2.length)])] _ (caps := []) (args0 := [(.int .i64 a0), (.agg [(.int .i64 y13.1), (.tree (.pair .int (.pair .int (.pair .int .int))) y13.2.1), (.tree .int y13.2.2)])]) trivial (by kernel_rfl) (by kernel_rfl) (gm_cons (by kernel_rfl) (gm_cons (gd_agg (gm_cons (by kernel_rfl) (gm_cons (gd_own (e := 51) (by kernel_rfl) rfl) (gm_cons (gd_own (e := 3) (by kernel_rfl) rfl) gm_nil)))) gm_nil)) (by kernel_rfl) (ok_impl_CountGates h15) hb_impl_CountGates (by kernel_rfl) ?_
    refine rs0 (.tup [(.own (528, 25) .int 0 y15.1.length), (.bool y15.2)]) (by kernel_rfl) ?_
    refine rs0 (.own (528, 25) .int 0 y15.1.length) (by kernel_rfl) ?_
    refine rs0 (.bool y15.2) (by kernel_rfl) ?_
    refine rs0 (.own (528, 25) .int 0 y15.1.length) (by kernel_rfl) ?_
    refine rs0 (.bool y15.2) (by kernel_rfl) ?_
    refine rnil (tn_ ?_)
    refine awp_seq_ ?_
    refine awp_seqB h (fun (l17_m44 : Bool) S_ => S_ = ⟨mkTm [(0, (.int .i64 a0)), (3, (.box (0, 1) 0)), (6, (.own (1, 1) .int 0 y11.1.length)), (7, (.bool y11.2)), (8, (.box (2, 1) 0)), (9, (.own (3, 1) .int 0 y15.1.length)), (10, (.bool y15.2)), (44, (.bool l17_m44))], mkOb (someL [((0, 1), .cells 25 [(.int .i64 a1_0), (.tree (.pair .int (.pair .int (.pair .int .int))) a1_1), (.tree .int a1_2)]), ((1, 1), .arr 3 .int y11.1), ((2, 1), .cells 31 [(.int .i64 y13.1), (.own (4, 1) (.pair .int (.pair .int (.pair .int .int))) 0 y13.2.1.length), (.own (5, 1) .int 0 y13.2.2.length)]), ((3, 1), .arr 3 .int y15.1), ((4, 1), .arr 51 (.pair .int (.pair .int (.pair .int .int))) y13.2.1), ((5, 1), .arr 3 .int y13.2.2)]), 2⟩) ?_ ?_
    · intro v_ h
      obtain ⟨y18, h18, h⟩ := ob_some h
      rcases cond_some h with ⟨q19, h⟩ | ⟨q19, h⟩
      · refine awp_region_ 40 (by kernel_rfl) ?_
        refine rs0 (.own (528, 25) .int 0 y15.1.length) (by kernel_rfl) ?_
        refine rs0 (.own (400, 13) .int 0 y11.1.length) (by kernel_rfl) ?_
        refine rcall (.bool y18) [] [(.own (528, 25) .int 0 y15.1.length), (.own (400, 13) .int 0 y11.1.length)] _ (caps := []) (args0 := [(.tree .int y15.1), (.tree .int y11.1)]) trivial (by kernel_rfl) (by kernel_rfl) (gm_cons (gd_own (e := 3) (by kernel_rfl) rfl) (gm_cons (gd_own (e := 3) (by kernel_rfl) rfl) gm_nil)) (by kernel_rfl) (ok_laws_eqIntS h18) hb_laws_eqIntS (by kernel_rfl) ?_
        refine rs0 (.bool (!y18)) (by kernel_rfl) ?_
        refine rs0 (.bool (!y18)) (by kernel_rfl) ?_
        refine rs0 (.tup []) (s_skip (by kernel_rfl) q19) ?_
        refine rs0 (.tup []) (s_skip (by kernel_rfl) q19) ?_
        refine rs0 (.tup []) (s_skip (by kernel_rfl) q19) ?_
        refine rs0 (.bool true) (s_pickT (by kernel_rfl) q19) ?_
        refine rnil (tn_ ?_)
        obtain rfl := Option.some.inj h
        exact ⟨_, (weak_ren (renF [((0, 1), (3, 1)), ((1, 1), (400, 13)), ((2, 1), (8, 21)), ((4, 1), (464, 20)), ((5, 1), (465, 20)), ((3, 1), (528, 25))]) (by kernel_rfl) (by kernel_rfl) (by kernel_rfl)), rfl⟩
      · refine awp_region_ 40 (by kernel_rfl) ?_
        refine rs0 (.own (528, 25) .int 0 y15.1.length) (by kernel_rfl) ?_
        refine rs0 (.own (400, 13) .int 0 y11.1.length) (by kernel_rfl) ?_
        refine rcall (.bool y18) [] [(.own (528, 25) .int 0 y15.1.length), (.own (400, 13) .int 0 y11.1.length)] _ (caps := []) (args0 := [(.tree .int y15.1), (.tree .int y11.1)]) trivial (by kernel_rfl) (by kernel_rfl) (gm_cons (gd_own (e := 3) (by kernel_rfl) rfl) (gm_cons (gd_own (e := 3) (by kernel_rfl) rfl) gm_nil)) (by kernel_rfl) (ok_laws_eqIntS h18) hb_laws_eqIntS (by kernel_rfl) ?_
        refine rs0 (.bool (!y18)) (by kernel_rfl) ?_
        refine rs0 (.bool (!y18)) (by kernel_rfl) ?_
        refine rs0 (.bool y15.2) (s_gd (by kernel_rfl) q19 (by kernel_rfl)) ?_
        refine rs0 (.bool y11.2) (s_gd (by kernel_rfl) q19 (by kernel_rfl)) ?_
        refine rs0 (.bool (y15.2 != y11.2)) (s_gd (by kernel_rfl) q19 (by kernel_rfl)) ?_
        refine rs0 (.bool (y15.2 != y11.2)) (s_pickF (by kernel_rfl) q19) ?_
        refine rnil (tn_ ?_)
        obtain rfl := Option.some.inj h
        exact ⟨_, (weak_ren (renF [((0, 1), (3, 1)), ((1, 1), (400, 13)), ((2, 1), (8, 21)), ((4, 1), (464, 20)), ((5, 1), (465, 20)), ((3, 1), (528, 25))]) (by kernel_rfl) (by kernel_rfl) (by kernel_rfl)), rfl⟩
    · rintro l17_m44 _ rfl h
      (try dsimp only at h)
      rcases cond_some h with ⟨q20, h⟩ | ⟨q20, h⟩
      · refine awp_condT_ q20 (by kernel_rfl) ?_
        refine awp_seq_ ?_
        refine awp_region_ 3 (by kernel_rfl) ?_
        refine rs0 (.bool false) (by kernel_rfl) ?_
        refine rnil (tn_ ?_)
        refine awp_ret_ (tr_ ?_)
        obtain rfl := Option.some.inj h
        exact ret_ [(.bool false)] (by simp) (by kernel_rfl) (p_one rfl (l_sc (by kernel_rfl)) p_nil) (by kernel_rfl) (by kernel_rfl)
      · refine awp_condF_ q20 (by kernel_rfl) ?_
        refine awp_skip_ (tn_ ?_)
        refine awp_seq_ ?_
        refine awp_seq_ ?_
        obtain ⟨y24, h24, h⟩ := ob_some h
        obtain ⟨y25, h25, h⟩ := ob_some h
        refine awp_regionD_ 7 (by kernel_rfl) ?_
        refine dsl (.agg [(.int .i64 y13.1), (.own (4, 1) (.pair .int (.pair .int (.pair .int .int))) 0 y13.2.1.length), (.own (5, 1) .int 0 y13.2.2.length)]) (by kernel_rfl) ?_
        refine dsl (.agg [(.int .i64 a1_0), (.tree (.pair .int (.pair .int (.pair .int .int))) a1_1), (.tree .int a1_2)]) (by kernel_rfl) ?_
        refine dcall (.agg [(.int .i64 y24.1), (.own (752, 4) (.pair .int (.pair .int (.pair .int .int))) 0 y24.2.1.length), (.own (753, 4) .int 0 y24.2.2.length)]) [((752, 4), some (.arr 51 (.pair .int (.pair .int (.pair .int .int))) y24.2.1)), ((753, 4), some (.arr 3 .int y24.2.2))] [(.agg [(.int .i64 a1_0), (.tree (.pair .int (.pair .int (.pair .int .int))) a1_1), (.tree .int a1_2)])] _ (caps := []) (args0 := [(.agg [(.int .i64 a1_0), (.tree (.pair .int (.pair .int (.pair .int .int))) a1_1), (.tree .int a1_2)])]) trivial (by kernel_rfl) (by kernel_rfl) (by kernel_rfl) (by kernel_rfl) (ok_laws_toCircuit h24) hb_laws_toCircuit (by kernel_rfl) ?_
        refine dcall (.bool y25) [] [(.agg [(.int .i64 y13.1), (.own (4, 1) (.pair .int (.pair .int (.pair .int .int))) 0 y13.2.1.length), (.own (5, 1) .int 0 y13.2.2.length)]), (.agg [(.int .i64 y24.1), (.own (752, 4) (.pair .int (.pair .int (.pair .int .int))) 0 y24.2.1.length), (.own (753, 4) .int 0 y24.2.2.length)])] _ (caps := []) (args0 := [(.agg [(.int .i64 y13.1), (.tree (.pair .int (.pair .int (.pair .int .int))) y13.2.1), (.tree .int y13.2.2)]), (.agg [(.int .i64 y24.1), (.tree (.pair .int (.pair .int (.pair .int .int))) y24.2.1), (.tree .int y24.2.2)])]) trivial (by kernel_rfl) (by kernel_rfl) (gm_cons (gd_agg (gm_cons (by kernel_rfl) (gm_cons (gd_own (e := 51) (by kernel_rfl) rfl) (gm_cons (gd_own (e := 3) (by kernel_rfl) rfl) gm_nil)))) (gm_cons (gd_agg (gm_cons (by kernel_rfl) (gm_cons (gd_own (e := 51) (by kernel_rfl) rfl) (gm_cons (gd_own (e := 3) (by kernel_rfl) rfl) gm_nil)))) gm_nil)) (by kernel_rfl) (ok_laws_eqCircuit h25) hb_laws_eqCircuit (by kernel_rfl) ?_
        refine ds0 (.bool (!y25)) (by kernel_rfl) ?_
        refine dnil (by kernel_rfl) (tn_ ?_)
        rcases cond_some h with ⟨q26, h⟩ | ⟨q26, h⟩
        · refine awp_condT_ q26 (by kernel_rfl) ?_
          refine awp_seq_ ?_
          refine awp_region_ 8 (by kernel_rfl) ?_
          refine rs0 (.bool false) (by kernel_rfl) ?_
          refine rnil (tn_ ?_)
          refine awp_ret_ (tr_ ?_)
          obtain rfl := Option.some.inj h
          exact ret_ [(.bool false)] (by simp) (by kernel_rfl) (p_one rfl (l_sc (by kernel_rfl)) p_nil) (by kernel_rfl) (by kernel_rfl)
        · refine awp_condF_ q26 (by kernel_rfl) ?_
          refine awp_skip_ (tn_ ?_)
          refine awp_seq_ ?_
          refine awp_region_ 8 (by kernel_rfl) ?_
          refine rs0 (.int .i64 1) (by kernel_rfl) ?_
          refine rnil (tn_ ?_)
          refine awp_seq_ ?_
          obtain ⟨y30, h30, h⟩ := ob_some h
          obtain ⟨g31, h⟩ := og_some h
          obtain ⟨g32, h⟩ := og_some h
          refine awp_region_ 12 (by kernel_rfl) ?_
          refine rsl (.agg [(.int .i64 y13.1), (.own (4, 1) (.pair .int (.pair .int (.pair .int .int))) 0 y13.2.1.length), (.own (5, 1) .int 0 y13.2.2.length)]) (by kernel_rfl) ?_
          refine rs0 (.int .i64 1) (by kernel_rfl) ?_
          refine rcallM (.int .i64 y30.2.2) [((0, 0), (4, 1)), ((1, 0), (5, 1))] [(.agg [(.int .i64 y13.1), (.own (4, 1) (.pair .int (.pair .int (.pair .int .int))) 0 y13.2.1.length), (.own (5, 1) .int 0 y13.2.2.length)]), (.int .i64 1)] (caps := []) trivial (by kernel_rfl) (by kernel_rfl) (ok_laws_markCircuit h30 rfl rfl) (by kernel_rfl) (by kernel_rfl) (by kernel_rfl) (by kernel_rfl) (by kernel_rfl) hb_laws_markCircuit ?_
          refine rs0 (.int .i64 y30.2.2) (by kernel_rfl) ?_
          refine rnil (tn_ ?_)
          refine awp_seq_ ?_
          refine awp_seqB h (fun (l34_m65 : Bool) S_ => S_ = ⟨mkTm [(0, (.int .i64 a0)), (3, (.box (0, 1) 0)), (6, (.own (1, 1) .int 0 y11.1.length)), (7, (.bool y11.2)), (9, (.own (2, 1) .int 0 y15.1.length)), (65, (.bool l34_m65))], mkOb (someL [((0, 1), .cells 25 [(.int .i64 a1_0), (.tree (.pair .int (.pair .int (.pair .int .int))) a1_1), (.tree .int a1_2)]), ((1, 1), .arr 3 .int y11.1), ((2, 1), .arr 3 .int y15.1)]), 2⟩) ?_ ?_
          · intro v_ h
            rcases cond_some h with ⟨q35, h⟩ | ⟨q35, h⟩
            · have q35_ := of_decide_eq_true q35
              refine awp_region_ 25 (by kernel_rfl) ?_
              refine rs0 (.int .i64 y30.2.2) (by kernel_rfl) ?_
              refine rs0 (.bool (decide (y30.2.2 < 0))) (by kernel_rfl) ?_
              refine rs0 (.bool (decide (y30.2.2 < 0))) (by kernel_rfl) ?_
              refine rs0 (.tup []) (s_skip (by kernel_rfl) q35) ?_
              refine rs0 (.tup []) (s_skip (by kernel_rfl) q35) ?_
              refine rs0 (.tup []) (s_skip (by kernel_rfl) q35) ?_
              refine rs0 (.tup []) (s_skip (by kernel_rfl) q35) ?_
              refine rs0 (.bool true) (s_pickT (by kernel_rfl) q35) ?_
              refine rs0 (.bool true) (by kernel_rfl) ?_
              refine rs0 (.tup []) (by kernel_rfl) ?_
              refine rs0 (.tup []) (by kernel_rfl) ?_
              refine rs0 (.tup []) (by kernel_rfl) ?_
              refine rs0 (.bool true) (by kernel_rfl) ?_
              refine rnil (tn_ ?_)
              obtain rfl := Option.some.inj h
              exact ⟨_, (weak_ren (renF [((2, 1), (3, 1))]) (by kernel_rfl) (by kernel_rfl) (by kernel_rfl)), rfl⟩
            · have q35_ := of_decide_eq_false q35
              obtain ⟨y36, h36, h⟩ := ob_some h
              rcases cond_some h with ⟨q37, h⟩ | ⟨q37, h⟩
              · refine awp_region_ 25 (by kernel_rfl) ?_
                refine rs0 (.int .i64 y30.2.2) (by kernel_rfl) ?_
                refine rs0 (.bool (decide (y30.2.2 < 0))) (by kernel_rfl) ?_
                refine rs0 (.bool (decide (y30.2.2 < 0))) (by kernel_rfl) ?_
                refine rs0 (.own (3, 1) .int 0 y15.1.length) (s_gd (by kernel_rfl) q35 (by kernel_rfl)) ?_
                refine rs0 (.own (1, 1) .int 0 y11.1.length) (s_gd (by kernel_rfl) q35 (by kernel_rfl)) ?_
                refine rcall (.bool y36) [] [(.own (3, 1) .int 0 y15.1.length), (.own (1, 1) .int 0 y11.1.length)] _ (caps := []) (args0 := [(.tree .int y15.1), (.tree .int y11.1)]) (gdOK_b (by kernel_rfl) q35) (by kernel_rfl) (by kernel_rfl) (gm_cons (gd_own (e := 3) (by kernel_rfl) rfl) (gm_cons (gd_own (e := 3) (by kernel_rfl) rfl) gm_nil)) (by kernel_rfl) (ok_laws_eqIntS h36) hb_laws_eqIntS (by kernel_rfl) ?_
                refine rs0 (.bool (!y36)) (s_gd (by kernel_rfl) q35 (by kernel_rfl)) ?_
                refine rs0 (.bool (!y36)) (s_pickF (by kernel_rfl) q35) ?_
                refine rs0 (.bool (!y36)) (by kernel_rfl) ?_
                refine rs0 (.tup []) (s_skip (by kernel_rfl) q37) ?_
                refine rs0 (.tup []) (s_skip (by kernel_rfl) q37) ?_
                refine rs0 (.tup []) (s_skip (by kernel_rfl) q37) ?_
                refine rs0 (.bool true) (s_pickT (by kernel_rfl) q37) ?_
                refine rnil (tn_ ?_)
                obtain rfl := Option.some.inj h
                exact ⟨_, (weak_ren (renF [((2, 1), (3, 1))]) (by kernel_rfl) (by kernel_rfl) (by kernel_rfl)), rfl⟩
              · refine awp_region_ 25 (by kernel_rfl) ?_
                refine rs0 (.int .i64 y30.2.2) (by kernel_rfl) ?_
                refine rs0 (.bool (decide (y30.2.2 < 0))) (by kernel_rfl) ?_
                refine rs0 (.bool (decide (y30.2.2 < 0))) (by kernel_rfl) ?_
                refine rs0 (.own (3, 1) .int 0 y15.1.length) (s_gd (by kernel_rfl) q35 (by kernel_rfl)) ?_
                refine rs0 (.own (1, 1) .int 0 y11.1.length) (s_gd (by kernel_rfl) q35 (by kernel_rfl)) ?_
                refine rcall (.bool y36) [] [(.own (3, 1) .int 0 y15.1.length), (.own (1, 1) .int 0 y11.1.length)] _ (caps := []) (args0 := [(.tree .int y15.1), (.tree .int y11.1)]) (gdOK_b (by kernel_rfl) q35) (by kernel_rfl) (by kernel_rfl) (gm_cons (gd_own (e := 3) (by kernel_rfl) rfl) (gm_cons (gd_own (e := 3) (by kernel_rfl) rfl) gm_nil)) (by kernel_rfl) (ok_laws_eqIntS h36) hb_laws_eqIntS (by kernel_rfl) ?_
                refine rs0 (.bool (!y36)) (s_gd (by kernel_rfl) q35 (by kernel_rfl)) ?_
                refine rs0 (.bool (!y36)) (s_pickF (by kernel_rfl) q35) ?_
                refine rs0 (.bool (!y36)) (by kernel_rfl) ?_
                refine rs0 (.bool y15.2) (s_gd (by kernel_rfl) q37 (by kernel_rfl)) ?_
                refine rs0 (.bool y11.2) (s_gd (by kernel_rfl) q37 (by kernel_rfl)) ?_
                refine rs0 (.bool (y15.2 != y11.2)) (s_gd (by kernel_rfl) q37 (by kernel_rfl)) ?_
                refine rs0 (.bool (y15.2 != y11.2)) (s_pickF (by kernel_rfl) q37) ?_
                refine rnil (tn_ ?_)
                obtain rfl := Option.some.inj h
                exact ⟨_, (weak_ren (renF [((2, 1), (3, 1))]) (by kernel_rfl) (by kernel_rfl) (by kernel_rfl)), rfl⟩
          · rintro l34_m65 _ rfl h
            (try dsimp only at h)
            rcases cond_some h with ⟨q38, h⟩ | ⟨q38, h⟩
            · refine awp_condT_ q38 (by kernel_rfl) ?_
              refine awp_seq_ ?_
              refine awp_region_ 3 (by kernel_rfl) ?_
              refine rs0 (.bool false) (by kernel_rfl) ?_
              refine rnil (tn_ ?_)
              refine awp_ret_ (tr_ ?_)
              obtain rfl := Option.some.inj h
              exact ret_ [(.bool false)] (by simp) (by kernel_rfl) (p_one rfl (l_sc (by kernel_rfl)) p_nil) (by kernel_rfl) (by kernel_rfl)
            · refine awp_condF_ q38 (by kernel_rfl) ?_
              refine awp_skip_ (tn_ ?_)
              refine awp_seq_ ?_
              refine awp_region_ 3 (by kernel_rfl) ?_
              refine rs0 (.int .i64 1) (by kernel_rfl) ?_
              refine rnil (tn_ ?_)
              refine awp_seq_ ?_
              obtain ⟨y42, h42, h⟩ := ob_some h
              obtain ⟨g43, h⟩ := og_some h
              refine awp_region_ 7 (by kernel_rfl) ?_
              refine rs0 (.own (2, 1) .int 0 y15.1.length) (by kernel_rfl) ?_
              refine rs0 (.int .i64 1) (by kernel_rfl) ?_
              refine rcallM (.int .i64 y42.2) [((0, 0), (2, 1))] [(.own (2, 1) .int 0 y15.1.length), (.int .i64 1)] (caps := []) trivial (by kernel_rfl) (by kernel_rfl) (ok_laws_markIntS h42 rfl) (by kernel_rfl) (by kernel_rfl) (by kernel_rfl) (by kernel_rfl) (by kernel_rfl) hb_laws_markIntS ?_
              refine rs0 (.int .i64 y42.2) (by kernel_rfl) ?_
              refine rnil (tn_ ?_)
              refine awp_seq_ ?_
              refine awp_region_ 8 (by kernel_rfl) ?_
              refine rs0 (.int .i64 1) (by kernel_rfl) ?_
              refine rnil (tn_ ?_)
              refine awp_seq_ ?_
              obtain ⟨y46, h46, h⟩ := ob_some h
              refine awp_region_ 12 (by kernel_rfl) ?_
              refine rs0 (.own (2, 1) .int 0 y15.1.length) (by kernel_rfl) ?_
              refine rs0 (.int .i64 1) (by kernel_rfl) ?_
              refine rcall (.int .i64 y46) [] [(.own (2, 1) .int 0 y15.1.length), (.int .i64 1)] _ (caps := []) (args0 := [(.tree .int y42.1), (.int .i64 1)]) trivial (by kernel_rfl) (by kernel_rfl) (gm_cons (gd_own (e := 3) (by kernel_rfl) g43.symm) (gm_cons (by kernel_rfl) gm_nil)) (by kernel_rfl) (ok_laws_heldIntS h46) hb_laws_heldIntS (by kernel_rfl) ?_
              refine rs0 (.int .i64 y46) (by kernel_rfl) ?_
              refine rnil (tn_ ?_)
              refine awp_seq_ ?_
              refine awp_seq_ ?_
              refine awp_region_ 14 (by kernel_rfl) ?_
              refine rs0 (.int .i64 y46) (by kernel_rfl) ?_
              refine rs0 (.bool (decide (y46 < 0))) (by kernel_rfl) ?_
              refine rnil (tn_ ?_)
              rcases cond_some h with ⟨q49, h⟩ | ⟨q49, h⟩
              · have q49_ := of_decide_eq_true q49
                refine awp_condT_ q49 (by kernel_rfl) ?_
                refine awp_seq_ ?_
                refine awp_region_ 15 (by kernel_rfl) ?_
                refine rs0 (.bool false) (by kernel_rfl) ?_
                refine rnil (tn_ ?_)
                refine awp_ret_ (tr_ ?_)
                obtain rfl := Option.some.inj h
                exact ret_ [(.bool false)] (by simp) (by kernel_rfl) (p_one rfl (l_sc (by kernel_rfl)) p_nil) (by kernel_rfl) (by kernel_rfl)
              · have q49_ := of_decide_eq_false q49
                refine awp_condF_ q49 (by kernel_rfl) ?_
                refine awp_skip_ (tn_ ?_)
                refine awp_seq_ ?_
                refine awp_seq_ ?_
                refine awp_region_ 17 (by kernel_rfl) ?_
                refine rs0 (.int .i64 y46) (by kernel_rfl) ?_
                refine rs0 (.int .i64 y42.2) (by kernel_rfl) ?_
                refine rs0 (.bool (y46 != y42.2)) (by kernel_rfl) ?_
                refine rnil (tn_ ?_)
                rcases cond_some h with ⟨q53, h⟩ | ⟨q53, h⟩
                · refine awp_condT_ q53 (by kernel_rfl) ?_
                  refine awp_seq_ ?_
                  refine awp_region_ 18 (by kernel_rfl) ?_
                  refine rs0 (.bool false) (by kernel_rfl) ?_
                  refine rnil (tn_ ?_)
                  refine awp_ret_ (tr_ ?_)
                  obtain rfl := Option.some.inj h
                  exact ret_ [(.bool false)] (by simp) (by kernel_rfl) (p_one rfl (l_sc (by kernel_rfl)) p_nil) (by kernel_rfl) (by kernel_rfl)
                · refine awp_condF_ q53 (by kernel_rfl) ?_
                  refine awp_skip_ (tn_ ?_)
                  refine awp_seq_ ?_
                  obtain ⟨y56, h56, h⟩ := ob_some h
                  obtain ⟨y57, h57, h⟩ := ob_some h
                  refine awp_region_ 26 (by kernel_rfl) ?_
                  refine rs0 (.int .i64 a0) (by kernel_rfl) ?_
                  refine rsl (.agg [(.int .i64 a1_0), (.tree (.pair .int (.pair .int (.pair .int .int))) a1_1), (.tree .int a1_2)]) (by kernel_rfl) ?_
                  refine rcall (.agg [(.int .i64 y56.1), (.own (1280, 19) (.pair .int (.pair .int (.pair .int .int))) 0 y56.2.1.length), (.own (1281, 19) .int 0 y56.2.2.length)]) [((1280, 19), some (.arr 51 (.pair .int (.pair .int (.pair .int .int))) y56.2.1)), ((1281, 19), some (.arr 3 .int y56.2.2))] [(.agg [(.int .i64 a1_0), (.tree (.pair .int (.pair .int (.pair .int .int))) a1_1), (.tree .int a1_2)])] _ (caps := []) (args0 := [(.agg [(.int .i64 a1_0), (.tree (.pair .int (.pair .int (.pair .int .int))) a1_1), (.tree .int a1_2)])]) trivial (by kernel_rfl) (by kernel_rfl) (by kernel_rfl) (by kernel_rfl) (ok_laws_toCircuit h56) hb_laws_toCircuit (by kernel_rfl) ?_
                  refine rcall (.tup [(.own (1296, 20) .int 0 y57.1.length), (.bool y57.2)]) [((1296, 20), some (.arr 3 .int y57.1))] [(.int .i64 a0), (.agg [(.int .i64 y56.1), (.own (1280, 19) (.pair .int (.pair .int (.pair .int .int))) 0 y56.2.1.length), (.own (1281, 19) .int 0 y56.2.2.length)])] _ (caps := []) (args0 := [(.int .i64 a0), (.agg [(.int .i64 y56.1), (.tree (.pair .int (.pair .int (.pair .int .int))) y56.2.1), (.tree .int y56.2.2)])]) trivial (by kernel_rfl) (by kernel_rfl) (gm_cons (by kernel_rfl) (gm_cons (gd_agg (gm_cons (by kernel_rfl) (gm_cons (gd_own (e := 51) (by kernel_rfl) rfl) (gm_cons (gd_own (e := 3) (by kernel_rfl) rfl) gm_nil)))) gm_nil)) (by kernel_rfl) (ok_impl_CountGates h57) hb_impl_CountGates (by kernel_rfl) ?_
                  refine rs0 (.tup [(.own (1296, 20) .int 0 y57.1.length), (.bool y57.2)]) (by kernel_rfl) ?_
                  refine rs0 (.own (1296, 20) .int 0 y57.1.length) (by kernel_rfl) ?_
                  refine rs0 (.bool y57.2) (by kernel_rfl) ?_
                  refine rs0 (.own (1296, 20) .int 0 y57.1.length) (by kernel_rfl) ?_
                  refine rs0 (.bool y57.2) (by kernel_rfl) ?_
                  refine rnil (tn_ ?_)
                  refine awp_seq_ ?_
                  refine awp_seqB h (fun (l59_m92 : Bool) S_ => S_ = ⟨mkTm [(9, (.own (0, 1) .int 0 y42.1.length)), (12, (.int .i64 y42.2)), (92, (.bool l59_m92))], mkOb (someL [((0, 1), .arr 3 .int y42.1)]), 2⟩) ?_ ?_
                  · intro v_ h
                    obtain ⟨y60, h60, h⟩ := ob_some h
                    rcases cond_some h with ⟨q61, h⟩ | ⟨q61, h⟩
                    · refine awp_region_ 35 (by kernel_rfl) ?_
                      refine rs0 (.own (1296, 20) .int 0 y57.1.length) (by kernel_rfl) ?_
                      refine rs0 (.own (1, 1) .int 0 y11.1.length) (by kernel_rfl) ?_
                      refine rcall (.bool y60) [] [(.own (1296, 20) .int 0 y57.1.length), (.own (1, 1) .int 0 y11.1.length)] _ (caps := []) (args0 := [(.tree .int y57.1), (.tree .int y11.1)]) trivial (by kernel_rfl) (by kernel_rfl) (gm_cons (gd_own (e := 3) (by kernel_rfl) rfl) (gm_cons (gd_own (e := 3) (by kernel_rfl) rfl) gm_nil)) (by kernel_rfl) (ok_laws_eqIntS h60) hb_laws_eqIntS (by kernel_rfl) ?_
                      refine rs0 (.bool (!y60)) (by kernel_rfl) ?_
                      refine rs0 (.bool (!y60)) (by kernel_rfl) ?_
                      refine rs0 (.tup []) (s_skip (by kernel_rfl) q61) ?_
                      refine rs0 (.tup []) (s_skip (by kernel_rfl) q61) ?_
                      refine rs0 (.tup []) (s_skip (by kernel_rfl) q61) ?_
                      refine rs0 (.bool true) (s_pickT (by kernel_rfl) q61) ?_
                      refine rnil (tn_ ?_)
                      obtain rfl := Option.some.inj h
                      exact ⟨_, ((weak_tm_ 9 (.own (2, 1) .int 0 y15.1.length) (.own (2, 1) .int 0 y42.1.length) (by kernel_rfl) (congrArg (fun z_ => ((.own (2, 1) .int 0 z_) : AV)) (g43.symm : y15.1.length = y42.1.length))).trans (weak_ren (renF [((0, 1), (2, 1))]) (by kernel_rfl) (by kernel_rfl) (by kernel_rfl))), rfl⟩
                    · refine awp_region_ 35 (by kernel_rfl) ?_
                      refine rs0 (.own (1296, 20) .int 0 y57.1.length) (by kernel_rfl) ?_
                      refine rs0 (.own (1, 1) .int 0 y11.1.length) (by kernel_rfl) ?_
                      refine rcall (.bool y60) [] [(.own (1296, 20) .int 0 y57.1.length), (.own (1, 1) .int 0 y11.1.length)] _ (caps := []) (args0 := [(.tree .int y57.1), (.tree .int y11.1)]) trivial (by kernel_rfl) (by kernel_rfl) (gm_cons (gd_own (e := 3) (by kernel_rfl) rfl) (gm_cons (gd_own (e := 3) (by kernel_rfl) rfl) gm_nil)) (by kernel_rfl) (ok_laws_eqIntS h60) hb_laws_eqIntS (by kernel_rfl) ?_
                      refine rs0 (.bool (!y60)) (by kernel_rfl) ?_
                      refine rs0 (.bool (!y60)) (by kernel_rfl) ?_
                      refine rs0 (.bool y57.2) (s_gd (by kernel_rfl) q61 (by kernel_rfl)) ?_
                      refine rs0 (.bool y11.2) (s_gd (by kernel_rfl) q61 (by kernel_rfl)) ?_
                      refine rs0 (.bool (y57.2 != y11.2)) (s_gd (by kernel_rfl) q61 (by kernel_rfl)) ?_
                      refine rs0 (.bool (y57.2 != y11.2)) (s_pickF (by kernel_rfl) q61) ?_
                      refine rnil (tn_ ?_)
                      obtain rfl := Option.some.inj h
                      exact ⟨_, ((weak_tm_ 9 (.own (2, 1) .int 0 y15.1.length) (.own (2, 1) .int 0 y42.1.length) (by kernel_rfl) (congrArg (fun z_ => ((.own (2, 1) .int 0 z_) : AV)) (g43.symm : y15.1.length = y42.1.length))).trans (weak_ren (renF [((0, 1), (2, 1))]) (by kernel_rfl) (by kernel_rfl) (by kernel_rfl))), rfl⟩
                  · rintro l59_m92 _ rfl h
                    (try dsimp only at h)
                    rcases cond_some h with ⟨q62, h⟩ | ⟨q62, h⟩
                    · refine awp_condT_ q62 (by kernel_rfl) ?_
                      refine awp_seq_ ?_
                      refine awp_region_ 3 (by kernel_rfl) ?_
                      refine rs0 (.bool false) (by kernel_rfl) ?_
                      refine rnil (tn_ ?_)
                      refine awp_ret_ (tr_ ?_)
                      obtain rfl := Option.some.inj h
                      exact ret_ [(.bool false)] (by simp) (by kernel_rfl) (p_one rfl (l_sc (by kernel_rfl)) p_nil) (by kernel_rfl) (by kernel_rfl)
                    · refine awp_condF_ q62 (by kernel_rfl) ?_
                      refine awp_skip_ (tn_ ?_)
                      refine awp_seq_ ?_
                      refine awp_region_ 3 (by kernel_rfl) ?_
                      refine rs0 (.int .i64 1) (by kernel_rfl) ?_
                      refine rnil (tn_ ?_)
                      refine awp_seq_ ?_
                      obtain ⟨y66, h66, h⟩ := ob_some h
                      refine awp_region_ 7 (by kernel_rfl) ?_
                      refine rs0 (.own (0, 1) .int 0 y42.1.length) (by kernel_rfl) ?_
                      refine rs0 (.int .i64 1) (by kernel_rfl) ?_
                      refine rcall (.int .i64 y66) [] [(.own (0, 1) .int 0 y42.1.length), (.int .i64 1)] _ (caps := []) (args0 := [(.tree .int y42.1), (.int .i64 1)]) trivial (by kernel_rfl) (by kernel_rfl) (gm_cons (gd_own (e := 3) (by kernel_rfl) rfl) (gm_cons (by kernel_rfl) gm_nil)) (by kernel_rfl) (ok_laws_heldIntS h66) hb_laws_heldIntS (by kernel_rfl) ?_
                      refine rs0 (.int .i64 y66) (by kernel_rfl) ?_
                      refine rnil (tn_ ?_)
                      refine awp_seq_ ?_
                      refine awp_seq_ ?_
                      refine awp_region_ 9 (by kernel_rfl) ?_
                      refine rs0 (.int .i64 y66) (by kernel_rfl) ?_
                      refine rs0 (.bool (decide (y66 < 0))) (by kernel_rfl) ?_
                      refine rnil (tn_ ?_)
                      rcases cond_some h with ⟨q69, h⟩ | ⟨q69, h⟩
                      · have q69_ := of_decide_eq_true q69
                        refine awp_condT_ q69 (by kernel_rfl) ?_
                        refine awp_seq_ ?_
                        refine awp_region_ 10 (by kernel_rfl) ?_
                        refine rs0 (.bool false) (by kernel_rfl) ?_
                        refine rnil (tn_ ?_)
                        refine awp_ret_ (tr_ ?_)
                        obtain rfl := Option.some.inj h
                        exact ret_ [(.bool false)] (by simp) (by kernel_rfl) (p_one rfl (l_sc (by kernel_rfl)) p_nil) (by kernel_rfl) (by kernel_rfl)
                      · have q69_ := of_decide_eq_false q69
                        refine awp_condF_ q69 (by kernel_rfl) ?_
                        refine awp_skip_ (tn_ ?_)
                        refine awp_seq_ ?_
                        refine awp_seq_ ?_
                        refine awp_region_ 12 (by kernel_rfl) ?_
                        refine rs0 (.int .i64 y66) (by kernel_rfl) ?_
                        refine rs0 (.int .i64 y42.2) (by kernel_rfl) ?_
                        refine rs0 (.bool (y66 != y42.2)) (by kernel_rfl) ?_
                        refine rnil (tn_ ?_)
                        rcases cond_some h with ⟨q73, h⟩ | ⟨q73, h⟩
                        · refine awp_condT_ q73 (by kernel_rfl) ?_
                          refine awp_seq_ ?_
                          refine awp_region_ 13 (by kernel_rfl) ?_
                          refine rs0 (.bool false) (by kernel_rfl) ?_
                          refine rnil (tn_ ?_)
                          refine awp_ret_ (tr_ ?_)
                          obtain rfl := Option.some.inj h
                          exact ret_ [(.bool false)] (by simp) (by kernel_rfl) (p_one rfl (l_sc (by kernel_rfl)) p_nil) (by kernel_rfl) (by kernel_rfl)
                        · refine awp_condF_ q73 (by kernel_rfl) ?_
                          refine awp_skip_ (tn_ ?_)
                          refine awp_seq_ ?_
                          refine awp_region_ 13 (by kernel_rfl) ?_
                          refine rs0 (.bool true) (by kernel_rfl) ?_
                          refine rnil (tn_ ?_)
                          refine awp_ret_ ?_
                          obtain rfl := Option.some.inj h
                          exact ret_ [(.bool true)] (by simp) (by kernel_rfl) (p_one rfl (l_sc (by kernel_rfl)) p_nil) (by kernel_rfl) (by kernel_rfl)
end Go.Proofs.YthjdknddcceigaaDoor
