/- Partial functions in place of code, and that the code does what they say: DDA. No condition. -/
import Derived.Test.YtomijolkdmaimaaDoorLR0
namespace Go.Proofs.YtomijolkdmaimaaDoor
open Go.RowKit Go.Deep
set_option maxRecDepth 4000
def m_spec_DropDead_l2 : AC :=
  (.seq (.region [⟨(some 24), none, (.i (.bin .lss (.tmp 23) (.tmp 22)))⟩] false [])
  (.seq (.cond (.tmp 24)
    .skip
    (.exit 2))
  (.seq (.block 3 (.seq (.region [⟨(some 25), none, (.i (.mov (.tmp 23)))⟩, ⟨(some 26), none, (.i (.idx 5 (.tmp 21) (.tmp 23)))⟩, ⟨(some 27), none, (.i (.ld false 5 (.tmp 26)))⟩, ⟨(some 10), none, (.i (.alloc 69 [(.int .i64 0), (.int .i64 0), (.int .i64 0), (.int .i64 0), (.int .i64 0)]))⟩, ⟨(some 9), none, (.i (.mov (.tmp 25)))⟩, ⟨none, none, (.st false 5 (.tmp 10) (.tmp 27))⟩] false [])
  (.seq (.seq (.region [⟨(some 28), none, (.i (.ld false 5 (.tmp 10)))⟩, ⟨(some 29), none, (.call (.cst (.fn 46 [])) [(.tmp 28)] [[none, none, none, none, none]])⟩, ⟨(some 30), none, (.i (.mov (.tmp 29)))⟩, ⟨(some 31), (some (30, true)), (.i (.mov (.tmp 6)))⟩, ⟨(some 32), (some (30, true)), (.i (.mov (.tmp 9)))⟩, ⟨(some 33), (some (30, true)), (.i (.bin .add (.tmp 32) (.cst (.int .i64 1))))⟩, ⟨(some 34), (some (30, true)), (.call (.cst (.fn 38 [])) [(.tmp 31), (.tmp 33)] [[(some (.pair .int (.pair .int (.pair .int (.pair .int .int)))))], []])⟩, ⟨(some 35), (some (30, true)), (.i (.fld 1 (.tmp 10)))⟩, ⟨(some 36), (some (30, true)), (.i (.ld true 1 (.tmp 35)))⟩, ⟨(some 37), (some (30, true)), (.call (.cst (.fn 47 [])) [(.tmp 34), (.tmp 36)] [[(some .int)], []])⟩, ⟨(some 38), (some (30, true)), (.i (.not (.tmp 37)))⟩, ⟨(some 39), none, (.i (.pick (.tmp 30) (.tmp 38) (.cst (.bool false))))⟩] true [(6, 8)])
  (.cond (.tmp 39)
    (.seq (.region [⟨(some 7), none, (.i (.mov (.cst (.bool true))))⟩] false [])
    (.exit 3))
    .skip))
  (.region [⟨(some 40), none, (.i (.mov (.tmp 8)))⟩, ⟨(some 41), none, (.i (.ld false 5 (.tmp 10)))⟩, ⟨(some 42), none, (.mkS 69 (.pair .int (.pair .int (.pair .int (.pair .int .int)))) [(.tmp 41)])⟩, ⟨(some 43), none, (.append 69 (.pair .int (.pair .int (.pair .int (.pair .int .int)))) 40 (.tmp 40) (.tmp 42))⟩, ⟨(some 8), none, (.i (.mov (.tmp 43)))⟩] false []))))
  (.region [⟨(some 44), none, (.i (.bin .add (.tmp 23) (.cst (.int .i64 1))))⟩, ⟨(some 23), none, (.i (.mov (.tmp 44)))⟩] false []))))
def m_spec_DropDead_l1 : AC :=
  (.seq (.seq (.region [⟨(some 20), none, (.i (.mov (.tmp 7)))⟩] false [])
  (.cond (.tmp 20)
    .skip
    (.exit 0)))
  (.block 1 (.seq (.region [⟨(some 7), none, (.i (.mov (.cst (.bool false))))⟩] false [])
  (.seq (.region [⟨(some 8), none, (.i (.mov (.cst .nils)))⟩] false [])
  (.seq (.seq (.region [⟨(some 21), none, (.i (.mov (.tmp 6)))⟩, ⟨(some 22), none, (.i (.len (.tmp 21)))⟩, ⟨(some 23), none, (.i (.mov (.cst (.int .i64 0))))⟩] false [])
  (.block 2 (.loop m_spec_DropDead_l2)))
  (.region [⟨(some 45), none, (.i (.mov (.tmp 8)))⟩, ⟨(some 6), none, (.i (.mov (.tmp 45)))⟩] false []))))))
def m_spec_DropDead : AC :=
  (.seq (.region [⟨(some 3), none, (.i (.box 29 (.tmp 1)))⟩, ⟨(some 4), none, (.i (.alloc 29 [(.int .i64 0), (.int .i64 0), (.int .i64 0), (.int .i64 0), .nils]))⟩, ⟨(some 5), none, (.i (.mov (.cst (.bool false))))⟩] false [])
  (.seq (.seq (.region [⟨(some 11), none, (.i (.mov (.tmp 0)))⟩, ⟨(some 12), none, (.i (.ld false 5 (.tmp 3)))⟩, ⟨(some 13), none, (.call (.cst (.fn 33 [])) [(.tmp 11), (.tmp 12)] [[], [none, none, none, none, (some (.pair .int (.pair .int (.pair .int (.pair .int .int)))))]])⟩, ⟨(some 14), none, (.i (.not (.tmp 13)))⟩] false [])
  (.cond (.tmp 14)
    (.seq (.region [⟨(some 15), none, (.build [(.int .i64 0), (.int .i64 0), (.int .i64 0), (.int .i64 0), .nils] [])⟩, ⟨none, none, (.st false 5 (.tmp 4) (.tmp 15))⟩, ⟨(some 5), none, (.i (.mov (.cst (.bool false))))⟩] false [])
    .ret)
    .skip))
  (.seq (.region [⟨(some 16), none, (.mkS 69 (.pair .int (.pair .int (.pair .int (.pair .int .int)))) [])⟩, ⟨(some 17), none, (.i (.fld 4 (.tmp 3)))⟩, ⟨(some 18), none, (.i (.ld true 1 (.tmp 17)))⟩, ⟨(some 19), none, (.append 69 (.pair .int (.pair .int (.pair .int (.pair .int .int)))) 40 (.tmp 16) (.tmp 18))⟩, ⟨(some 6), none, (.i (.mov (.tmp 19)))⟩] false [])
  (.seq (.seq (.region [⟨(some 7), none, (.i (.mov (.cst (.bool true))))⟩] false [])
  (.block 0 (.loop m_spec_DropDead_l1)))
  (.seq (.region [⟨(some 46), none, (.i (.fld 0 (.tmp 3)))⟩, ⟨(some 47), none, (.i (.ld true 1 (.tmp 46)))⟩, ⟨(some 48), none, (.i (.fld 1 (.tmp 3)))⟩, ⟨(some 49), none, (.i (.ld true 1 (.tmp 48)))⟩, ⟨(some 50), none, (.i (.fld 2 (.tmp 3)))⟩, ⟨(some 51), none, (.i (.ld true 1 (.tmp 50)))⟩, ⟨(some 52), none, (.i (.fld 3 (.tmp 3)))⟩, ⟨(some 53), none, (.i (.ld true 1 (.tmp 52)))⟩, ⟨(some 54), none, (.i (.mov (.tmp 6)))⟩, ⟨(some 55), none, (.build [(.int .i64 0), (.int .i64 0), (.int .i64 0), (.int .i64 0), .nils] [(0, 1, (.tmp 47)), (1, 1, (.tmp 49)), (2, 1, (.tmp 51)), (3, 1, (.tmp 53)), (4, 1, (.tmp 54))])⟩, ⟨none, none, (.st false 5 (.tmp 4) (.tmp 55))⟩, ⟨(some 5), none, (.i (.mov (.cst (.bool true))))⟩] false [])
  .ret)))))
def r_spec_DropDead : List Res := [.cell 4 false 5, .tmp 5]
theorem c_spec_DropDead : compiled Tryd.prog Tryd.f22 = some (m_spec_DropDead, r_spec_DropDead) := by kernel_rfl
theorem hb_spec_DropDead : hasBody Tryd.prog 22 = true := by kernel_rfl
def L_spec_DropDead_l2 (l11_m6 : List (Int × Int × Int × Int × Int)) (l19_m7 : Bool) (l19_m23 : Nat) (l19_m8 : List (Int × Int × Int × Int × Int)) : Option (Ctl (Bool × Nat × (List (Int × Int × Int × Int × Int))) (Bool × (List (Int × Int × Int × Int × Int)))) :=
  cond (decide (((l19_m23 : Nat) : Int) < ((l11_m6.length : Nat) : Int)))
  (Option.bind (Option.bind (l11_m6[l19_m23]?) fun x25 =>
    Option.bind (Option.bind (L_spec_cmWrites x25.1 x25.2.1 x25.2.2.1 x25.2.2.2.1 x25.2.2.2.2) fun y28 =>
      cond y28
        (og (l19_m23 + 1 < 4611686018427387904) <|
        Option.bind (L_spec_cmLive l11_m6 ((l19_m23 + 1 : Nat) : Int)) fun y31 =>
        Option.bind (L_spec_l1Has y31 x25.2.1) fun y32 =>
        some (!y32))
        (some false)) fun l27_m39 =>
    cond l27_m39
      (some (true, l19_m8))
      (og (l19_m8.length + 1 ≤ 1073741824 ∧ (l19_m8.length + 1) * 40 ≤ 140737488355328) <|
      some (l19_m7, l19_m8 ++ ([x25])))) fun (l23_m7, l23_m8) =>
  og (l19_m23 + 1 < 4611686018427387904) <|
  some (Ctl.next (l23_m7, l19_m23 + 1, l23_m8)))
  (some (Ctl.out (l19_m7, l19_m8)))
def L_spec_DropDead_l1  (l11_m7 : Bool) (l11_m6 : List (Int × Int × Int × Int × Int)) : Option (Ctl (Bool × (List (Int × Int × Int × Int × Int))) (List (Int × Int × Int × Int × Int))) :=
  cond l11_m7
  (Option.bind (loopM (fun s_ : Bool × Nat × (List (Int × Int × Int × Int × Int)) => L_spec_DropDead_l2 l11_m6 s_.1 s_.2.1 s_.2.2) 4611686018427387904 (false, 0, [])) fun (l17_m7, l17_m8) =>
  some (Ctl.next (l17_m7, l17_m8)))
  (some (Ctl.out l11_m6))
def L_spec_DropDead (a0 : Int) (a1_0 : Int) (a1_1 : Int) (a1_2 : Int) (a1_3 : Int) (a1_4 : List (Int × Int × Int × Int × Int)) : Option (Int × Int × Int × Int × (List (Int × Int × Int × Int × Int)) × Bool) :=
  Option.bind (L_spec_cmGood a0 a1_0 a1_1 a1_2 a1_3 a1_4) fun y4 =>
cond (!y4)
  (some (0, 0, 0, 0, [], false))
  (og (0 + a1_4.length ≤ 1073741824 ∧ (0 + a1_4.length) * 40 ≤ 140737488355328) <|
  Option.bind (loopM (fun s_ : Bool × (List (Int × Int × Int × Int × Int)) => L_spec_DropDead_l1 s_.1 s_.2) 4611686018427387904 (true, a1_4)) fun l9_m6 =>
  some (a1_0, a1_1, a1_2, a1_3, l9_m6, true))
def rv_spec_DropDead (r : Int × Int × Int × Int × (List (Int × Int × Int × Int × Int)) × Bool) : RV := ⟨true, [(true, [.sc (.int .i64 r.1), .sc (.int .i64 r.2.1), .sc (.int .i64 r.2.2.1), .sc (.int .i64 r.2.2.2.1), .new 69 (.pair .int (.pair .int (.pair .int (.pair .int .int)))) r.2.2.2.2.1]), (false, [.sc (.bool r.2.2.2.2.2)])]⟩
theorem ok_spec_DropDead {a0 : Int} {a1_0 : Int} {a1_1 : Int} {a1_2 : Int} {a1_3 : Int} {a1_4 : List (Int × Int × Int × Int × Int)} {r : Int × Int × Int × Int × (List (Int × Int × Int × Int × Int)) × Bool} (h : L_spec_DropDead a0 a1_0 a1_1 a1_2 a1_3 a1_4 = some r) : CallOK Tryd.prog Tab 22 [(.int .i64 a0), (.agg [(.int .i64 a1_0), (.int .i64 a1_1), (.int .i64 a1_2), (.int .i64 a1_3), (.tree (.pair .int (.pair .int (.pair .int (.pair .int .int)))) a1_4)])] (rv_spec_DropDead r) := by
  refine call_of_ (by kernel_rfl) Tryd.func22 c_spec_DropDead (n := 56) (by kernel_rfl) (by simp) (tl := [(0, (.int .i64 a0)), (1, (.agg [(.int .i64 a1_0), (.int .i64 a1_1), (.int .i64 a1_2), (.int .i64 a1_3), (.tree (.pair .int (.pair .int (.pair .int (.pair .int .int)))) a1_4)]))]) rfl ?_
  unfold m_spec_DropDead
  unfold L_spec_DropDead at h
  refine awp_seq_ ?_
  refine awp_region_ 4 (by kernel_rfl) ?_
  refine rs1 (.box (3, 1) 0) (3, 1) (.cells 29 [(.int .i64 a1_0), (.int .i64 a1_1), (.int .i64 a1_2), (.int .i64 a1_3), (.tree (.pair .int (.pair .int (.pair .int (.pair .int .int)))) a1_4)]) (by kernel_rfl) ?_
  refine rs1 (.box (4, 2) 0) (4, 2) (.cells 29 [(.int .i64 0), (.int .i64 0), (.int .i64 0), (.int .i64 0), .nils]) (by kernel_rfl) ?_
  refine rs0 (.bool false) (by kernel_rfl) ?_
  refine rnil (tn_ ?_)
  refine awp_seq_ ?_
  refine awp_seq_ ?_
  obtain ⟨y4, h4, h⟩ := ob_some h
  refine awp_region_ 8 (by kernel_rfl) ?_
  refine rs0 (.int .i64 a0) (by kernel_rfl) ?_
  refine rsl (.agg [(.int .i64 a1_0), (.int .i64 a1_1), (.int .i64 a1_2), (.int .i64 a1_3), (.tree (.pair .int (.pair .int (.pair .int (.pair .int .int)))) a1_4)]) (by kernel_rfl) ?_
  refine rcall (.bool y4) [] [(.int .i64 a0), (.agg [(.int .i64 a1_0), (.int .i64 a1_1), (.int .i64 a1_2), (.int .i64 a1_3), (.tree (.pair .int (.pair .int (.pair .int (.pair .int .int)))) a1_4)])] _ (caps := []) (args0 := [(.int .i64 a0), (.agg [(.int .i64 a1_0), (.int .i64 a1_1), (.int .i64 a1_2), (.int .i64 a1_3), (.tree (.pair .int (.pair .int (.pair .int (.pair .int .int)))) a1_4)])]) trivial (by kernel_rfl) (by kernel_rfl) (by kernel_rfl) (by kernel_rfl) (ok_spec_cmGood h4) hb_spec_cmGood (by kernel_rfl) ?_
  refine rs0 (.bool (!y4)) (by kernel_rfl) ?_
  refine rnil (tn_ ?_)
  rcases cond_some h with ⟨q5, h⟩ | ⟨q5, h⟩
  · refine awp_condT_ q5 (by kernel_rfl) ?_
    refine awp_seq_ ?_
    refine awp_region_ 11 (by kernel_rfl) ?_
    refine rs0 (.agg [(.int .i64 0), (.int .i64 0), (.int .i64 0), (.int .i64 0), .nils]) (by kernel_rfl) ?_
    refine rsn2 (4, 2) (4, 2) (.cells 29 [(.int .i64 0), (.int .i64 0), (.int .i64 0), (.int .i64 0), .nils]) (by kernel_rfl) ?_
    refine rs0 (.bool false) (by kernel_rfl) ?_
    refine rnil (tn_ ?_)
    refine awp_ret_ (tr_ ?_)
    obtain rfl := Option.some.inj h
    exact ret_ [(.agg [(.int .i64 0), (.int .i64 0), (.int .i64 0), (.int .i64 0), .nils]), (.bool false)] (by simp) (by kernel_rfl) (p_agg (l_cons (l_sc (by kernel_rfl)) (l_cons (l_sc (by kernel_rfl)) (l_cons (l_sc (by kernel_rfl)) (l_cons (l_sc (by kernel_rfl)) (l_cons (l_nils rfl) l_nil))))) (p_one rfl (l_sc (by kernel_rfl)) p_nil)) (by kernel_rfl) (by kernel_rfl)
  · refine awp_condF_ q5 (by kernel_rfl) ?_
    refine awp_skip_ (tn_ ?_)
    refine awp_seq_ ?_
    obtain ⟨g8, h⟩ := og_some h
    refine awp_region_ 13 (by kernel_rfl) ?_
    refine rs1 (.own (16, 8) (.pair .int (.pair .int (.pair .int (.pair .int .int)))) 0 0) (16, 8) (.arr 69 (.pair .int (.pair .int (.pair .int (.pair .int .int)))) []) (by kernel_rfl) ?_
    refine rs0 (.box (3, 1) 4) (by kernel_rfl) ?_
    refine rsl (.tree (.pair .int (.pair .int (.pair .int (.pair .int .int)))) a1_4) (by kernel_rfl) ?_
    refine rs2 (.own (16, 11) (.pair .int (.pair .int (.pair .int (.pair .int .int)))) 0 a1_4.length) (16, 8) (16, 11) (.arr 69 (.pair .int (.pair .int (.pair .int (.pair .int .int)))) a1_4) (s_appO (t := (.pair .int (.pair .int (.pair .int (.pair .int .int))))) (t' := (.pair .int (.pair .int (.pair .int (.pair .int .int))))) (xs := []) (ys := a1_4) (zs := a1_4) (j := (16, 8)) (len := 0) (c := (.tree (.pair .int (.pair .int (.pair .int (.pair .int .int)))) a1_4)) (by kernel_rfl) (by kernel_rfl) rfl (by kernel_rfl) sr_tree rfl g8) ?_
    refine rs0 (.own (16, 11) (.pair .int (.pair .int (.pair .int (.pair .int .int)))) 0 a1_4.length) (by kernel_rfl) ?_
    refine rnil (tn_ ?_)
    refine awp_seqB h (fun (l9_m6 : List (Int × Int × Int × Int × Int)) S_ => S_ = ⟨mkTm [(3, (.box (0, 1) 0)), (4, (.box (1, 1) 0)), (6, (.own (2, 1) (.pair .int (.pair .int (.pair .int (.pair .int .int)))) 0 l9_m6.length))], mkOb (someL [((0, 1), .cells 29 [(.int .i64 a1_0), (.int .i64 a1_1), (.int .i64 a1_2), (.int .i64 a1_3), (.tree (.pair .int (.pair .int (.pair .int (.pair .int .int)))) a1_4)]), ((1, 1), .cells 29 [(.int .i64 0), (.int .i64 0), (.int .i64 0), (.int .i64 0), .nils]), ((2, 1), .arr 69 (.pair .int (.pair .int (.pair .int (.pair .int .int)))) l9_m6)]), 2⟩) ?_ ?_
    · intro v_ h
      refine awp_seq_ ?_
      refine awp_region_ 14 (by kernel_rfl) ?_
      refine rs0 (.bool true) (by kernel_rfl) ?_
      refine rnil (tn_ ?_)
      refine awp_block_ ?_
      refine awp_loopL h (fun t_ S_ => ∃ (l11_m7 : Bool), ∃ (l11_m6 : List (Int × Int × Int × Int × Int)), t_ = (l11_m7, l11_m6) ∧ S_ = ⟨mkTm [(3, (.box (0, 1) 0)), (4, (.box (1, 1) 0)), (6, (.own (2, 1) (.pair .int (.pair .int (.pair .int (.pair .int .int)))) 0 l11_m6.length)), (7, (.bool l11_m7))], mkOb (someL [((0, 1), .cells 29 [(.int .i64 a1_0), (.int .i64 a1_1), (.int .i64 a1_2), (.int .i64 a1_3), (.tree (.pair .int (.pair .int (.pair .int (.pair .int .int)))) a1_4)]), ((1, 1), .cells 29 [(.int .i64 0), (.int .i64 0), (.int .i64 0), (.int .i64 0), .nils]), ((2, 1), .arr 69 (.pair .int (.pair .int (.pair .int (.pair .int .int)))) l11_m6)]), 2⟩) ⟨_, (weak_ren (renF [((0, 1), (3, 1)), ((1, 1), (4, 2)), ((2, 1), (16, 11))]) (by kernel_rfl) (by kernel_rfl) (by kernel_rfl)), ⟨true, a1_4, rfl, rfl⟩⟩ ?_
      · rintro n_ _ _ c_ ⟨l11_m7, l11_m6, rfl, rfl⟩ h hn11
        (try dsimp only at h)
        unfold L_spec_DropDead_l1 at h
        unfold m_spec_DropDead_l1
        refine awp_seq_ ?_
        refine awp_seq_ ?_
        refine awp_region_ 3 (by kernel_rfl) ?_
        refine rs0 (.bool l11_m7) (by kernel_rfl) ?_
        refine rnil (tn_ ?_)
        rcases cond_some h with ⟨q14, h⟩ | ⟨q14, h⟩
        · refine awp_condT_ q14 (by kernel_rfl) ?_
          refine awp_skip_ (tn_ ?_)
          refine awp_block_ ?_
          refine awp_seq_ ?_
          refine awp_region_ 4 (by kernel_rfl) ?_
          refine rs0 (.bool false) (by kernel_rfl) ?_
          refine rnil (tn_ ?_)
          refine awp_seq_ ?_
          refine awp_region_ 5 (by kernel_rfl) ?_
          refine rs0 .nils (by kernel_rfl) ?_
          refine rnil (tn_ ?_)
          refine awp_seqB h (fun t_ S_ => ∃ (l17_m7 : Bool), ∃ (l17_m8 : List (Int × Int × Int × Int × Int)), t_ = (l17_m7, l17_m8) ∧ S_ = ⟨mkTm [(3, (.box (0, 1) 0)), (4, (.box (1, 1) 0)), (7, (.bool l17_m7)), (8, (.own (2, 1) (.pair .int (.pair .int (.pair .int (.pair .int .int)))) 0 l17_m8.length))], mkOb (someL [((0, 1), .cells 29 [(.int .i64 a1_0), (.int .i64 a1_1), (.int .i64 a1_2), (.int .i64 a1_3), (.tree (.pair .int (.pair .int (.pair .int (.pair .int .int)))) a1_4)]), ((1, 1), .cells 29 [(.int .i64 0), (.int .i64 0), (.int .i64 0), (.int .i64 0), .nils]), ((2, 1), .arr 69 (.pair .int (.pair .int (.pair .int (.pair .int .int)))) l17_m8)]), 2⟩) ?_ ?_
          · intro v_ h
            refine awp_seq_ ?_
            refine awp_region_ 8 (by kernel_rfl) ?_
            refine rs0 (.own (2, 1) (.pair .int (.pair .int (.pair .int (.pair .int .int)))) 0 l11_m6.length) (by kernel_rfl) ?_
            refine rs0 (.int .i64 ((l11_m6.length : Nat) : Int)) (by kernel_rfl) ?_
            refine rs0 (.int .i64 0) (by kernel_rfl) ?_
            refine rnil (tn_ ?_)
            refine awp_block_ ?_
            refine awp_loopL h (fun t_ S_ => ∃ (l19_m7 : Bool), ∃ (l19_m23 : Nat), ∃ (l19_m8 : List (Int × Int × Int × Int × Int)), t_ = (l19_m7, l19_m23, l19_m8) ∧ S_ = ⟨mkTm [(3, (.box (0, 1) 0)), (4, (.box (1, 1) 0)), (6, (.own (2, 1) (.pair .int (.pair .int (.pair .int (.pair .int .int)))) 0 l11_m6.length)), (7, (.bool l19_m7)), (8, (.own (3, 1) (.pair .int (.pair .int (.pair .int (.pair .int .int)))) 0 l19_m8.length)), (21, (.own (2, 1) (.pair .int (.pair .int (.pair .int (.pair .int .int)))) 0 l11_m6.length)), (22, (.int .i64 ((l11_m6.length : Nat) : Int))), (23, (.int .i64 ((l19_m23 : Nat) : Int)))], mkOb (someL [((0, 1), .cells 29 [(.int .i64 a1_0), (.int .i64 a1_1), (.int .i64 a1_2), (.int .i64 a1_3), (.tree (.pair .int (.pair .int (.pair .int (.pair .int .int)))) a1_4)]), ((1, 1), .cells 29 [(.int .i64 0), (.int .i64 0), (.int .i64 0), (.int .i64 0), .nils]), ((2, 1), .arr 69 (.pair .int (.pair .int (.pair .int (.pair .int .int)))) l11_m6), ((3, 1), .arr 69 (.pair .int (.pair .int (.pair .int (.pair .int .int)))) l19_m8)]), 2⟩) ⟨_, ((weak_nil_ 8 69 (.pair .int (.pair .int (.pair .int (.pair .int .int)))) rfl (by kernel_rfl)).trans (weak_ren (renF [((3, 1), (8, 8))]) (by kernel_rfl) (by kernel_rfl) (by kernel_rfl))), ⟨false, 0, [], rfl, rfl⟩⟩ ?_
            · rintro n_ _ _ c_ ⟨l19_m7, l19_m23, l19_m8, rfl, rfl⟩ h hn19
              (try dsimp only at h)
              unfold L_spec_DropDead_l2 at h
              unfold m_spec_DropDead_l2
              refine awp_seq_ ?_
              refine awp_region_ 3 (by kernel_rfl) ?_
              refine rs0 (.bool (decide (((l19_m23 : Nat) : Int) < ((l11_m6.length : Nat) : Int)))) (by kernel_rfl) ?_
              refine rnil (tn_ ?_)
              refine awp_seq_ ?_
              rcases cond_some h with ⟨q22, h⟩ | ⟨q22, h⟩
              · have q22_ := of_decide_eq_true q22
                refine awp_condT_ q22 (by kernel_rfl) ?_
                refine awp_skip_ (tn_ ?_)
                refine awp_seqB h (fun t_ S_ => ∃ (l23_m7 : Bool), ∃ (l23_m8 : List (Int × Int × Int × Int × Int)), t_ = (l23_m7, l23_m8) ∧ S_ = ⟨mkTm [(3, (.box (0, 1) 0)), (4, (.box (1, 1) 0)), (6, (.own (2, 1) (.pair .int (.pair .int (.pair .int (.pair .int .int)))) 0 l11_m6.length)), (7, (.bool l23_m7)), (8, (.own (3, 1) (.pair .int (.pair .int (.pair .int (.pair .int .int)))) 0 l23_m8.length)), (21, (.own (2, 1) (.pair .int (.pair .int (.pair .int (.pair .int .int)))) 0 l11_m6.length)), (22, (.int .i64 ((l11_m6.length : Nat) : Int))), (23, (.int .i64 ((l19_m23 : Nat) : Int)))], mkOb (someL [((0, 1), .cells 29 [(.int .i64 a1_0), (.int .i64 a1_1), (.int .i64 a1_2), (.int .i64 a1_3), (.tree (.pair .int (.pair .int (.pair .int (.pair .int .int)))) a1_4)]), ((1, 1), .cells 29 [(.int .i64 0), (.int .i64 0), (.int .i64 0), (.int .i64 0), .nils]), ((2, 1), .arr 69 (.pair .int (.pair .int (.pair .int (.pair .int .int)))) l11_m6), ((3, 1), .arr 69 (.pair .int (.pair .int (.pair .int (.pair .int .int)))) l23_m8)]), 2⟩) ?_ ?_
                · intro v_ h
                  refine awp_block_ ?_
                  refine awp_seq_ ?_
                  obtain ⟨x25, e25, h⟩ := ob_some h
                  refine awp_region_ 9 (by kernel_rfl) ?_
                  refine rs0 (.int .i64 ((l19_m23 : Nat) : Int)) (by kernel_rfl) ?_
                  refine rs0 (.elt (2, 1) l19_m23 0) (s_idxO (t := (.pair .int (.pair .int (.pair .int (.pair .int .int))))) (o := (2, 1)) (len := l11_m6.length) (k := .i64) (m := ((l19_m23 : Nat) : Int)) (by kernel_rfl) (by kernel_rfl) rfl (nat_nn _) rfl (getN_lt e25)) ?_
                  refine rsl (.agg [(.int .i64 x25.1), (.int .i64 x25.2.1), (.int .i64 x25.2.2.1), (.int .i64 x25.2.2.2.1), (.int .i64 x25.2.2.2.2)]) (s_ldE (i := (2, 1)) (j := l19_m23) (k := 0) (e := 69) (t := (.pair .int (.pair .int (.pair .int (.pair .int .int))))) (xs := l11_m6) (by kernel_rfl) (by kernel_rfl) e25 (by kernel_rfl)) ?_
                  refine rs1 (.box (10, 6) 0) (10, 6) (.cells 69 [(.int .i64 0), (.int .i64 0), (.int .i64 0), (.int .i64 0), (.int .i64 0)]) (by kernel_rfl) ?_
                  refine rs0 (.int .i64 ((l19_m23 : Nat) : Int)) (by kernel_rfl) ?_
                  refine rsn2 (10, 6) (10, 6) (.cells 69 [(.int .i64 x25.1), (.int .i64 x25.2.1), (.int .i64 x25.2.2.1), (.int .i64 x25.2.2.2.1), (.int .i64 x25.2.2.2.2)]) (by kernel_rfl) ?_
                  refine rnil (tn_ ?_)
                  refine awp_seq_ ?_
                  refine awp_seqB h (fun (l27_m39 : Bool) S_ => S_ = ⟨mkTm [(3, (.box (0, 1) 0)), (4, (.box (1, 1) 0)), (6, (.own (2, 1) (.pair .int (.pair .int (.pair .int (.pair .int .int)))) 0 l11_m6.length)), (7, (.bool l19_m7)), (8, (.own (3, 1) (.pair .int (.pair .int (.pair .int (.pair .int .int)))) 0 l19_m8.length)), (10, (.box (4, 1) 0)), (21, (.own (2, 1) (.pair .int (.pair .int (.pair .int (.pair .int .int)))) 0 l11_m6.length)), (22, (.int .i64 ((l11_m6.length : Nat) : Int))), (23, (.int .i64 ((l19_m23 : Nat) : Int))), (39, (.bool l27_m39))], mkOb (someL [((0, 1), .cells 29 [(.int .i64 a1_0), (.int .i64 a1_1), (.int .i64 a1_2), (.int .i64 a1_3), (.tree (.pair .int (.pair .int (.pair .int (.pair .int .int)))) a1_4)]), ((1, 1), .cells 29 [(.int .i64 0), (.int .i64 0), (.int .i64 0), (.int .i64 0), .nils]), ((2, 1), .arr 69 (.pair .int (.pair .int (.pair .int (.pair .int .int)))) l11_m6), ((3, 1), .arr 69 (.pair .int (.pair .int (.pair .int (.pair .int .int)))) l19_m8), ((4, 1), .cells 69 [(.int .i64 x25.1), (.int .i64 x25.2.1), (.int .i64 x25.2.2.1), (.int .i64 x25.2.2.2.1), (.int .i64 x25.2.2.2.2)])]), 2⟩) ?_ ?_
                  · intro v_ h
                    obtain ⟨y28, h28, h⟩ := ob_some h
                    rcases cond_some h with ⟨q29, h⟩ | ⟨q29, h⟩
                    · obtain ⟨g30, h⟩ := og_some h
                      obtain ⟨y31, h31, h⟩ := ob_some h
                      obtain ⟨y32, h32, h⟩ := ob_some h
                      refine awp_regionD_ 21 (by kernel_rfl) ?_
                      refine dsl (.agg [(.int .i64 x25.1), (.int .i64 x25.2.1), (.int .i64 x25.2.2.1), (.int .i64 x25.2.2.2.1), (.int .i64 x25.2.2.2.2)]) (by kernel_rfl) ?_
                      refine dcall (.bool y28) [] [(.agg [(.int .i64 x25.1), (.int .i64 x25.2.1), (.int .i64 x25.2.2.1), (.int .i64 x25.2.2.2.1), (.int .i64 x25.2.2.2.2)])] _ (caps := []) (args0 := [(.agg [(.int .i64 x25.1), (.int .i64 x25.2.1), (.int .i64 x25.2.2.1), (.int .i64 x25.2.2.2.1), (.int .i64 x25.2.2.2.2)])]) trivial (by kernel_rfl) (by kernel_rfl) (by kernel_rfl) (by kernel_rfl) (ok_spec_cmWrites h28) hb_spec_cmWrites (by kernel_rfl) ?_
                      refine ds0 (.bool y28) (by kernel_rfl) ?_
                      refine ds0 (.own (2, 1) (.pair .int (.pair .int (.pair .int (.pair .int .int)))) 0 l11_m6.length) (s_gd (by kernel_rfl) q29 (by kernel_rfl)) ?_
                      refine ds0 (.int .i64 ((l19_m23 : Nat) : Int)) (s_gd (by kernel_rfl) q29 (by kernel_rfl)) ?_
                      refine ds0 (.int .i64 ((l19_m23 + 1 : Nat) : Int)) (s_gd (by kernel_rfl) q29 (s_add1 (j := l19_m23) (by kernel_rfl) (by kernel_rfl) g30)) ?_
                      refine dcall (.own (544, 15) .int 0 y31.length) [((544, 15), some (.arr 3 .int y31))] [(.own (2, 1) (.pair .int (.pair .int (.pair .int (.pair .int .int)))) 0 l11_m6.length), (.int .i64 ((l19_m23 + 1 : Nat) : Int))] _ (caps := []) (args0 := [(.tree (.pair .int (.pair .int (.pair .int (.pair .int .int)))) l11_m6), (.int .i64 ((l19_m23 + 1 : Nat) : Int))]) (gdOK_b (by kernel_rfl) q29) (by kernel_rfl) (by kernel_rfl) (gm_cons (gd_own (e := 69) (by kernel_rfl) rfl) (gm_cons (by kernel_rfl) gm_nil)) (by kernel_rfl) (ok_spec_cmLive h31) hb_spec_cmLive (by kernel_rfl) ?_
                      refine ds0 (.box (10, 6) 1) (s_gd (by kernel_rfl) q29 (by kernel_rfl)) ?_
                      refine dsl (.int .i64 x25.2.1) (s_gd (by kernel_rfl) q29 (by kernel_rfl)) ?_
                      refine dcall (.bool y32) [] [(.own (544, 15) .int 0 y31.length), (.int .i64 x25.2.1)] _ (caps := []) (args0 := [(.tree .int y31), (.int .i64 x25.2.1)]) (gdOK_b (by kernel_rfl) q29) (by kernel_rfl) (by kernel_rfl) (gm_cons (gd_own (e := 3) (by kernel_rfl) rfl) (gm_cons (by kernel_rfl) gm_nil)) (by kernel_rfl) (ok_spec_l1Has h32) hb_spec_l1Has (by kernel_rfl) ?_
                      refine ds0 (.bool (!y32)) (s_gd (by kernel_rfl) q29 (by kernel_rfl)) ?_
                      refine ds0 (.bool (!y32)) (s_pickT (by kernel_rfl) q29) ?_
                      refine dnil (by kernel_rfl) (tn_ ?_)
                      obtain rfl := Option.some.inj h
                      exact ⟨_, (weak_ren (renF [((4, 1), (10, 6))]) (by kernel_rfl) (by kernel_rfl) (by kernel_rfl)), rfl⟩
                    · refine awp_regionD_ 21 (by kernel_rfl) ?_
                      refine dsl (.agg [(.int .i64 x25.1), (.int .i64 x25.2.1), (.int .i64 x25.2.2.1), (.int .i64 x25.2.2.2.1), (.int .i64 x25.2.2.2.2)]) (by kernel_rfl) ?_
                      refine dcall (.bool y28) [] [(.agg [(.int .i64 x25.1), (.int .i64 x25.2.1), (.int .i64 x25.2.2.1), (.int .i64 x25.2.2.2.1), (.int .i64 x25.2.2.2.2)])] _ (caps := []) (args0 := [(.agg [(.int .i64 x25.1), (.int .i64 x25.2.1), (.int .i64 x25.2.2.1), (.int .i64 x25.2.2.2.1), (.int .i64 x25.2.2.2.2)])]) trivial (by kernel_rfl) (by kernel_rfl) (by kernel_rfl) (by kernel_rfl) (ok_spec_cmWrites h28) hb_spec_cmWrites (by kernel_rfl) ?_
                      refine ds0 (.bool y28) (by kernel_rfl) ?_
                      refine ds0 .any (s_skip (by kernel_rfl) q29) ?_
                      refine ds0 .any (s_skip (by kernel_rfl) q29) ?_
                      refine ds0 .any (s_skip (by kernel_rfl) q29) ?_
                      refine ds0 .any (s_skip (by kernel_rfl) q29) ?_
                      refine ds0 .any (s_skip (by kernel_rfl) q29) ?_
                      refine ds0 .any (s_skip (by kernel_rfl) q29) ?_
                      refine ds0 .any (s_skip (by kernel_rfl) q29) ?_
                      refine ds0 .any (s_skip (by kernel_rfl) q29) ?_
                      refine ds0 (.bool false) (s_pickF (by kernel_rfl) q29) ?_
                      refine dnil (by kernel_rfl) (tn_ ?_)
                      obtain rfl := Option.some.inj h
                      exact ⟨_, (weak_ren (renF [((4, 1), (10, 6))]) (by kernel_rfl) (by kernel_rfl) (by kernel_rfl)), rfl⟩
                  · rintro l27_m39 _ rfl h
                    (try dsimp only at h)
                    rcases cond_some h with ⟨q33, h⟩ | ⟨q33, h⟩
                    · refine awp_condT_ q33 (by kernel_rfl) ?_
                      refine awp_seq_ ?_
                      refine awp_region_ 3 (by kernel_rfl) ?_
                      refine rs0 (.bool true) (by kernel_rfl) ?_
                      refine rnil (tn_ ?_)
                      refine awp_exit_ (te_ (be_ (tn_ ?_)))
                      obtain rfl := Option.some.inj h
                      exact ⟨_, (weak_ren (renF []) (by kernel_rfl) (by kernel_rfl) (by kernel_rfl)), ⟨true, l19_m8, rfl, rfl⟩⟩
                    · refine awp_condF_ q33 (by kernel_rfl) ?_
                      refine awp_skip_ (tn_ ?_)
                      obtain ⟨g35, h⟩ := og_some h
                      refine awp_region_ 7 (by kernel_rfl) ?_
                      refine rs0 (.own (3, 1) (.pair .int (.pair .int (.pair .int (.pair .int .int)))) 0 l19_m8.length) (by kernel_rfl) ?_
                      refine rsl (.agg [(.int .i64 x25.1), (.int .i64 x25.2.1), (.int .i64 x25.2.2.1), (.int .i64 x25.2.2.2.1), (.int .i64 x25.2.2.2.2)]) (by kernel_rfl) ?_
                      refine rs1 (.own (42, 4) (.pair .int (.pair .int (.pair .int (.pair .int .int)))) 0 1) (42, 4) (.arr 69 (.pair .int (.pair .int (.pair .int (.pair .int .int)))) ([x25])) (by kernel_rfl) ?_
                      refine rs2 (.own (3, 5) (.pair .int (.pair .int (.pair .int (.pair .int .int)))) 0 ((l19_m8 ++ ([x25])).length)) (3, 1) (3, 5) (.arr 69 (.pair .int (.pair .int (.pair .int (.pair .int .int)))) (l19_m8 ++ ([x25]))) (s_appO (t := (.pair .int (.pair .int (.pair .int (.pair .int .int))))) (t' := (.pair .int (.pair .int (.pair .int (.pair .int .int))))) (xs := l19_m8) (ys := [x25]) (zs := l19_m8 ++ ([x25])) (j := (3, 1)) (len := l19_m8.length) (c := (.own (42, 4) (.pair .int (.pair .int (.pair .int (.pair .int .int)))) 0 1)) (by kernel_rfl) (by kernel_rfl) rfl (by kernel_rfl) (sr_own (e := 69) (by kernel_rfl) rfl) rfl g35) ?_
                      refine rs0 (.own (3, 5) (.pair .int (.pair .int (.pair .int (.pair .int .int)))) 0 ((l19_m8 ++ ([x25])).length)) (by kernel_rfl) ?_
                      refine rnil (bn_ (tn_ ?_))
                      obtain rfl := Option.some.inj h
                      exact ⟨_, (weak_ren (renF [((3, 1), (3, 5))]) (by kernel_rfl) (by kernel_rfl) (by kernel_rfl)), ⟨l19_m7, l19_m8 ++ ([x25]), rfl, rfl⟩⟩
                · rintro _ _ ⟨l23_m7, l23_m8, rfl, rfl⟩ h
                  (try dsimp only at h)
                  obtain ⟨g36, h⟩ := og_some h
                  refine awp_region_ 4 (by kernel_rfl) ?_
                  refine rs0 (.int .i64 ((l19_m23 + 1 : Nat) : Int)) (s_add1 (j := l19_m23) (by kernel_rfl) (by kernel_rfl) g36) ?_
                  refine rs0 (.int .i64 ((l19_m23 + 1 : Nat) : Int)) (by kernel_rfl) ?_
                  refine rnil (tn_ ?_)
                  obtain rfl := Option.some.inj h
                  exact ⟨(l23_m7, l19_m23 + 1, l23_m8), _, (weak_ren (renF []) (by kernel_rfl) (by kernel_rfl) (by kernel_rfl)), ⟨l23_m7, l19_m23 + 1, l23_m8, rfl, rfl⟩, hn19⟩
              · have q22_ := of_decide_eq_false q22
                refine awp_condF_ q22 (by kernel_rfl) ?_
                refine awp_exit_ (te_ (te_ (be_ (tn_ ?_))))
                obtain rfl := Option.some.inj h
                have h := hn19
                (try dsimp only at h)
                obtain rfl := Option.some.inj h
                exact ⟨_, (weak_ren (renF [((2, 1), (3, 1))]) (by kernel_rfl) (by kernel_rfl) (by kernel_rfl)), ⟨l19_m7, l19_m8, rfl, rfl⟩⟩
          · rintro _ _ ⟨l17_m7, l17_m8, rfl, rfl⟩ h
            (try dsimp only at h)
            refine awp_region_ 4 (by kernel_rfl) ?_
            refine rs0 (.own (2, 1) (.pair .int (.pair .int (.pair .int (.pair .int .int)))) 0 l17_m8.length) (by kernel_rfl) ?_
            refine rs0 (.own (2, 1) (.pair .int (.pair .int (.pair .int (.pair .int .int)))) 0 l17_m8.length) (by kernel_rfl) ?_
            refine rnil (bn_ (tn_ ?_))
            obtain rfl := Option.some.inj h
            exact ⟨(l17_m7, l17_m8), _, (weak_ren (renF []) (by kernel_rfl) (by kernel_rfl) (by kernel_rfl)), ⟨l17_m7, l17_m8, rfl, rfl⟩, hn11⟩
        · refine awp_condF_ q14 (by kernel_rfl) ?_
          refine awp_exit_ (te_ (te_ (be_ (tn_ ?_))))
          obtain rfl := Option.some.inj h
          have h := hn11
          (try dsimp only at h)
          obtain rfl := Option.some.inj h
          exact ⟨_, (weak_ren (renF []) (by kernel_rfl) (by kernel_rfl) (by kernel_rfl)), rfl⟩
    · rintro l9_m6 _ rfl h
      (try dsimp only at h)
      refine awp_seq_ ?_
      refine awp_region_ 14 (by kernel_rfl) ?_
      refine rs0 (.box (0, 1) 0) (by kernel_rfl) ?_
      refine rsl (.int .i64 a1_0) (by kernel_rfl) ?_
      refine rs0 (.box (0, 1) 1) (by kernel_rfl) ?_
      refine rsl (.int .i64 a1_1) (by kernel_rfl) ?_
      refine rs0 (.box (0, 1) 2) (by kernel_rfl) ?_
      refine rsl (.int .i64 a1_2) (by kernel_rfl) ?_
      refine rs0 (.box (0, 1) 3) (by kernel_rfl) ?_
      refine rsl (.int .i64 a1_3) (by kernel_rfl) ?_
      refine rs0 (.own (2, 1) (.pair .int (.pair .int (.pair .int (.pair .int .int)))) 0 l9_m6.length) (by kernel_rfl) ?_
      refine rs0 (.agg [(.int .i64 a1_0), (.int .i64 a1_1), (.int .i64 a1_2), (.int .i64 a1_3), (.own (2, 1) (.pair .int (.pair .int (.pair .int (.pair .int .int)))) 0 l9_m6.length)]) (by kernel_rfl) ?_
      refine rsn2 (1, 1) (1, 1) (.cells 29 [(.int .i64 a1_0), (.int .i64 a1_1), (.int .i64 a1_2), (.int .i64 a1_3), (.own (2, 1) (.pair .int (.pair .int (.pair .int (.pair .int .int)))) 0 l9_m6.length)]) (by kernel_rfl) ?_
      refine rs0 (.bool true) (by kernel_rfl) ?_
      refine rnil (tn_ ?_)
      refine awp_ret_ ?_
      obtain rfl := Option.some.inj h
      exact ret_ [(.agg [(.int .i64 a1_0), (.int .i64 a1_1), (.int .i64 a1_2), (.int .i64 a1_3), (.own (2, 1) (.pair .int (.pair .int (.pair .int (.pair .int .int)))) 0 l9_m6.length)]), (.bool true)] (by simp) (by kernel_rfl) (p_agg (l_cons (l_sc (by kernel_rfl)) (l_cons (l_sc (by kernel_rfl)) (l_cons (l_sc (by kernel_rfl)) (l_cons (l_sc (by kernel_rfl)) (l_cons (l_own (by kernel_rfl) rfl) l_nil))))) (p_one rfl (l_sc (by kernel_rfl)) p_nil)) (by kernel_rfl) (by kernel_rfl)
def m_slices_Clone_impl_Instr_impl_Instr : AC :=
  (.seq (.region [⟨(some 2), none, (.i (.mov (.cst .nils)))⟩] false [])
  (.seq (.seq (.region [⟨(some 3), none, (.i (.mov (.tmp 0)))⟩, ⟨(some 4), none, (.i (.cmp false 1 (.tmp 3) (.cst .nils)))⟩] false [])
  (.cond (.tmp 4)
    (.seq (.region [⟨(some 2), none, (.i (.mov (.cst .nils)))⟩] false [])
    .ret)
    .skip))
  (.seq (.region [⟨(some 5), none, (.mkS 69 (.pair .int (.pair .int (.pair .int (.pair .int .int)))) [])⟩, ⟨(some 6), none, (.i (.mov (.tmp 0)))⟩, ⟨(some 7), none, (.append 69 (.pair .int (.pair .int (.pair .int (.pair .int .int)))) 40 (.tmp 5) (.tmp 6))⟩, ⟨(some 2), none, (.i (.mov (.tmp 7)))⟩] false [])
  .ret)))
def r_slices_Clone_impl_Instr_impl_Instr : List Res := [.tmp 2]
theorem c_slices_Clone_impl_Instr_impl_Instr : compiled Tryd.prog Tryd.f48 = some (m_slices_Clone_impl_Instr_impl_Instr, r_slices_Clone_impl_Instr_impl_Instr) := by kernel_rfl
theorem hb_slices_Clone_impl_Instr_impl_Instr : hasBody Tryd.prog 48 = true := by kernel_rfl
def L_slices_Clone_impl_Instr_impl_Instr (a0 : List (Int × Int × Int × Int × Int)) : Option (List (Int × Int × Int × Int × Int)) :=
  og (0 + a0.length ≤ 1073741824 ∧ (0 + a0.length) * 40 ≤ 140737488355328) <|
some a0
def rv_slices_Clone_impl_Instr_impl_Instr (r : List (Int × Int × Int × Int × Int)) : RV := ⟨false, [(false, [.new 69 (.pair .int (.pair .int (.pair .int (.pair .int .int)))) r])]⟩
theorem ok_slices_Clone_impl_Instr_impl_Instr {a0 : List (Int × Int × Int × Int × Int)} {r : List (Int × Int × Int × Int × Int)} (h : L_slices_Clone_impl_Instr_impl_Instr a0 = some r) : CallOK Tryd.prog Tab 48 [(.tree (.pair .int (.pair .int (.pair .int (.pair .int .int)))) a0)] (rv_slices_Clone_impl_Instr_impl_Instr r) := by
  refine call_of_ (by kernel_rfl) Tryd.func48 c_slices_Clone_impl_Instr_impl_Instr (n := 8) (by kernel_rfl) (by simp) (tl := [(0, (.tree (.pair .int (.pair .int (.pair .int (.pair .int .int)))) a0))]) rfl ?_
  unfold m_slices_Clone_impl_Instr_impl_Instr
  unfold L_slices_Clone_impl_Instr_impl_Instr at h
  refine awp_seq_ ?_
  refine awp_region_ 2 (by kernel_rfl) ?_
  refine rs0 .nils (by kernel_rfl) ?_
  refine rnil (tn_ ?_)
  refine awp_seq_ ?_
  refine awp_seq_ ?_
  refine awp_region_ 4 (by kernel_rfl) ?_
  refine rs0 (.tree (.pair .int (.pair .int (.pair .int (.pair .int .int)))) a0) (by kernel_rfl) ?_
  refine rs0 (.abool true a0.length) (by kernel_rfl) ?_
  refine rnil (tn_ ?_)
  refine awp_condA_ (p := true) (n := a0.length) (by kernel_rfl) ?_ ?_
  · intro hz_
    obtain rfl : a0 = [] := List.length_eq_zero_iff.1 (hz_ rfl)
    replace h := swapL (some [] : Option (List (Int × Int × Int × Int × Int))) h (by simp [og])
    refine awp_seq_ ?_
    refine awp_region_ 5 (by kernel_rfl) ?_
    refine rs0 .nils (by kernel_rfl) ?_
    refine rnil (tn_ ?_)
    refine awp_ret_ (tr_ ?_)
    obtain rfl := Option.some.inj h
    exact ret_ [.nils] (by simp) (by kernel_rfl) (p_one rfl (l_nils rfl) p_nil) (by kernel_rfl) (by kernel_rfl)
  · intro _
    refine awp_skip_ (tn_ ?_)
    refine awp_seq_ ?_
    obtain ⟨g6, h⟩ := og_some h
    refine awp_region_ 8 (by kernel_rfl) ?_
    refine rs1 (.own (5, 4) (.pair .int (.pair .int (.pair .int (.pair .int .int)))) 0 0) (5, 4) (.arr 69 (.pair .int (.pair .int (.pair .int (.pair .int .int)))) []) (by kernel_rfl) ?_
    refine rs0 (.tree (.pair .int (.pair .int (.pair .int (.pair .int .int)))) a0) (by kernel_rfl) ?_
    refine rs2 (.own (5, 6) (.pair .int (.pair .int (.pair .int (.pair .int .int)))) 0 a0.length) (5, 4) (5, 6) (.arr 69 (.pair .int (.pair .int (.pair .int (.pair .int .int)))) a0) (s_appO (t := (.pair .int (.pair .int (.pair .int (.pair .int .int))))) (t' := (.pair .int (.pair .int (.pair .int (.pair .int .int))))) (xs := []) (ys := a0) (zs := a0) (j := (5, 4)) (len := 0) (c := (.tree (.pair .int (.pair .int (.pair .int (.pair .int .int)))) a0)) (by kernel_rfl) (by kernel_rfl) rfl (by kernel_rfl) sr_tree rfl g6) ?_
    refine rs0 (.own (5, 6) (.pair .int (.pair .int (.pair .int (.pair .int .int)))) 0 a0.length) (by kernel_rfl) ?_
    refine rnil (tn_ ?_)
    refine awp_ret_ ?_
    obtain rfl := Option.some.inj h
    exact ret_ [(.own (5, 6) (.pair .int (.pair .int (.pair .int (.pair .int .int)))) 0 a0.length)] (by simp) (by kernel_rfl) (p_one rfl (l_own (by kernel_rfl) rfl) p_nil) (by kernel_rfl) (by kernel_rfl)
def m_impl_DropDead_l2 : AC :=
  (.seq (.region [⟨(some 28), none, (.i (.bin .lss (.tmp 27) (.tmp 26)))⟩] false [])
  (.seq (.cond (.tmp 28)
    .skip
    (.exit 2))
  (.seq (.block 3 (.seq (.region [⟨(some 29), none, (.i (.mov (.tmp 27)))⟩, ⟨(some 30), none, (.i (.idx 5 (.tmp 25) (.tmp 27)))⟩, ⟨(some 31), none, (.i (.ld false 5 (.tmp 30)))⟩, ⟨(some 10), none, (.i (.alloc 69 [(.int .i64 0), (.int .i64 0), (.int .i64 0), (.int .i64 0), (.int .i64 0)]))⟩, ⟨(some 9), none, (.i (.mov (.tmp 29)))⟩, ⟨none, none, (.st false 5 (.tmp 10) (.tmp 31))⟩] false [])
  (.seq (.region [⟨(some 32), none, (.i (.ld false 5 (.tmp 10)))⟩, ⟨(some 33), none, (.call (.cst (.fn 49 [])) [(.tmp 32)] [[none, none, none, none, none]])⟩, ⟨(some 34), none, (.i (.not (.tmp 33)))⟩, ⟨(some 35), none, (.i (.mov (.tmp 34)))⟩, ⟨(some 36), (some (35, false)), (.i (.mov (.tmp 7)))⟩, ⟨(some 37), (some (35, false)), (.i (.mov (.tmp 9)))⟩, ⟨(some 38), (some (35, false)), (.i (.bin .add (.tmp 37) (.cst (.int .i64 1))))⟩, ⟨(some 39), (some (35, false)), (.i (.fld 1 (.tmp 10)))⟩, ⟨(some 40), (some (35, false)), (.i (.ld true 1 (.tmp 39)))⟩, ⟨(some 41), (some (35, false)), (.i (.idx 16 (.tmp 36) (.tmp 38)))⟩, ⟨(some 42), (some (35, false)), (.i (.idxA 59 16 (.tmp 41) (.tmp 40)))⟩, ⟨(some 43), (some (35, false)), (.i (.ld true 1 (.tmp 42)))⟩, ⟨(some 44), (some (35, false)), (.i (.bin .eql (.tmp 43) (.cst (.int .i64 1))))⟩, ⟨(some 45), none, (.i (.pick (.tmp 35) (.cst (.bool true)) (.tmp 44)))⟩] true [])
  (.cond (.tmp 45)
    (.region [⟨(some 46), none, (.i (.mov (.tmp 8)))⟩, ⟨(some 47), none, (.i (.ld false 5 (.tmp 10)))⟩, ⟨(some 48), none, (.mkS 69 (.pair .int (.pair .int (.pair .int (.pair .int .int)))) [(.tmp 47)])⟩, ⟨(some 49), none, (.append 69 (.pair .int (.pair .int (.pair .int (.pair .int .int)))) 40 (.tmp 46) (.tmp 48))⟩, ⟨(some 8), none, (.i (.mov (.tmp 49)))⟩] false [])
    .skip))))
  (.region [⟨(some 50), none, (.i (.bin .add (.tmp 27) (.cst (.int .i64 1))))⟩, ⟨(some 27), none, (.i (.mov (.tmp 50)))⟩] false []))))
def m_impl_DropDead_l1 : AC :=
  (.block 1 (.seq (.region [⟨(some 21), none, (.i (.ld false 5 (.tmp 6)))⟩, ⟨(some 22), none, (.call (.cst (.fn 40 [])) [(.tmp 21)] [[none, none, none, none, (some (.pair .int (.pair .int (.pair .int (.pair .int .int)))))]])⟩, ⟨(some 7), none, (.i (.mov (.tmp 22)))⟩] false [])
  (.seq (.region [⟨(some 23), none, (.mkS 69 (.pair .int (.pair .int (.pair .int (.pair .int .int)))) [])⟩, ⟨(some 8), none, (.i (.mov (.tmp 23)))⟩] false [])
  (.seq (.seq (.region [⟨(some 24), none, (.i (.fld 4 (.tmp 6)))⟩, ⟨(some 25), none, (.i (.ld true 1 (.tmp 24)))⟩, ⟨(some 26), none, (.i (.len (.tmp 25)))⟩, ⟨(some 27), none, (.i (.mov (.cst (.int .i64 0))))⟩] false [])
  (.block 2 (.loop m_impl_DropDead_l2)))
  (.seq (.seq (.region [⟨(some 51), none, (.i (.mov (.tmp 8)))⟩, ⟨(some 52), none, (.i (.len (.tmp 51)))⟩, ⟨(some 53), none, (.i (.fld 4 (.tmp 6)))⟩, ⟨(some 54), none, (.i (.ld true 1 (.tmp 53)))⟩, ⟨(some 55), none, (.i (.len (.tmp 54)))⟩, ⟨(some 56), none, (.i (.bin .eql (.tmp 52) (.tmp 55)))⟩] false [])
  (.cond (.tmp 56)
    (.seq (.region [⟨(some 57), none, (.i (.ld false 5 (.tmp 6)))⟩, ⟨none, none, (.st false 5 (.tmp 4) (.tmp 57))⟩, ⟨(some 5), none, (.i (.mov (.cst (.bool true))))⟩] false [])
    .ret)
    .skip))
  (.region [⟨(some 58), none, (.i (.mov (.tmp 8)))⟩, ⟨(some 59), none, (.i (.fld 4 (.tmp 6)))⟩, ⟨none, none, (.st true 1 (.tmp 59) (.tmp 58))⟩] false []))))))
def m_impl_DropDead : AC :=
  (.seq (.region [⟨(some 3), none, (.i (.box 29 (.tmp 1)))⟩, ⟨(some 4), none, (.i (.alloc 29 [(.int .i64 0), (.int .i64 0), (.int .i64 0), (.int .i64 0), .nils]))⟩, ⟨(some 5), none, (.i (.mov (.cst (.bool false))))⟩] false [])
  (.seq (.seq (.region [⟨(some 11), none, (.i (.mov (.tmp 0)))⟩, ⟨(some 12), none, (.i (.ld false 5 (.tmp 3)))⟩, ⟨(some 13), none, (.call (.cst (.fn 35 [])) [(.tmp 11), (.tmp 12)] [[], [none, none, none, none, (some (.pair .int (.pair .int (.pair .int (.pair .int .int)))))]])⟩, ⟨(some 14), none, (.i (.not (.tmp 13)))⟩] false [])
  (.cond (.tmp 14)
    (.seq (.region [⟨(some 15), none, (.build [(.int .i64 0), (.int .i64 0), (.int .i64 0), (.int .i64 0), .nils] [])⟩, ⟨none, none, (.st false 5 (.tmp 4) (.tmp 15))⟩, ⟨(some 5), none, (.i (.mov (.cst (.bool false))))⟩] false [])
    .ret)
    .skip))
  (.seq (.region [⟨(some 16), none, (.i (.ld false 5 (.tmp 3)))⟩, ⟨(some 6), none, (.i (.alloc 29 [(.int .i64 0), (.int .i64 0), (.int .i64 0), (.int .i64 0), .nils]))⟩, ⟨none, none, (.st false 5 (.tmp 6) (.tmp 16))⟩] false [])
  (.seq (.region [⟨(some 17), none, (.i (.fld 4 (.tmp 3)))⟩, ⟨(some 18), none, (.i (.ld true 1 (.tmp 17)))⟩, ⟨(some 19), none, (.call (.cst (.fn 48 [])) [(.tmp 18)] [[(some (.pair .int (.pair .int (.pair .int (.pair .int .int)))))]])⟩, ⟨(some 20), none, (.i (.fld 4 (.tmp 6)))⟩, ⟨none, none, (.st true 1 (.tmp 20) (.tmp 19))⟩] false [])
  (.block 0 (.loop m_impl_DropDead_l1))))))
def r_impl_DropDead : List Res := [.cell 4 false 5, .tmp 5]
theorem c_impl_DropDead : compiled Tryd.prog Tryd.f23 = some (m_impl_DropDead, r_impl_DropDead) := by kernel_rfl
theorem hb_impl_DropDead : hasBody Tryd.prog 23 = true := by kernel_rfl
def L_impl_DropDead_l2 (l10_m6_4 : List (Int × Int × Int × Int × Int)) (y12 : List (List Int)) (l16_m27 : Nat) (l16_m8 : List (Int × Int × Int × Int × Int)) : Option (Ctl (Nat × (List (Int × Int × Int × Int × Int))) (List (Int × Int × Int × Int × Int))) :=
  cond (decide (((l16_m27 : Nat) : Int) < ((l10_m6_4.length : Nat) : Int)))
  (Option.bind (Option.bind (l10_m6_4[l16_m27]?) fun x22 =>
    Option.bind (Option.bind (L_impl_Instr_writes x22.1 x22.2.1 x22.2.2.1 x22.2.2.2.1 x22.2.2.2.2) fun y24 =>
      cond (!y24)
        (some true)
        (og (l16_m27 + 1 < 4611686018427387904) <|
        Option.bind (y12[l16_m27 + 1]?) fun x27 =>
        og (0 ≤ x22.2.1 ∧ x22.2.1 < ((16 : Nat) : Int)) <|
        Option.bind (getI x27 x22.2.1) fun x29 =>
        some (x29 == 1))) fun l23_m45 =>
    cond l23_m45
      (og (l16_m8.length + 1 ≤ 1073741824 ∧ (l16_m8.length + 1) * 40 ≤ 140737488355328) <|
      some (l16_m8 ++ ([x22])))
      (some l16_m8)) fun l20_m8 =>
  og (l16_m27 + 1 < 4611686018427387904) <|
  some (Ctl.next (l16_m27 + 1, l20_m8)))
  (some (Ctl.out l16_m8))
def L_impl_DropDead_l1 (a1_0 : Int) (a1_1 : Int) (a1_2 : Int) (a1_3 : Int) (l10_m6_4 : List (Int × Int × Int × Int × Int)) : Option (Ctl (List (Int × Int × Int × Int × Int)) (Int × Int × Int × Int × (List (Int × Int × Int × Int × Int)) × Bool)) :=
  Option.bind (L_impl_Program_live a1_0 a1_1 a1_2 a1_3 l10_m6_4) fun y12 =>
Option.bind (loopM (fun s_ : Nat × (List (Int × Int × Int × Int × Int)) => L_impl_DropDead_l2 l10_m6_4 y12 s_.1 s_.2) 4611686018427387904 (0, [])) fun l14_m8 =>
cond (((l14_m8.length : Nat) : Int) == ((l10_m6_4.length : Nat) : Int))
  (some (Ctl.out (a1_0, a1_1, a1_2, a1_3, l10_m6_4, true)))
  (some (Ctl.next l14_m8))
def L_impl_DropDead (a0 : Int) (a1_0 : Int) (a1_1 : Int) (a1_2 : Int) (a1_3 : Int) (a1_4 : List (Int × Int × Int × Int × Int)) : Option (Int × Int × Int × Int × (List (Int × Int × Int × Int × Int)) × Bool) :=
  Option.bind (L_impl_isProgram a0 a1_0 a1_1 a1_2 a1_3 a1_4) fun y4 =>
cond (!y4)
  (some (0, 0, 0, 0, [], false))
  (Option.bind (L_slices_Clone_impl_Instr_impl_Instr a1_4) fun y9 =>
  loopM (fun s_ : List (Int × Int × Int × Int × Int) => L_impl_DropDead_l1 a1_0 a1_1 a1_2 a1_3 s_) 4611686018427387904 y9)
def rv_impl_DropDead (r : Int × Int × Int × Int × (List (Int × Int × Int × Int × Int)) × Bool) : RV := ⟨true, [(true, [.sc (.int .i64 r.1), .sc (.int .i64 r.2.1), .sc (.int .i64 r.2.2.1), .sc (.int .i64 r.2.2.2.1), .new 69 (.pair .int (.pair .int (.pair .int (.pair .int .int)))) r.2.2.2.2.1]), (false, [.sc (.bool r.2.2.2.2.2)])]⟩
theorem ok_impl_DropDead {a0 : Int} {a1_0 : Int} {a1_1 : Int} {a1_2 : Int} {a1_3 : Int} {a1_4 : List (Int × Int × Int × Int × Int)} {r : Int × Int × Int × Int × (List (Int × Int × Int × Int × Int)) × Bool} (h : L_impl_DropDead a0 a1_0 a1_1 a1_2 a1_3 a1_4 = some r) : CallOK Tryd.prog Tab 23 [(.int .i64 a0), (.agg [(.int .i64 a1_0), (.int .i64 a1_1), (.int .i64 a1_2), (.int .i64 a1_3), (.tree (.pair .int (.pair .int (.pair .int (.pair .int .int)))) a1_4)])] (rv_impl_DropDead r) := by
  refine call_of_ (by kernel_rfl) Tryd.func23 c_impl_DropDead (n := 60) (by kernel_rfl) (by simp) (tl := [(0, (.int .i64 a0)), (1, (.agg [(.int .i64 a1_0), (.int .i64 a1_1), (.int .i64 a1_2), (.int .i64 a1_3), (.tree (.pair .int (.pair .int (.pair .int (.pair .int .int)))) a1_4)]))]) rfl ?_
  unfold m_impl_DropDead
  unfold L_impl_DropDead at h
  refine awp_seq_ ?_
  refine awp_region_ 4 (by kernel_rfl) ?_
  refine rs1 (.box (3, 1) 0) (3, 1) (.cells 29 [(.int .i64 a1_0), (.int .i64 a1_1), (.int .i64 a1_2), (.int .i64 a1_3), (.tree (.pair .int (.pair .int (.pair .int (.pair .int .int)))) a1_4)]) (by kernel_rfl) ?_
  refine rs1 (.box (4, 2) 0) (4, 2) (.cells 29 [(.int .i64 0), (.int .i64 0), (.int .i64 0), (.int .i64 0), .nils]) (by kernel_rfl) ?_
  refine rs0 (.bool false) (by kernel_rfl) ?_
  refine rnil (tn_ ?_)
  refine awp_seq_ ?_
  refine awp_seq_ ?_
  obtain ⟨y4, h4, h⟩ := ob_some h
  refine awp_region_ 8 (by kernel_rfl) ?_
  refine rs0 (.int .i64 a0) (by kernel_rfl) ?_
  refine rsl (.agg [(.int .i64 a1_0), (.int .i64 a1_1), (.int .i64 a1_2), (.int .i64 a1_3), (.tree (.pair .int (.pair .int (.pair .int (.pair .int .int)))) a1_4)]) (by kernel_rfl) ?_
  refine rcall (.bool y4) [] [(.int .i64 a0), (.agg [(.int .i64 a1_0), (.int .i64 a1_1), (.int .i64 a1_2), (.int .i64 a1_3), (.tree (.pair .int (.pair .int (.pair .int (.pair .int .int)))) a1_4)])] _ (caps := []) (args0 := [(.int .i64 a0), (.agg [(.int .i64 a1_0), (.int .i64 a1_1), (.int .i64 a1_2), (.int .i64 a1_3), (.tree (.pair .int (.pair .int (.pair .int (.pair .int .int)))) a1_4)])]) trivial (by kernel_rfl) (by kernel_rfl) (by kernel_rfl) (by kernel_rfl) (ok_impl_isProgram h4) hb_impl_isProgram (by kernel_rfl) ?_
  refine rs0 (.bool (!y4)) (by kernel_rfl) ?_
  refine rnil (tn_ ?_)
  rcases cond_some h with ⟨q5, h⟩ | ⟨q5, h⟩
  · refine awp_condT_ q5 (by kernel_rfl) ?_
    refine awp_seq_ ?_
    refine awp_region_ 11 (by kernel_rfl) ?_
    refine rs0 (.agg [(.int .i64 0), (.int .i64 0), (.int .i64 0), (.int .i64 0), .nils]) (by kernel_rfl) ?_
    refine rsn2 (4, 2) (4, 2) (.cells 29 [(.int .i64 0), (.int .i64 0), (.int .i64 0), (.int .i64 0), .nils]) (by kernel_rfl) ?_
    refine rs0 (.bool false) (by kernel_rfl) ?_
    refine rnil (tn_ ?_)
    refine awp_ret_ (tr_ ?_)
    obtain rfl := Option.some.inj h
    exact ret_ [(.agg [(.int .i64 0), (.int .i64 0), (.int .i64 0), (.int .i64 0), .nils]), (.bool false)] (by simp) (by kernel_rfl) (p_agg (l_cons (l_sc (by kernel_rfl)) (l_cons (l_sc (by kernel_rfl)) (l_cons (l_sc (by kernel_rfl)) (l_cons (l_sc (by kernel_rfl)) (l_cons (l_nils rfl) l_nil))))) (p_one rfl (l_sc (by kernel_rfl)) p_nil)) (by kernel_rfl) (by kernel_rfl)
  · refine awp_condF_ q5 (by kernel_rfl) ?_
    refine awp_skip_ (tn_ ?_)
    refine awp_seq_ ?_
    refine awp_region_ 11 (by kernel_rfl) ?_
    refine rsl (.agg [(.int .i64 a1_0), (.int .i64 a1_1), (.int .i64 a1_2), (.int .i64 a1_3), (.tree (.pair .int (.pair .int (.pair .int (.pair .int .int)))) a1_4)]) (by kernel_rfl) ?_
    refine rs1 (.box (6, 9) 0) (6, 9) (.cells 29 [(.int .i64 0), (.int .i64 0), (.int .i64 0), (.int .i64 0), .nils]) (by kernel_rfl) ?_
    refine rsn2 (6, 9) (6, 9) (.cells 29 [(.int .i64 a1_0), (.int .i64 a1_1), (.int .i64 a1_2), (.int .i64 a1_3), (.tree (.pair .int (.pair .int (.pair .int (.pair .int .int)))) a1_4)]) (by kernel_rfl) ?_
    refine rnil (tn_ ?_)
    refine awp_seq_ ?_
    obtain ⟨y9, h9, h⟩ := ob_some h
    refine awp_region_ 16 (by kernel_rfl) ?_
    refine rs0 (.box (3, 1) 4) (by kernel_rfl) ?_
    refine rsl (.tree (.pair .int (.pair .int (.pair .int (.pair .int .int)))) a1_4) (by kernel_rfl) ?_
    refine rcall (.own (304, 13) (.pair .int (.pair .int (.pair .int (.pair .int .int)))) 0 y9.length) [((304, 13), some (.arr 69 (.pair .int (.pair .int (.pair .int (.pair .int .int)))) y9))] [(.tree (.pair .int (.pair .int (.pair .int (.pair .int .int)))) a1_4)] _ (caps := []) (args0 := [(.tree (.pair .int (.pair .int (.pair .int (.pair .int .int)))) a1_4)]) trivial (by kernel_rfl) (by kernel_rfl) (by kernel_rfl) (by kernel_rfl) (ok_slices_Clone_impl_Instr_impl_Instr h9) hb_slices_Clone_impl_Instr_impl_Instr (by kernel_rfl) ?_
    refine rs0 (.box (6, 9) 4) (by kernel_rfl) ?_
    refine rsn2 (6, 9) (6, 9) (.cells 29 [(.int .i64 a1_0), (.int .i64 a1_1), (.int .i64 a1_2), (.int .i64 a1_3), (.own (304, 13) (.pair .int (.pair .int (.pair .int (.pair .int .int)))) 0 y9.length)]) (by kernel_rfl) ?_
    refine rnil (tn_ ?_)
    refine awp_block_ ?_
    refine awp_loopL h (fun (l10_m6_4 : List (Int × Int × Int × Int × Int)) S_ => S_ = ⟨mkTm [(4, (.box (0, 1) 0)), (6, (.box (1, 1) 0))], mkOb (someL [((0, 1), .cells 29 [(.int .i64 0), (.int .i64 0), (.int .i64 0), (.int .i64 0), .nils]), ((1, 1), .cells 29 [(.int .i64 a1_0), (.int .i64 a1_1), (.int .i64 a1_2), (.int .i64 a1_3), (.own (2, 1) (.pair .int (.pair .int (.pair .int (.pair .int .int)))) 0 l10_m6_4.length)]), ((2, 1), .arr 69 (.pair .int (.pair .int (.pair .int (.pair .int .int)))) l10_m6_4)]), 2⟩) ⟨_, (weak_ren (renF [((0, 1), (4, 2)), ((1, 1), (6, 9)), ((2, 1), (304, 13))]) (by kernel_rfl) (by kernel_rfl) (by kernel_rfl)), rfl⟩ ?_
    · rintro n_ l10_m6_4 _ c_ rfl h hn10
      (try dsimp only at h)
      unfold L_impl_DropDead_l1 at h
      unfold m_impl_DropDead_l1
      refine awp_block_ ?_
      refine awp_seq_ ?_
      obtain ⟨y12, h12, h⟩ := ob_some h
      refine awp_region_ 5 (by kernel_rfl) ?_
      refine rsl (.agg [(.int .i64 a1_0), (.int .i64 a1_1), (.int .i64 a1_2), (.int .i64 a1_3), (.own (2, 1) (.pair .int (.pair .int (.pair .int (.pair .int .int)))) 0 l10_m6_4.length)]) (by kernel_rfl) ?_
      refine rcall (.own (352, 3) (tyA 15) 0 ((y12.map (tupA 15)).length)) [((352, 3), some (.arr 59 (tyA 15) (y12.map (tupA 15))))] [(.agg [(.int .i64 a1_0), (.int .i64 a1_1), (.int .i64 a1_2), (.int .i64 a1_3), (.own (2, 1) (.pair .int (.pair .int (.pair .int (.pair .int .int)))) 0 l10_m6_4.length)])] _ (caps := []) (args0 := [(.agg [(.int .i64 a1_0), (.int .i64 a1_1), (.int .i64 a1_2), (.int .i64 a1_3), (.tree (.pair .int (.pair .int (.pair .int (.pair .int .int)))) l10_m6_4)])]) trivial (by kernel_rfl) (by kernel_rfl) (gm_cons (gd_agg (gm_cons (by kernel_rfl) (gm_cons (by kernel_rfl) (gm_cons (by kernel_rfl) (gm_cons (by kernel_rfl) (gm_cons (gd_own (e := 69) (by kernel_rfl) rfl) gm_nil)))))) gm_nil) (by kernel_rfl) (ok_impl_Program_live h12) hb_impl_Program_live (by kernel_rfl) ?_
      refine rs0 (.own (352, 3) (tyA 15) 0 ((y12.map (tupA 15)).length)) (by kernel_rfl) ?_
      refine rnil (tn_ ?_)
      refine awp_seq_ ?_
      refine awp_region_ 7 (by kernel_rfl) ?_
      refine rs1 (.own (23, 5) (.pair .int (.pair .int (.pair .int (.pair .int .int)))) 0 0) (23, 5) (.arr 69 (.pair .int (.pair .int (.pair .int (.pair .int .int)))) []) (by kernel_rfl) ?_
      refine rs0 (.own (23, 5) (.pair .int (.pair .int (.pair .int (.pair .int .int)))) 0 0) (by kernel_rfl) ?_
      refine rnil (tn_ ?_)
      refine awp_seqB h (fun (l14_m8 : List (Int × Int × Int × Int × Int)) S_ => S_ = ⟨mkTm [(4, (.box (0, 1) 0)), (6, (.box (1, 1) 0)), (8, (.own (2, 1) (.pair .int (.pair .int (.pair .int (.pair .int .int)))) 0 l14_m8.length))], mkOb (someL [((0, 1), .cells 29 [(.int .i64 0), (.int .i64 0), (.int .i64 0), (.int .i64 0), .nils]), ((1, 1), .cells 29 [(.int .i64 a1_0), (.int .i64 a1_1), (.int .i64 a1_2), (.int .i64 a1_3), (.own (3, 1) (.pair .int (.pair .int (.pair .int (.pair .int .int)))) 0 l10_m6_4.length)]), ((2, 1), .arr 69 (.pair .int (.pair .int (.pair .int (.pair .int .int)))) l14_m8), ((3, 1), .arr 69 (.pair .int (.pair .int (.pair .int (.pair .int .int)))) l10_m6_4)]), 2⟩) ?_ ?_
      · intro v_ h
        refine awp_seq_ ?_
        refine awp_region_ 11 (by kernel_rfl) ?_
        refine rs0 (.box (1, 1) 4) (by kernel_rfl) ?_
        refine rsl (.own (2, 1) (.pair .int (.pair .int (.pair .int (.pair .int .int)))) 0 l10_m6_4.length) (by kernel_rfl) ?_
        refine rs0 (.int .i64 ((l10_m6_4.length : Nat) : Int)) (by kernel_rfl) ?_
        refine rs0 (.int .i64 0) (by kernel_rfl) ?_
        refine rnil (tn_ ?_)
        refine awp_block_ ?_
        refine awp_loopL h (fun t_ S_ => ∃ (l16_m27 : Nat), ∃ (l16_m8 : List (Int × Int × Int × Int × Int)), t_ = (l16_m27, l16_m8) ∧ S_ = ⟨mkTm [(4, (.box (0, 1) 0)), (6, (.box (1, 1) 0)), (7, (.own (2, 1) (tyA 15) 0 y12.length)), (8, (.own (3, 1) (.pair .int (.pair .int (.pair .int (.pair .int .int)))) 0 l16_m8.length)), (25, (.own (4, 1) (.pair .int (.pair .int (.pair .int (.pair .int .int)))) 0 l10_m6_4.length)), (26, (.int .i64 ((l10_m6_4.length : Nat) : Int))), (27, (.int .i64 ((l16_m27 : Nat) : Int)))], mkOb (someL [((0, 1), .cells 29 [(.int .i64 0), (.int .i64 0), (.int .i64 0), (.int .i64 0), .nils]), ((1, 1), .cells 29 [(.int .i64 a1_0), (.int .i64 a1_1), (.int .i64 a1_2), (.int .i64 a1_3), (.own (4, 1) (.pair .int (.pair .int (.pair .int (.pair .int .int)))) 0 l10_m6_4.length)]), ((2, 1), .arr 59 (tyA 15) (y12.map (tupA 15))), ((3, 1), .arr 69 (.pair .int (.pair .int (.pair .int (.pair .int .int)))) l16_m8), ((4, 1), .arr 69 (.pair .int (.pair .int (.pair .int (.pair .int .int)))) l10_m6_4)]), 2⟩) ⟨_, ((weak_tm_ 7 (.own (352, 3) (tyA 15) 0 ((y12.map (tupA 15)).length)) (.own (352, 3) (tyA 15) 0 y12.length) (by kernel_rfl) (congrArg (fun z_ => ((.own (352, 3) (tyA 15) 0 z_) : AV)) ((List.length_map _) : (y12.map (tupA 15)).length = y12.length))).trans (weak_ren (renF [((4, 1), (2, 1)), ((2, 1), (352, 3)), ((3, 1), (23, 5))]) (by kernel_rfl) (by kernel_rfl) (by kernel_rfl))), ⟨0, [], rfl, rfl⟩⟩ ?_
        · rintro n_ _ _ c_ ⟨l16_m27, l16_m8, rfl, rfl⟩ h hn16
          (try dsimp only at h)
          unfold L_impl_DropDead_l2 at h
          unfold m_impl_DropDead_l2
          refine awp_seq_ ?_
          refine awp_region_ 3 (by kernel_rfl) ?_
          refine rs0 (.bool (decide (((l16_m27 : Nat) : Int) < ((l10_m6_4.length : Nat) : Int)))) (by kernel_rfl) ?_
          refine rnil (tn_ ?_)
          refine awp_seq_ ?_
          rcases cond_some h with ⟨q19, h⟩ | ⟨q19, h⟩
          · have q19_ := of_decide_eq_true q19
            refine awp_condT_ q19 (by kernel_rfl) ?_
            refine awp_skip_ (tn_ ?_)
            refine awp_seqB h (fun (l20_m8 : List (Int × Int × Int × Int × Int)) S_ => S_ = ⟨mkTm [(4, (.box (0, 1) 0)), (6, (.box (1, 1) 0)), (7, (.own (2, 1) (tyA 15) 0 y12.length)), (8, (.own (3, 1) (.pair .int (.pair .int (.pair .int (.pair .int .int)))) 0 l20_m8.length)), (25, (.own (4, 1) (.pair .int (.pair .int (.pair .int (.pair .int .int)))) 0 l10_m6_4.length)), (26, (.int .i64 ((l10_m6_4.length : Nat) : Int))), (27, (.int .i64 ((l16_m27 : Nat) : Int)))], mkOb (someL [((0, 1), .cells 29 [(.int .i64 0), (.int .i64 0), (.int .i64 0), (.int .i64 0), .nils]), ((1, 1), .cells 29 [(.int .i64 a1_0), (.int .i64 a1_1), (.int .i64 a1_2), (.int .i64 a1_3), (.own (4, 1) (.pair .int (.pair .int (.pair .int (.pair .int .int)))) 0 l10_m6_4.length)]), ((2, 1), .arr 59 (tyA 15) (y12.map (tupA 15))), ((3, 1), .arr 69 (.pair .int (.pair .int (.pair .int (.pair .int .int)))) l20_m8), ((4, 1), .arr 69 (.pair .int (.pair .int (.pair .int (.pair .int .int)))) l10_m6_4)]), 2⟩) ?_ ?_
            · intro v_ h
              refine awp_block_ ?_
              refine awp_seq_ ?_
              obtain ⟨x22, e22, h⟩ := ob_some h
              refine awp_region_ 9 (by kernel_rfl) ?_
              refine rs0 (.int .i64 ((l16_m27 : Nat) : Int)) (by kernel_rfl) ?_
              refine rs0 (.elt (4, 1) l16_m27 0) (s_idxO (t := (.pair .int (.pair .int (.pair .int (.pair .int .int))))) (o := (4, 1)) (len := l10_m6_4.length) (k := .i64) (m := ((l16_m27 : Nat) : Int)) (by kernel_rfl) (by kernel_rfl) rfl (nat_nn _) rfl (getN_lt e22)) ?_
              refine rsl (.agg [(.int .i64 x22.1), (.int .i64 x22.2.1), (.int .i64 x22.2.2.1), (.int .i64 x22.2.2.2.1), (.int .i64 x22.2.2.2.2)]) (s_ldE (i := (4, 1)) (j := l16_m27) (k := 0) (e := 69) (t := (.pair .int (.pair .int (.pair .int (.pair .int .int))))) (xs := l10_m6_4) (by kernel_rfl) (by kernel_rfl) e22 (by kernel_rfl)) ?_
              refine rs1 (.box (10, 6) 0) (10, 6) (.cells 69 [(.int .i64 0), (.int .i64 0), (.int .i64 0), (.int .i64 0), (.int .i64 0)]) (by kernel_rfl) ?_
              refine rs0 (.int .i64 ((l16_m27 : Nat) : Int)) (by kernel_rfl) ?_
              refine rsn2 (10, 6) (10, 6) (.cells 69 [(.int .i64 x22.1), (.int .i64 x22.2.1), (.int .i64 x22.2.2.1), (.int .i64 x22.2.2.2.1), (.int .i64 x22.2.2.2.2)]) (by kernel_rfl) ?_
              refine rnil (tn_ ?_)
              refine awp_seqB h (fun (l23_m45 : Bool) S_ => S_ = ⟨mkTm [(4, (.box (0, 1) 0)), (6, (.box (1, 1) 0)), (7, (.own (2, 1) (tyA 15) 0 y12.length)), (8, (.own (3, 1) (.pair .int (.pair .int (.pair .int (.pair .int .int)))) 0 l16_m8.length)), (10, (.box (4, 1) 0)), (25, (.own (5, 1) (.pair .int (.pair .int (.pair .int (.pair .int .int)))) 0 l10_m6_4.length)), (26, (.int .i64 ((l10_m6_4.length : Nat) : Int))), (27, (.int .i64 ((l16_m27 : Nat) : Int))), (45, (.bool l23_m45))], mkOb (someL [((0, 1), .cells 29 [(.int .i64 0), (.int .i64 0), (.int .i64 0), (.int .i64 0), .nils]), ((1, 1), .cells 29 [(.int .i64 a1_0), (.int .i64 a1_1), (.int .i64 a1_2), (.int .i64 a1_3), (.own (5, 1) (.pair .int (.pair .int (.pair .int (.pair .int .int)))) 0 l10_m6_4.length)]), ((2, 1), .arr 59 (tyA 15) (y12.map (tupA 15))), ((3, 1), .arr 69 (.pair .int (.pair .int (.pair .int (.pair .int .int)))) l16_m8), ((4, 1), .cells 69 [(.int .i64 x22.1), (.int .i64 x22.2.1), (.int .i64 x22.2.2.1), (.int .i64 x22.2.2.2.1), (.int .i64 x22.2.2.2.2)]), ((5, 1), .arr 69 (.pair .int (.pair .int (.pair .int (.pair .int .int)))) l10_m6_4)]), 2⟩) ?_ ?_
              · intro v_ h
                obtain ⟨y24, h24, h⟩ := ob_some h
                rcases cond_some h with ⟨q25, h⟩ | ⟨q25, h⟩
                · refine awp_regionD_ 23 (by kernel_rfl) ?_
                  refine dsl (.agg [(.int .i64 x22.1), (.int .i64 x22.2.1), (.int .i64 x22.2.2.1), (.int .i64 x22.2.2.2.1), (.int .i64 x22.2.2.2.2)]) (by kernel_rfl) ?_
                  refine dcall (.bool y24) [] [(.agg [(.int .i64 x22.1), (.int .i64 x22.2.1), (.int .i64 x22.2.2.1), (.int .i64 x22.2.2.2.1), (.int .i64 x22.2.2.2.2)])] _ (caps := []) (args0 := [(.agg [(.int .i64 x22.1), (.int .i64 x22.2.1), (.int .i64 x22.2.2.1), (.int .i64 x22.2.2.2.1), (.int .i64 x22.2.2.2.2)])]) trivial (by kernel_rfl) (by kernel_rfl) (by kernel_rfl) (by kernel_rfl) (ok_impl_Instr_writes h24) hb_impl_Instr_writes (by kernel_rfl) ?_
                  refine ds0 (.bool (!y24)) (by kernel_rfl) ?_
                  refine ds0 (.bool (!y24)) (by kernel_rfl) ?_
                  refine ds0 .any (s_skip (by kernel_rfl) q25) ?_
                  refine ds0 .any (s_skip (by kernel_rfl) q25) ?_
                  refine ds0 .any (s_skip (by kernel_rfl) q25) ?_
                  refine ds0 .any (s_skip (by kernel_rfl) q25) ?_
                  refine ds0 .any (s_skip (by kernel_rfl) q25) ?_
                  refine ds0 .any (s_skip (by kernel_rfl) q25) ?_
                  refine ds0 .any (s_skip (by kernel_rfl) q25) ?_
                  refine ds0 .any (s_skip (by kernel_rfl) q25) ?_
                  refine ds0 .any (s_skip (by kernel_rfl) q25) ?_
                  refine ds0 (.bool true) (s_pickT (by kernel_rfl) q25) ?_
                  refine dnil (by kernel_rfl) (tn_ ?_)
                  obtain rfl := Option.some.inj h
                  exact ⟨_, (weak_ren (renF [((5, 1), (4, 1)), ((4, 1), (10, 6))]) (by kernel_rfl) (by kernel_rfl) (by kernel_rfl)), rfl⟩
                · obtain ⟨g26, h⟩ := og_some h
                  obtain ⟨x27, e27, h⟩ := ob_some h
                  obtain ⟨g28, h⟩ := og_some h
                  obtain ⟨x29, f29, h⟩ := ob_some h
                  obtain ⟨p29, b29, e29⟩ := getI_some f29
                  refine awp_regionD_ 23 (by kernel_rfl) ?_
                  refine dsl (.agg [(.int .i64 x22.1), (.int .i64 x22.2.1), (.int .i64 x22.2.2.1), (.int .i64 x22.2.2.2.1), (.int .i64 x22.2.2.2.2)]) (by kernel_rfl) ?_
                  refine dcall (.bool y24) [] [(.agg [(.int .i64 x22.1), (.int .i64 x22.2.1), (.int .i64 x22.2.2.1), (.int .i64 x22.2.2.2.1), (.int .i64 x22.2.2.2.2)])] _ (caps := []) (args0 := [(.agg [(.int .i64 x22.1), (.int .i64 x22.2.1), (.int .i64 x22.2.2.1), (.int .i64 x22.2.2.2.1), (.int .i64 x22.2.2.2.2)])]) trivial (by kernel_rfl) (by kernel_rfl) (by kernel_rfl) (by kernel_rfl) (ok_impl_Instr_writes h24) hb_impl_Instr_writes (by kernel_rfl) ?_
                  refine ds0 (.bool (!y24)) (by kernel_rfl) ?_
                  refine ds0 (.bool (!y24)) (by kernel_rfl) ?_
                  refine ds0 (.own (2, 1) (tyA 15) 0 y12.length) (s_gd (by kernel_rfl) q25 (by kernel_rfl)) ?_
                  refine ds0 (.int .i64 ((l16_m27 : Nat) : Int)) (s_gd (by kernel_rfl) q25 (by kernel_rfl)) ?_
                  refine ds0 (.int .i64 ((l16_m27 + 1 : Nat) : Int)) (s_gd (by kernel_rfl) q25 (s_add1 (j := l16_m27) (by kernel_rfl) (by kernel_rfl) g26)) ?_
                  refine ds0 (.box (10, 6) 1) (s_gd (by kernel_rfl) q25 (by kernel_rfl)) ?_
                  refine dsl (.int .i64 x22.2.1) (s_gd (by kernel_rfl) q25 (by kernel_rfl)) ?_
                  refine ds0 (.elt (2, 1) (l16_m27 + 1) 0) (s_gd (by kernel_rfl) q25 (s_idxO (t := (tyA 15)) (o := (2, 1)) (len := y12.length) (k := .i64) (m := ((l16_m27 + 1 : Nat) : Int)) (by kernel_rfl) (by kernel_rfl) rfl (nat_nn _) rfl (getN_lt e27))) ?_
                  refine ds0 (.elt (2, 1) (l16_m27 + 1) x22.2.1.toNat) (s_gd (by kernel_rfl) q25 (s_idxA (o := (2, 1)) (k := .i64) (m := x22.2.1) (by kernel_rfl) (by kernel_rfl) g28 rfl)) ?_
                  refine dsl (.int .i64 x29) (s_gd (by kernel_rfl) q25 (s_ldA (N := 15) (ty := 59) (i := (2, 1)) (e := l16_m27 + 1) (j := x22.2.1.toNat) (l := x27) (xs := y12.map (tupA 15)) (by kernel_rfl) (by kernel_rfl) (map_tup e27) (idxA_le g28) e29)) ?_
                  refine ds0 (.bool (x29 == 1)) (s_gd (by kernel_rfl) q25 (by kernel_rfl)) ?_
                  refine ds0 (.bool (x29 == 1)) (s_pickF (by kernel_rfl) q25) ?_
                  refine dnil (by kernel_rfl) (tn_ ?_)
                  obtain rfl := Option.some.inj h
                  exact ⟨_, (weak_ren (renF [((5, 1), (4, 1)), ((4, 1), (10, 6))]) (by kernel_rfl) (by kernel_rfl) (by kernel_rfl)), rfl⟩
              · rintro l23_m45 _ rfl h
                (try dsimp only at h)
                rcases cond_some h with ⟨q30, h⟩ | ⟨q30, h⟩
                · refine awp_condT_ q30 (by kernel_rfl) ?_
                  obtain ⟨g31, h⟩ := og_some h
                  refine awp_region_ 7 (by kernel_rfl) ?_
                  refine rs0 (.own (3, 1) (.pair .int (.pair .int (.pair .int (.pair .int .int)))) 0 l16_m8.length) (by kernel_rfl) ?_
                  refine rsl (.agg [(.int .i64 x22.1), (.int .i64 x22.2.1), (.int .i64 x22.2.2.1), (.int .i64 x22.2.2.2.1), (.int .i64 x22.2.2.2.2)]) (by kernel_rfl) ?_
                  refine rs1 (.own (48, 4) (.pair .int (.pair .int (.pair .int (.pair .int .int)))) 0 1) (48, 4) (.arr 69 (.pair .int (.pair .int (.pair .int (.pair .int .int)))) ([x22])) (by kernel_rfl) ?_
                  refine rs2 (.own (3, 5) (.pair .int (.pair .int (.pair .int (.pair .int .int)))) 0 ((l16_m8 ++ ([x22])).length)) (3, 1) (3, 5) (.arr 69 (.pair .int (.pair .int (.pair .int (.pair .int .int)))) (l16_m8 ++ ([x22]))) (s_appO (t := (.pair .int (.pair .int (.pair .int (.pair .int .int))))) (t' := (.pair .int (.pair .int (.pair .int (.pair .int .int))))) (xs := l16_m8) (ys := [x22]) (zs := l16_m8 ++ ([x22])) (j := (3, 1)) (len := l16_m8.length) (c := (.own (48, 4) (.pair .int (.pair .int (.pair .int (.pair .int .int)))) 0 1)) (by kernel_rfl) (by kernel_rfl) rfl (by kernel_rfl) (sr_own (e := 69) (by kernel_rfl) rfl) rfl g31) ?_
                  refine rs0 (.own (3, 5) (.pair .int (.pair .int (.pair .int (.pair .int .int)))) 0 ((l16_m8 ++ ([x22])).length)) (by kernel_rfl) ?_
                  refine rnil (bn_ (tn_ ?_))
                  obtain rfl := Option.some.inj h
                  exact ⟨_, (weak_ren (renF [((4, 1), (5, 1)), ((3, 1), (3, 5))]) (by kernel_rfl) (by kernel_rfl) (by kernel_rfl)), rfl⟩
                · refine awp_condF_ q30 (by kernel_rfl) ?_
                  refine awp_skip_ (bn_ (tn_ ?_))
                  obtain rfl := Option.some.inj h
                  exact ⟨_, (weak_ren (renF [((4, 1), (5, 1))]) (by kernel_rfl) (by kernel_rfl) (by kernel_rfl)), rfl⟩
            · rintro l20_m8 _ rfl h
              (try dsimp only at h)
              obtain ⟨g32, h⟩ := og_some h
              refine awp_region_ 4 (by kernel_rfl) ?_
              refine rs0 (.int .i64 ((l16_m27 + 1 : Nat) : Int)) (s_add1 (j := l16_m27) (by kernel_rfl) (by kernel_rfl) g32) ?_
              refine rs0 (.int .i64 ((l16_m27 + 1 : Nat) : Int)) (by kernel_rfl) ?_
              refine rnil (tn_ ?_)
              obtain rfl := Option.some.inj h
              exact ⟨(l16_m27 + 1, l20_m8), _, (weak_ren (renF []) (by kernel_rfl) (by kernel_rfl) (by kernel_rfl)), ⟨l16_m27 + 1, l20_m8, rfl, rfl⟩, hn16⟩
          · have q19_ := of_decide_eq_false q19
            refine awp_condF_ q19 (by kernel_rfl) ?_
            refine awp_exit_ (te_ (te_ (be_ (tn_ ?_))))
            obtain rfl := Option.some.inj h
            have h := hn16
            (try dsimp only at h)
            obtain rfl := Option.some.inj h
            exact ⟨_, (weak_ren (renF [((3, 1), (4, 1)), ((2, 1), (3, 1))]) (by kernel_rfl) (by kernel_rfl) (by kernel_rfl)), rfl⟩
      · rintro l14_m8 _ rfl h
        (try dsimp only at h)
        refine awp_seq_ ?_
        refine awp_seq_ ?_
        refine awp_region_ 8 (by kernel_rfl) ?_
        refine rs0 (.own (2, 1) (.pair .int (.pair .int (.pair .int (.pair .int .int)))) 0 l14_m8.length) (by kernel_rfl) ?_
        refine rs0 (.int .i64 ((l14_m8.length : Nat) : Int)) (by kernel_rfl) ?_
        refine rs0 (.box (1, 1) 4) (by kernel_rfl) ?_
        refine rsl (.own (3, 1) (.pair .int (.pair .int (.pair .int (.pair .int .int)))) 0 l10_m6_4.length) (by kernel_rfl) ?_
        refine rs0 (.int .i64 ((l10_m6_4.length : Nat) : Int)) (by kernel_rfl) ?_
        refine rs0 (.bool (((l14_m8.length : Nat) : Int) == ((l10_m6_4.length : Nat) : Int))) (by kernel_rfl) ?_
        refine rnil (tn_ ?_)
        rcases cond_some h with ⟨q35, h⟩ | ⟨q35, h⟩
        · refine awp_condT_ q35 (by kernel_rfl) ?_
          refine awp_seq_ ?_
          refine awp_region_ 11 (by kernel_rfl) ?_
          refine rsl (.agg [(.int .i64 a1_0), (.int .i64 a1_1), (.int .i64 a1_2), (.int .i64 a1_3), (.own (3, 1) (.pair .int (.pair .int (.pair .int (.pair .int .int)))) 0 l10_m6_4.length)]) (by kernel_rfl) ?_
          refine rsn2 (0, 1) (0, 1) (.cells 29 [(.int .i64 a1_0), (.int .i64 a1_1), (.int .i64 a1_2), (.int .i64 a1_3), (.own (3, 1) (.pair .int (.pair .int (.pair .int (.pair .int .int)))) 0 l10_m6_4.length)]) (by kernel_rfl) ?_
          refine rs0 (.bool true) (by kernel_rfl) ?_
          refine rnil (tn_ ?_)
          refine awp_ret_ (tr_ (br_ (tr_ (br_ ?_))))
          obtain rfl := Option.some.inj h
          have h := hn10
          (try dsimp only at h)
          obtain rfl := Option.some.inj h
          exact ret_ [(.agg [(.int .i64 a1_0), (.int .i64 a1_1), (.int .i64 a1_2), (.int .i64 a1_3), (.own (3, 1) (.pair .int (.pair .int (.pair .int (.pair .int .int)))) 0 l10_m6_4.length)]), (.bool true)] (by simp) (by kernel_rfl) (p_agg (l_cons (l_sc (by kernel_rfl)) (l_cons (l_sc (by kernel_rfl)) (l_cons (l_sc (by kernel_rfl)) (l_cons (l_sc (by kernel_rfl)) (l_cons (l_own (by kernel_rfl) rfl) l_nil))))) (p_one rfl (l_sc (by kernel_rfl)) p_nil)) (by kernel_rfl) (by kernel_rfl)
        · refine awp_condF_ q35 (by kernel_rfl) ?_
          refine awp_skip_ (tn_ ?_)
          refine awp_region_ 11 (by kernel_rfl) ?_
          refine rs0 (.own (2, 1) (.pair .int (.pair .int (.pair .int (.pair .int .int)))) 0 l14_m8.length) (by kernel_rfl) ?_
          refine rs0 (.box (1, 1) 4) (by kernel_rfl) ?_
          refine rsn2 (1, 1) (1, 1) (.cells 29 [(.int .i64 a1_0), (.int .i64 a1_1), (.int .i64 a1_2), (.int .i64 a1_3), (.own (2, 1) (.pair .int (.pair .int (.pair .int (.pair .int .int)))) 0 l14_m8.length)]) (by kernel_rfl) ?_
          refine rnil (bn_ (tn_ ?_))
          obtain rfl := Option.some.inj h
          exact ⟨l14_m8, _, (weak_ren (renF []) (by kernel_rfl) (by kernel_rfl) (by kernel_rfl)), rfl, hn10⟩
def m_laws_FnExactDropDead : AC :=
  (.seq (.region [⟨(some 3), none, (.i (.box 24 (.tmp 1)))⟩, ⟨(some 4), none, (.i (.mov (.cst (.bool false))))⟩] false [])
  (.seq (.region [⟨(some 5), none, (.i (.mov (.cst (.int .i64 1048576))))⟩] false [])
  (.seq (.region [⟨(some 16), none, (.i (.ld false 5 (.tmp 3)))⟩, ⟨(some 17), none, (.i (.mov (.tmp 5)))⟩, ⟨(some 18), none, (.call (.cst (.fn 8 [])) [(.tmp 16), (.tmp 17)] [[none, none, none, none, (some (.pair .int (.pair .int (.pair .int (.pair .int .int)))))], []])⟩, ⟨(some 5), none, (.i (.mov (.tmp 18)))⟩] false [])
  (.seq (.seq (.region [⟨(some 19), none, (.i (.mov (.tmp 5)))⟩, ⟨(some 20), none, (.i (.bin .lss (.tmp 19) (.cst (.int .i64 0))))⟩] false [])
  (.cond (.tmp 20)
    (.seq (.region [⟨(some 4), none, (.i (.mov (.cst (.bool true))))⟩] false [])
    .ret)
    .skip))
  (.seq (.region [⟨(some 22), none, (.i (.mov (.tmp 0)))⟩, ⟨(some 23), none, (.i (.ld false 5 (.tmp 3)))⟩, ⟨(some 24), none, (.call (.cst (.fn 10 [])) [(.tmp 23)] [[none, none, none, none, (some (.pair .int (.pair .int (.pair .int (.pair .int .int)))))]])⟩, ⟨(some 25), none, (.call (.cst (.fn 22 [])) [(.tmp 22), (.tmp 24)] [[], [none, none, none, none, (some (.pair .int (.pair .int (.pair .int (.pair .int .int)))))]])⟩, ⟨(some 21), none, (.i (.mov (.tmp 25)))⟩, ⟨(some 26), none, (.i (.extr 0 (.tmp 21)))⟩, ⟨(some 27), none, (.i (.extr 1 (.tmp 21)))⟩, ⟨(some 6), none, (.i (.alloc 29 [(.int .i64 0), (.int .i64 0), (.int .i64 0), (.int .i64 0), .nils]))⟩, ⟨none, none, (.st false 5 (.tmp 6) (.tmp 26))⟩, ⟨(some 7), none, (.i (.mov (.tmp 27)))⟩] false [])
  (.seq (.region [⟨(some 28), none, (.i (.ld false 5 (.tmp 3)))⟩, ⟨(some 29), none, (.call (.cst (.fn 10 [])) [(.tmp 28)] [[none, none, none, none, (some (.pair .int (.pair .int (.pair .int (.pair .int .int)))))]])⟩, ⟨(some 8), none, (.i (.alloc 29 [(.int .i64 0), (.int .i64 0), (.int .i64 0), (.int .i64 0), .nils]))⟩, ⟨none, none, (.st false 5 (.tmp 8) (.tmp 29))⟩] false [])
  (.seq (.region [⟨(some 31), none, (.i (.mov (.tmp 0)))⟩, ⟨(some 32), none, (.i (.ld false 5 (.tmp 8)))⟩, ⟨(some 33), none, (.call (.cst (.fn 23 [])) [(.tmp 31), (.tmp 32)] [[], [none, none, none, none, (some (.pair .int (.pair .int (.pair .int (.pair .int .int)))))]])⟩, ⟨(some 30), none, (.i (.mov (.tmp 33)))⟩, ⟨(some 34), none, (.i (.extr 0 (.tmp 30)))⟩, ⟨(some 35), none, (.i (.extr 1 (.tmp 30)))⟩, ⟨(some 9), none, (.i (.alloc 29 [(.int .i64 0), (.int .i64 0), (.int .i64 0), (.int .i64 0), .nils]))⟩, ⟨none, none, (.st false 5 (.tmp 9) (.tmp 34))⟩, ⟨(some 10), none, (.i (.mov (.tmp 35)))⟩] false [])
  (.seq (.seq (.region [⟨(some 36), none, (.i (.ld false 5 (.tmp 9)))⟩, ⟨(some 37), none, (.i (.ld false 5 (.tmp 6)))⟩, ⟨(some 38), none, (.call (.cst (.fn 12 [])) [(.tmp 36), (.tmp 37)] [[none, none, none, none, (some (.pair .int (.pair .int (.pair .int (.pair .int .int)))))], [none, none, none, none, (some (.pair .int (.pair .int (.pair .int (.pair .int .int)))))]])⟩, ⟨(some 39), none, (.i (.not (.tmp 38)))⟩, ⟨(some 40), none, (.i (.mov (.tmp 39)))⟩, ⟨(some 41), (some (40, false)), (.i (.mov (.tmp 10)))⟩, ⟨(some 42), (some (40, false)), (.i (.mov (.tmp 7)))⟩, ⟨(some 43), (some (40, false)), (.i (.cmp true 0 (.tmp 41) (.tmp 42)))⟩, ⟨(some 44), none, (.i (.pick (.tmp 40) (.cst (.bool true)) (.tmp 43)))⟩] false [])
  (.cond (.tmp 44)
    (.seq (.region [⟨(some 4), none, (.i (.mov (.cst (.bool false))))⟩] false [])
    .ret)
    .skip))
  (.seq (.seq (.region [⟨(some 45), none, (.i (.ld false 5 (.tmp 8)))⟩, ⟨(some 46), none, (.i (.ld false 5 (.tmp 3)))⟩, ⟨(some 47), none, (.call (.cst (.fn 10 [])) [(.tmp 46)] [[none, none, none, none, (some (.pair .int (.pair .int (.pair .int (.pair .int .int)))))]])⟩, ⟨(some 48), none, (.call (.cst (.fn 12 [])) [(.tmp 45), (.tmp 47)] [[none, none, none, none, (some (.pair .int (.pair .int (.pair .int (.pair .int .int)))))], [none, none, none, none, (some (.pair .int (.pair .int (.pair .int (.pair .int .int)))))]])⟩, ⟨(some 49), none, (.i (.not (.tmp 48)))⟩] true [(0, 2)])
  (.cond (.tmp 49)
    (.seq (.region [⟨(some 4), none, (.i (.mov (.cst (.bool false))))⟩] false [])
    .ret)
    .skip))
  (.seq (.region [⟨(some 11), none, (.i (.mov (.cst (.int .i64 1))))⟩] false [])
  (.seq (.region [⟨(some 50), none, (.i (.ld false 5 (.tmp 8)))⟩, ⟨(some 51), none, (.i (.mov (.tmp 11)))⟩, ⟨(some 52), none, (.call (.cst (.fn 16 [])) [(.tmp 50), (.tmp 51)] [[none, none, none, none, (some (.pair .int (.pair .int (.pair .int (.pair .int .int)))))], []])⟩, ⟨(some 11), none, (.i (.mov (.tmp 52)))⟩] false [])
  (.seq (.seq (.region [⟨(some 53), none, (.i (.mov (.tmp 11)))⟩, ⟨(some 54), none, (.i (.bin .lss (.tmp 53) (.cst (.int .i64 0))))⟩, ⟨(some 55), none, (.i (.mov (.tmp 54)))⟩, ⟨(some 56), (some (55, false)), (.i (.ld false 5 (.tmp 9)))⟩, ⟨(some 57), (some (55, false)), (.i (.ld false 5 (.tmp 6)))⟩, ⟨(some 58), (some (55, false)), (.call (.cst (.fn 12 [])) [(.tmp 56), (.tmp 57)] [[none, none, none, none, (some (.pair .int (.pair .int (.pair .int (.pair .int .int)))))], [none, none, none, none, (some (.pair .int (.pair .int (.pair .int (.pair .int .int)))))]])⟩, ⟨(some 59), (some (55, false)), (.i (.not (.tmp 58)))⟩, ⟨(some 60), none, (.i (.pick (.tmp 55) (.cst (.bool true)) (.tmp 59)))⟩, ⟨(some 61), none, (.i (.mov (.tmp 60)))⟩, ⟨(some 62), (some (61, false)), (.i (.mov (.tmp 10)))⟩, ⟨(some 63), (some (61, false)), (.i (.mov (.tmp 7)))⟩, ⟨(some 64), (some (61, false)), (.i (.cmp true 0 (.tmp 62) (.tmp 63)))⟩, ⟨(some 65), none, (.i (.pick (.tmp 61) (.cst (.bool true)) (.tmp 64)))⟩] false [])
  (.cond (.tmp 65)
    (.seq (.region [⟨(some 4), none, (.i (.mov (.cst (.bool false))))⟩] false [])
    .ret)
    .skip))
  (.seq (.region [⟨(some 12), none, (.i (.mov (.cst (.int .i64 1))))⟩] false [])
  (.seq (.region [⟨(some 66), none, (.i (.ld false 5 (.tmp 9)))⟩, ⟨(some 67), none, (.i (.mov (.tmp 12)))⟩, ⟨(some 68), none, (.call (.cst (.fn 16 [])) [(.tmp 66), (.tmp 67)] [[none, none, none, none, (some (.pair .int (.pair .int (.pair .int (.pair .int .int)))))], []])⟩, ⟨(some 12), none, (.i (.mov (.tmp 68)))⟩] false [])
  (.seq (.region [⟨(some 13), none, (.i (.mov (.cst (.int .i64 1))))⟩] false [])
  (.seq (.region [⟨(some 69), none, (.i (.ld false 5 (.tmp 9)))⟩, ⟨(some 70), none, (.i (.mov (.tmp 13)))⟩, ⟨(some 71), none, (.call (.cst (.fn 24 [])) [(.tmp 69), (.tmp 70)] [[none, none, none, none, (some (.pair .int (.pair .int (.pair .int (.pair .int .int)))))], []])⟩, ⟨(some 13), none, (.i (.mov (.tmp 71)))⟩] false [])
  (.seq (.seq (.region [⟨(some 72), none, (.i (.mov (.tmp 13)))⟩, ⟨(some 73), none, (.i (.bin .lss (.tmp 72) (.cst (.int .i64 0))))⟩] false [])
  (.cond (.tmp 73)
    (.seq (.region [⟨(some 4), none, (.i (.mov (.cst (.bool false))))⟩] false [])
    .ret)
    .skip))
  (.seq (.seq (.region [⟨(some 74), none, (.i (.mov (.tmp 13)))⟩, ⟨(some 75), none, (.i (.mov (.tmp 12)))⟩, ⟨(some 76), none, (.i (.bin .neq (.tmp 74) (.tmp 75)))⟩] false [])
  (.cond (.tmp 76)
    (.seq (.region [⟨(some 4), none, (.i (.mov (.cst (.bool false))))⟩] false [])
    .ret)
    .skip))
  (.seq (.region [⟨(some 78), none, (.i (.mov (.tmp 0)))⟩, ⟨(some 79), none, (.i (.ld false 5 (.tmp 3)))⟩, ⟨(some 80), none, (.call (.cst (.fn 10 [])) [(.tmp 79)] [[none, none, none, none, (some (.pair .int (.pair .int (.pair .int (.pair .int .int)))))]])⟩, ⟨(some 81), none, (.call (.cst (.fn 23 [])) [(.tmp 78), (.tmp 80)] [[], [none, none, none, none, (some (.pair .int (.pair .int (.pair .int (.pair .int .int)))))]])⟩, ⟨(some 77), none, (.i (.mov (.tmp 81)))⟩, ⟨(some 82), none, (.i (.extr 0 (.tmp 77)))⟩, ⟨(some 83), none, (.i (.extr 1 (.tmp 77)))⟩, ⟨(some 14), none, (.i (.alloc 29 [(.int .i64 0), (.int .i64 0), (.int .i64 0), (.int .i64 0), .nils]))⟩, ⟨none, none, (.st false 5 (.tmp 14) (.tmp 82))⟩, ⟨(some 15), none, (.i (.mov (.tmp 83)))⟩] false [])
  (.seq (.seq (.region [⟨(some 84), none, (.i (.ld false 5 (.tmp 14)))⟩, ⟨(some 85), none, (.i (.ld false 5 (.tmp 6)))⟩, ⟨(some 86), none, (.call (.cst (.fn 12 [])) [(.tmp 84), (.tmp 85)] [[none, none, none, none, (some (.pair .int (.pair .int (.pair .int (.pair .int .int)))))], [none, none, none, none, (some (.pair .int (.pair .int (.pair .int (.pair .int .int)))))]])⟩, ⟨(some 87), none, (.i (.not (.tmp 86)))⟩, ⟨(some 88), none, (.i (.mov (.tmp 87)))⟩, ⟨(some 89), (some (88, false)), (.i (.mov (.tmp 15)))⟩, ⟨(some 90), (some (88, false)), (.i (.mov (.tmp 7)))⟩, ⟨(some 91), (some (88, false)), (.i (.cmp true 0 (.tmp 89) (.tmp 90)))⟩, ⟨(some 92), none, (.i (.pick (.tmp 88) (.cst (.bool true)) (.tmp 91)))⟩] false [])
  (.cond (.tmp 92)
    (.seq (.region [⟨(some 4), none, (.i (.mov (.cst (.bool false))))⟩] false [])
    .ret)
    .skip))
  (.seq (.region [⟨(some 13), none, (.i (.mov (.cst (.int .i64 1))))⟩] false [])
  (.seq (.region [⟨(some 93), none, (.i (.ld false 5 (.tmp 9)))⟩, ⟨(some 94), none, (.i (.mov (.tmp 13)))⟩, ⟨(some 95), none, (.call (.cst (.fn 24 [])) [(.tmp 93), (.tmp 94)] [[none, none, none, none, (some (.pair .int (.pair .int (.pair .int (.pair .int .int)))))], []])⟩, ⟨(some 13), none, (.i (.mov (.tmp 95)))⟩] false [])
  (.seq (.seq (.region [⟨(some 96), none, (.i (.mov (.tmp 13)))⟩, ⟨(some 97), none, (.i (.bin .lss (.tmp 96) (.cst (.int .i64 0))))⟩] false [])
  (.cond (.tmp 97)
    (.seq (.region [⟨(some 4), none, (.i (.mov (.cst (.bool false))))⟩] false [])
    .ret)
    .skip))
  (.seq (.seq (.region [⟨(some 98), none, (.i (.mov (.tmp 13)))⟩, ⟨(some 99), none, (.i (.mov (.tmp 12)))⟩, ⟨(some 100), none, (.i (.bin .neq (.tmp 98) (.tmp 99)))⟩] false [])
  (.cond (.tmp 100)
    (.seq (.region [⟨(some 4), none, (.i (.mov (.cst (.bool false))))⟩] false [])
    .ret)
    .skip))
  (.seq (.region [⟨(some 4), none, (.i (.mov (.cst (.bool true))))⟩] false [])
  .ret)))))))))))))))))))))))))
def r_laws_FnExactDropDead : List Res := [.tmp 4]
theorem c_laws_FnExactDropDead : compiled Tryd.prog Tryd.f6 = some (m_laws_FnExactDropDead, r_laws_FnExactDropDead) := by kernel_rfl
theorem hb_laws_FnExactDropDead : hasBody Tryd.prog 6 = true := by kernel_rfl
def L_laws_FnExactDropDead (a0 : Int) (a1_0 : Int) (a1_1 : Int) (a1_2 : Int) (a1_3 : Int) (a1_4 : List (Int × Int × Int × Int × Int)) : Option Bool :=
  Option.bind (L_laws_szProgram a1_0 a1_1 a1_2 a1_3 a1_4 1048576) fun y4 =>
cond (decide (y4 < 0))
  (some true)
  (Option.bind (L_laws_toProgram a1_0 a1_1 a1_2 a1_3 a1_4) fun y10 =>
  Option.bind (L_spec_DropDead a0 y10.1 y10.2.1 y10.2.2.1 y10.2.2.2.1 y10.2.2.2.2) fun y11 =>
  Option.bind (L_laws_toProgram a1_0 a1_1 a1_2 a1_3 a1_4) fun y13 =>
  Option.bind (L_impl_DropDead a0 y13.1 y13.2.1 y13.2.2.1 y13.2.2.2.1 y13.2.2.2.2) fun y15 =>
  Option.bind (Option.bind (L_laws_eqProgram y15.1 y15.2.1 y15.2.2.1 y15.2.2.2.1 y15.2.2.2.2.1 y11.1 y11.2.1 y11.2.2.1 y11.2.2.2.1 y11.2.2.2.2.1) fun y18 =>
    cond (!y18)
      (some true)
      (some (y15.2.2.2.2.2 != y11.2.2.2.2.2))) fun l17_m44 =>
  cond l17_m44
    (some false)
    (Option.bind (L_laws_toProgram a1_0 a1_1 a1_2 a1_3 a1_4) fun y24 =>
    Option.bind (L_laws_eqProgram y13.1 y13.2.1 y13.2.2.1 y13.2.2.2.1 y13.2.2.2.2 y24.1 y24.2.1 y24.2.2.1 y24.2.2.2.1 y24.2.2.2.2) fun y25 =>
    cond (!y25)
      (some false)
      (Option.bind (L_laws_markProgram y13.1 y13.2.1 y13.2.2.1 y13.2.2.2.1 y13.2.2.2.2 1) fun y30 =>
      og (y30.1.length = y13.2.2.2.2.length) <|
      Option.bind (cond (decide (y30.2 < 0))
          (some true)
          (Option.bind (L_laws_eqProgram y15.1 y15.2.1 y15.2.2.1 y15.2.2.2.1 y15.2.2.2.2.1 y11.1 y11.2.1 y11.2.2.1 y11.2.2.2.1 y11.2.2.2.2.1) fun y35 =>
          cond (!y35)
            (some true)
            (some (y15.2.2.2.2.2 != y11.2.2.2.2.2)))) fun l33_m65 =>
      cond l33_m65
        (some false)
        (Option.bind (L_laws_markProgram y15.1 y15.2.1 y15.2.2.1 y15.2.2.2.1 y15.2.2.2.2.1 1) fun y41 =>
        og (y41.1.length = y15.2.2.2.2.1.length) <|
        Option.bind (L_laws_heldProgram y15.1 y15.2.1 y15.2.2.1 y15.2.2.2.1 y41.1 1) fun y45 =>
        cond (decide (y45 < 0))
          (some false)
          (cond (y45 != y41.2)
            (some false)
            (Option.bind (L_laws_toProgram a1_0 a1_1 a1_2 a1_3 a1_4) fun y55 =>
            Option.bind (L_impl_DropDead a0 y55.1 y55.2.1 y55.2.2.1 y55.2.2.2.1 y55.2.2.2.2) fun y56 =>
            Option.bind (Option.bind (L_laws_eqProgram y56.1 y56.2.1 y56.2.2.1 y56.2.2.2.1 y56.2.2.2.2.1 y11.1 y11.2.1 y11.2.2.1 y11.2.2.2.1 y11.2.2.2.2.1) fun y59 =>
              cond (!y59)
                (some true)
                (some (y56.2.2.2.2.2 != y11.2.2.2.2.2))) fun l58_m92 =>
            cond l58_m92
              (some false)
              (Option.bind (L_laws_heldProgram y15.1 y15.2.1 y15.2.2.1 y15.2.2.2.1 y41.1 1) fun y65 =>
              cond (decide (y65 < 0))
                (some false)
                (cond (y65 != y41.2)
                  (some false)
                  (some true)))))))))
def rv_laws_FnExactDropDead (r : Bool) : RV := ⟨false, [(false, [.sc (.bool r)])]⟩
theorem ok_laws_FnExactDropDead {a0 : Int} {a1_0 : Int} {a1_1 : Int} {a1_2 : Int} {a1_3 : Int} {a1_4 : List (Int × Int × Int × Int × Int)} {r : Bool} (h : L_laws_FnExactDropDead a0 a1_0 a1_1 a1_2 a1_3 a1_4 = some r) : CallOK Tryd.prog Tab 6 [(.int .i64 a0), (.agg [(.int .i64 a1_0), (.int .i64 a1_1), (.int .i64 a1_2), (.int .i64 a1_3), (.tree (.pair .int (.pair .int (.pair .int (.pair .int .int)))) a1_4)])] (rv_laws_FnExactDropDead r) := by
  refine call_of_ (by kernel_rfl) Tryd.func6 c_laws_FnExactDropDead (n := 101) (by kernel_rfl) (by simp) (tl := [(0, (.int .i64 a0)), (1, (.agg [(.int .i64 a1_0), (.int .i64 a1_1), (.int .i64 a1_2), (.int .i64 a1_3), (.tree (.pair .int (.pair .int (.pair .int (.pair .int .int)))) a1_4)]))]) rfl ?_
  unfold m_laws_FnExactDropDead
  unfold L_laws_FnExactDropDead at h
  refine awp_seq_ ?_
  refine awp_region_ 3 (by kernel_rfl) ?_
  refine rs1 (.box (3, 1) 0) (3, 1) (.cells 24 [(.int .i64 a1_0), (.int .i64 a1_1), (.int .i64 a1_2), (.int .i64 a1_3), (.tree (.pair .int (.pair .int (.pair .int (.pair .int .int)))) a1_4)]) (by kernel_rfl) ?_
  refine rs0 (.bool false) (by kernel_rfl) ?_
  refine rnil (tn_ ?_)
  refine awp_seq_ ?_
  refine awp_region_ 4 (by kernel_rfl) ?_
  refine rs0 (.int .i64 1048576) (by kernel_rfl) ?_
  refine rnil (tn_ ?_)
  refine awp_seq_ ?_
  obtain ⟨y4, h4, h⟩ := ob_some h
  refine awp_region_ 8 (by kernel_rfl) ?_
  refine rsl (.agg [(.int .i64 a1_0), (.int .i64 a1_1), (.int .i64 a1_2), (.int .i64 a1_3), (.tree (.pair .int (.pair .int (.pair .int (.pair .int .int)))) a1_4)]) (by kernel_rfl) ?_
  refine rs0 (.int .i64 1048576) (by kernel_rfl) ?_
  refine rcall (.int .i64 y4) [] [(.agg [(.int .i64 a1_0), (.int .i64 a1_1), (.int .i64 a1_2), (.int .i64 a1_3), (.tree (.pair .int (.pair .int (.pair .int (.pair .int .int)))) a1_4)]), (.int .i64 1048576)] _ (caps := []) (args0 := [(.agg [(.int .i64 a1_0), (.int .i64 a1_1), (.int .i64 a1_2), (.int .i64 a1_3), (.tree (.pair .int (.pair .int (.pair .int (.pair .int .int)))) a1_4)]), (.int .i64 1048576)]) trivial (by kernel_rfl) (by kernel_rfl) (by kernel_rfl) (by kernel_rfl) (ok_laws_szProgram h4) hb_laws_szProgram (by kernel_rfl) ?_
  refine rs0 (.int .i64 y4) (by kernel_rfl) ?_
  refine rnil (tn_ ?_)
  refine awp_seq_ ?_
  refine awp_seq_ ?_
  refine awp_region_ 10 (by kernel_rfl) ?_
  refine rs0 (.int .i64 y4) (by kernel_rfl) ?_
  refine rs0 (.bool (decide (y4 < 0))) (by kernel_rfl) ?_
  refine rnil (tn_ ?_)
  rcases cond_some h with ⟨q7, h⟩ | ⟨q7, h⟩
  · have q7_ := of_decide_eq_true q7
    refine awp_condT_ q7 (by kernel_rfl) ?_
    refine awp_seq_ ?_
    refine awp_region_ 11 (by kernel_rfl) ?_
    refine rs0 (.bool true) (by kernel_rfl) ?_
    refine rnil (tn_ ?_)
    refine awp_ret_ (tr_ ?_)
    obtain rfl := Option.some.inj h
    exact ret_ [(.bool true)] (by simp) (by kernel_rfl) (p_one rfl (l_sc (by kernel_rfl)) p_nil) (by kernel_rfl) (by kernel_rfl)
  · have q7_ := of_decide_eq_false q7
    refine awp_condF_ q7 (by kernel_rfl) ?_
    refine awp_skip_ (tn_ ?_)
    refine awp_seq_ ?_
    obtain ⟨y10, h10, h⟩ := ob_some h
    obtain ⟨y11, h11, h⟩ := ob_some h
    refine awp_region_ 20 (by kernel_rfl) ?_
    refine rs0 (.int .i64 a0) (by kernel_rfl) ?_
    refine rsl (.agg [(.int .i64 a1_0), (.int .i64 a1_1), (.int .i64 a1_2), (.int .i64 a1_3), (.tree (.pair .int (.pair .int (.pair .int (.pair .int .int)))) a1_4)]) (by kernel_rfl) ?_
    refine rcall (.agg [(.int .i64 y10.1), (.int .i64 y10.2.1), (.int .i64 y10.2.2.1), (.int .i64 y10.2.2.2.1), (.own (384, 12) (.pair .int (.pair .int (.pair .int (.pair .int .int)))) 0 y10.2.2.2.2.length)]) [((384, 12), some (.arr 69 (.pair .int (.pair .int (.pair .int (.pair .int .int)))) y10.2.2.2.2))] [(.agg [(.int .i64 a1_0), (.int .i64 a1_1), (.int .i64 a1_2), (.int .i64 a1_3), (.tree (.pair .int (.pair .int (.pair .int (.pair .int .int)))) a1_4)])] _ (caps := []) (args0 := [(.agg [(.int .i64 a1_0), (.int .i64 a1_1), (.int .i64 a1_2), (.int .i64 a1_3), (.tree (.pair .int (.pair .int (.pair .int (.pair .int .int)))) a1_4)])]) trivial (by kernel_rfl) (by kernel_rfl) (by kernel_rfl) (by kernel_rfl) (ok_laws_toProgram h10) hb_laws_toProgram (by kernel_rfl) ?_
    refine rcall (.tup [(.agg [(.int .i64 y11.1), (.int .i64 y11.2.1), (.int .i64 y11.2.2.1), (.int .i64 y11.2.2.2.1), (.own (400, 13) (.pair .int (.pair .int (.pair .int (.pair .int .int)))) 0 y11.2.2.2.2.1.length)]), (.bool y11.2.2.2.2.2)]) [((400, 13), some (.arr 69 (.pair .int (.pair .int (.pair .int (.pair .int .int)))) y11.2.2.2.2.1))] [(.int .i64 a0), (.agg [(.int .i64 y10.1), (.int .i64 y10.2.1), (.int .i64 y10.2.2.1), (.int .i64 y10.2.2.2.1), (.own (384, 12) (.pair .int (.pair .int (.pair .int (.pair .int .int)))) 0 y10.2.2.2.2.length)])] _ (caps := []) (args0 := [(.int .i64 a0), (.agg [(.int .i64 y10.1), (.int .i64 y10.2.1), (.int .i64 y10.2.2.1), (.int .i64 y10.2.2.2.1), (.tree (.pair .int (.pair .int (.pair .int (.pair .int .int)))) y10.2.2.2.2)])]) trivial (by kernel_rfl) (by kernel_rfl) (gm_cons (by kernel_rfl) (gm_cons (gd_agg (gm_cons (by kernel_rfl) (gm_cons (by kernel_rfl) (gm_cons (by kernel_rfl) (gm_cons (by kernel_rfl) (gm_cons (gd_own (e := 69) (by kernel_rfl) rfl) gm_nil)))))) gm_nil)) (by kernel_rfl) (ok_spec_DropDead h11) hb_spec_DropDead (by kernel_rfl) ?_
    refine rs0 (.tup [(.agg [(.int .i64 y11.1), (.int .i64 y11.2.1), (.int .i64 y11.2.2.1), (.int .i64 y11.2.2.2.1), (.own (400, 13) (.pair .int (.pair .int (.pair .int (.pair .int .int)))) 0 y11.2.2.2.2.1.length)]), (.bool y11.2.2.2.2.2)]) (by kernel_rfl) ?_
    refine rs0 (.agg [(.int .i64 y11.1), (.int .i64 y11.2.1), (.int .i64 y11.2.2.1), (.int .i64 y11.2.2.2.1), (.own (400, 13) (.pair .int (.pair .int (.pair .int (.pair .int .int)))) 0 y11.2.2.2.2.1.length)]) (by kernel_rfl) ?_
    refine rs0 (.bool y11.2.2.2.2.2) (by kernel_rfl) ?_
    refine rs1 (.box (6, 17) 0) (6, 17) (.cells 29 [(.int .i64 0), (.int .i64 0), (.int .i64 0), (.int .i64 0), .nils]) (by kernel_rfl) ?_
    refine rsn2 (6, 17) (6, 17) (.cells 29 [(.int .i64 y11.1), (.int .i64 y11.2.1), (.int .i64 y11.2.2.1), (.int .i64 y11.2.2.2.1), (.own (400, 13) (.pair .int (.pair .int (.pair .int (.pair .int .int)))) 0 y11.2.2.2.2.1.length)]) (by kernel_rfl) ?_
    refine rs0 (.bool y11.2.2.2.2.2) (by kernel_rfl) ?_
    refine rnil (tn_ ?_)
    refine awp_seq_ ?_
    obtain ⟨y13, h13, h⟩ := ob_some h
    refine awp_region_ 24 (by kernel_rfl) ?_
    refine rsl (.agg [(.int .i64 a1_0), (.int .i64 a1_1), (.int .i64 a1_2), (.int .i64 a1_3), (.tree (.pair .int (.pair .int (.pair .int (.pair .int .int)))) a1_4)]) (by kernel_rfl) ?_
    refine rcall (.agg [(.int .i64 y13.1), (.int .i64 y13.2.1), (.int .i64 y13.2.2.1), (.int .i64 y13.2.2.2.1), (.own (464, 21) (.pair .int (.pair .int (.pair .int (.pair .int .int)))) 0 y13.2.2.2.2.length)]) [((464, 21), some (.arr 69 (.pair .int (.pair .int (.pair .int (.pair .int .int)))) y13.2.2.2.2))] [(.agg [(.int .i64 a1_0), (.int .i64 a1_1), (.int .i64 a1_2), (.int .i64 a1_3), (.tree (.pair .int (.pair .int (.pair .int (.pair .int .int)))) a1_4)])] _ (caps := []) (args0 := [(.agg [(.int .i64 a1_0), (.int .i64 a1_1), (.int .i64 a1_2), (.int .i64 a1_3), (.tree (.pair .int (.pair .int (.pair .int (.pair .int .int)))) a1_4)])]) trivial (by kernel_rfl) (by kernel_rfl) (by kernel_rfl) (by kernel_rfl) (ok_laws_toProgram h13) hb_laws_toProgram (by kernel_rfl) ?_
    refine rs1 (.box (8, 22) 0) (8, 22) (.cells 29 [(.int .i64 0), (.int .i64 0), (.int .i64 0), (.int .i64 0), .nils]) (by kernel_rfl) ?_
    refine rsn2 (8, 22) (8, 22) (.cells 29 [(.int .i64 y13.1), (.int .i64 y13.2.1), (.int .i64 y13.2.2.1), (.int .i64 y13.2.2.2.1), (.own (464, 21) (.pair .int (.pair .int (.pair .int (.pair .int .int)))) 0 y13.2.2.2.2.length)]) (by kernel_rfl) ?_
    refine rnil (tn_ ?_)
    refine awp_seq_ ?_
    obtain ⟨y15, h15, h⟩ := ob_some h
    refine awp_region_ 33 (by kernel_rfl) ?_
    refine rs0 (.int .i64 a0) (by kernel_rfl) ?_
    refine rsl (.agg [(.int .i64 y13.1), (.int .i64 y13.2.1), (.int .i64 y13.2.2.1), (.int .i64 y13.2.2.2.1), (.own (464, 21) (.pair .int (.pair .int (.pair .int (.pair .int .int)))) 0 y13.2.2.2.2.length)]) (by kernel_rfl) ?_
    refine rcall (.tup [(.agg [(.int .i64 y15.1), (.int .i64 y15.2.1), (.int .i64 y15.2.2.1), (.int .i64 y15.2.2.2.1), (.own (528, 26) (.pair .int (.pair .int (.pair .int (.pair .int .int)))) 0 y15.2.2.2.2.1.length)]), (.bool y15.2.2.2.2.2)]) [((528, 26), some (.arr 69 (.pair .int (.pair .int (.pair .int (.pair .int .int)))) y15.2.2.2.2.1))] [(.int .i64 a0), (.agg [(.int .i64 y13.1), (.int .i64 y13.2.1), (.int .i64 y13.2.2.1), (.int .i64 y13.2.2.2.1), (.own (464, 21) (.pair .int (.pair .int (.pair .int (.pair .int .int)))) 0 y13.2.2.2.2.length)])] _ (caps := []) (args0 := [(.int .i64 a0), (.agg [(.int .i64 y13.1), (.int .i64 y13.2.1), (.int .i64 y13.2.2.1), (.int .i64 y13.2.2.2.1), (.tree (.pair .int (.pair .int (.pair .int (.pair .int .int)))) y13.2.2.2.2)])]) trivial (by kernel_rfl) (by kernel_rfl) (gm_cons (by kernel_rfl) (gm_cons (gd_agg (gm_cons (by kernel_rfl) (gm_cons (by kernel_rfl) (gm_cons (by kernel_rfl) (gm_cons (by kernel_rfl) (gm_cons (gd_own (e := 69) (by kernel_rfl) rfl) gm_nil)))))) gm_nil)) (by kernel_rfl) (ok_impl_DropDead h15) hb_impl_DropDead (by kernel_rfl) ?_
    refine rs0 (.tup [(.agg [(.int .i64 y15.1), (.int .i64 y15.2.1), (.int .i64 y15.2.2.1), (.int .i64 y15.2.2.2.1), (.own (528, 26) (.pair .int (.pair .int (.pair .int (.pair .int .int)))) 0 y15.2.2.2.2.1.length)]), (.bool y15.2.2.2.2.2)]) (by kernel_rfl) ?_
    refine rs0 (.agg [(.int .i64 y15.1), (.int .i64 y15.2.1), (.int .i64 y15.2.2.1), (.int .i64 y15.2.2.2.1), (.own (528, 26) (.pair .int (.pair .int (.pair .int (.pair .int .int)))) 0 y15.2.2.2.2.1.length)]) (by kernel_rfl) ?_
    refine rs0 (.bool y15.2.2.2.2.2) (by kernel_rfl) ?_
    refine rs1 (.box (9, 30) 0) (9, 30) (.cells 29 [(.int .i64 0), (.int .i64 0), (.int .i64 0), (.int .i64 0), .nils]) (by kernel_rfl) ?_
    refine rsn2 (9, 30) (9, 30) (.cells 29 [(.int .i64 y15.1), (.int .i64 y15.2.1), (.int .i64 y15.2.2.1), (.int .i64 y15.2.2.2.1), (.own (528, 26) (.pair .int (.pair .int (.pair .int (.pair .int .int)))) 0 y15.2.2.2.2.1.length)]) (by kernel_rfl) ?_
    refine rs0 (.bool y15.2.2.2.2.2) (by kernel_rfl) ?_
    refine rnil (tn_ ?_)
    refine awp_seq_ ?_
    refine awp_seqB h (fun (l17_m44 : Bool) S_ => S_ = ⟨mkTm [(0, (.int .i64 a0)), (3, (.box (0, 1) 0)), (6, (.box (1, 1) 0)), (7, (.bool y11.2.2.2.2.2)), (8, (.box (2, 1) 0)), (9, (.box (3, 1) 0)), (10, (.bool y15.2.2.2.2.2)), (44, (.bool l17_m44))], mkOb (someL [((0, 1), .cells 24 [(.int .i64 a1_0), (.int .i64 a1_1), (.int .i64 a1_2), (.int .i64 a1_3), (.tree (.pair .int (.pair .int (.pair .int (.pair .int .int)))) a1_4)]), ((1, 1), .cells 29 [(.int .i64 y11.1), (.int .i64 y11.2.1), (.int .i64 y11.2.2.1), (.int .i64 y11.2.2.2.1), (.own (4, 1) (.pair .int (.pair .int (.pair .int (.pair .int .int)))) 0 y11.2.2.2.2.1.length)]), ((2, 1), .cells 29 [(.int .i64 y13.1), (.int .i64 y13.2.1), (.int .i64 y13.2.2.1), (.int .i64 y13.2.2.2.1), (.own (5, 1) (.pair .int (.pair .int (.pair .int (.pair .int .int)))) 0 y13.2.2.2.2.length)]), ((3, 1), .cells 29 [(.int .i64 y15.1), (.int .i64 y15.2.1), (.int .i64 y15.2.2.1), (.int .i64 y15.2.2.2.1), (.own (6, 1) (.pair .int (.pair .int (.pair .int (.pair .int .int)))) 0 y15.2.2.2.2.1.length)]), ((4, 1), .arr 69 (.pair .int (.pair .int (.pair .int (.pair .int .int)))) y11.2.2.2.2.1), ((5, 1), .arr 69 (.pair .int (.pair .int (.pair .int (.pair .int .int)))) y13.2.2.2.2), ((6, 1), .arr 69 (.pair .int (.pair .int (.pair .int (.pair .int .int)))) y15.2.2.2.2.1)]), 2⟩) ?_ ?_
    · intro v_ h
      obtain ⟨y18, h18, h⟩ := ob_some h
      rcases cond_some h with ⟨q19, h⟩ | ⟨q19, h⟩
      · refine awp_region_ 42 (by kernel_rfl) ?_
        refine rsl (.agg [(.int .i64 y15.1), (.int .i64 y15.2.1), (.int .i64 y15.2.2.1), (.int .i64 y15.2.2.2.1), (.own (528, 26) (.pair .int (.pair .int (.pair .int (.pair .int .int)))) 0 y15.2.2.2.2.1.length)]) (by kernel_rfl) ?_
        refine rsl (.agg [(.int .i64 y11.1), (.int .i64 y11.2.1), (.int .i64 y11.2.2.1), (.int .i64 y11.2.2.2.1), (.own (400, 13) (.pair .int (.pair .int (.pair .int (.pair .int .int)))) 0 y11.2.2.2.2.1.length)]) (by kernel_rfl) ?_
        refine rcall (.bool y18) [] [(.agg [(.int .i64 y15.1), (.int .i64 y15.2.1), (.int .i64 y15.2.2.1), (.int .i64 y15.2.2.2.1), (.own (528, 26) (.pair .int (.pair .int (.pair .int (.pair .int .int)))) 0 y15.2.2.2.2.1.length)]), (.agg [(.int .i64 y11.1), (.int .i64 y11.2.1), (.int .i64 y11.2.2.1), (.int .i64 y11.2.2.2.1), (.own (400, 13) (.pair .int (.pair .int (.pair .int (.pair .int .int)))) 0 y11.2.2.2.2.1.length)])] _ (caps := []) (args0 := [(.agg [(.int .i64 y15.1), (.int .i64 y15.2.1), (.int .i64 y15.2.2.1), (.int .i64 y15.2.2.2.1), (.tree (.pair .int (.pair .int (.pair .int (.pair .int .int)))) y15.2.2.2.2.1)]), (.agg [(.int .i64 y11.1), (.int .i64 y11.2.1), (.int .i64 y11.2.2.1), (.int .i64 y11.2.2.2.1), (.tree (.pair .int (.pair .int (.pair .int (.pair .int .int)))) y11.2.2.2.2.1)])]) trivial (by kernel_rfl) (by kernel_rfl) (gm_cons (gd_agg (gm_cons (by kernel_rfl) (gm_cons (by kernel_rfl) (gm_cons (by kernel_rfl) (gm_cons (by kernel_rfl) (gm_cons (gd_own (e := 69) (by kernel_rfl) rfl) gm_nil)))))) (gm_cons (gd_agg (gm_cons (by kernel_rfl) (gm_cons (by kernel_rfl) (gm_cons (by kernel_rfl) (gm_cons (by kernel_rfl) (gm_cons (gd_own (e := 69) (by kernel_rfl) rfl) gm_nil)))))) gm_nil)) (by kernel_rfl) (ok_laws_eqProgram h18) hb_laws_eqProgram (by kernel_rfl) ?_
        refine rs0 (.bool (!y18)) (by kernel_rfl) ?_
        refine rs0 (.bool (!y18)) (by kernel_rfl) ?_
        refine rs0 .any (s_skip (by kernel_rfl) q19) ?_
        refine rs0 .any (s_skip (by kernel_rfl) q19) ?_
        refine rs0 .any (s_skip (by kernel_rfl) q19) ?_
        refine rs0 (.bool true) (s_pickT (by kernel_rfl) q19) ?_
        refine rnil (tn_ ?_)
        obtain rfl := Option.some.inj h
        exact ⟨_, (weak_ren (renF [((0, 1), (3, 1)), ((1, 1), (6, 17)), ((4, 1), (400, 13)), ((2, 1), (8, 22)), ((5, 1), (464, 21)), ((3, 1), (9, 30)), ((6, 1), (528, 26))]) (by kernel_rfl) (by kernel_rfl) (by kernel_rfl)), rfl⟩
      · refine awp_region_ 42 (by kernel_rfl) ?_
        refine rsl (.agg [(.int .i64 y15.1), (.int .i64 y15.2.1), (.int .i64 y15.2.2.1), (.int .i64 y15.2.2.2.1), (.own (528, 26) (.pair .int (.pair .int (.pair .int (.pair .int .int)))) 0 y15.2.2.2.2.1.length)]) (by kernel_rfl) ?_
        refine rsl (.agg [(.int .i64 y11.1), (.int .i64 y11.2.1), (.int .i64 y11.2.2.1), (.int .i64 y11.2.2.2.1), (.own (400, 13) (.pair .int (.pair .int (.pair .int (.pair .int .int)))) 0 y11.2.2.2.2.1.length)]) (by kernel_rfl) ?_
        refine rcall (.bool y18) [] [(.agg [(.int .i64 y15.1), (.int .i64 y15.2.1), (.int .i64 y15.2.2.1), (.int .i64 y15.2.2.2.1), (.own (528, 26) (.pair .int (.pair .int (.pair .int (.pair .int .int)))) 0 y15.2.2.2.2.1.length)]), (.agg [(.int .i64 y11.1), (.int .i64 y11.2.1), (.int .i64 y11.2.2.1), (.int .i64 y11.2.2.2.1), (.own (400, 13) (.pair .int (.pair .int (.pair .int (.pair .int .int)))) 0 y11.2.2.2.2.1.length)])] _ (caps := []) (args0 := [(.agg [(.int .i64 y15.1), (.int .i64 y15.2.1), (.int .i64 y15.2.2.1), (.int .i64 y15.2.2.2.1), (.tree (.pair .int (.pair .int (.pair .int (.pair .int .int)))) y15.2.2.2.2.1)]), (.agg [(.int .i64 y11.1), (.int .i64 y11.2.1), (.int .i64 y11.2.2.1), (.int .i64 y11.2.2.2.1), (.tree (.pair .int (.pair .int (.pair .int (.pair .int .int)))) y11.2.2.2.2.1)])]) trivial (by kernel_rfl) (by kernel_rfl) (gm_cons (gd_agg (gm_cons (by kernel_rfl) (gm_cons (by kernel_rfl) (gm_cons (by kernel_rfl) (gm_cons (by kernel_rfl) (gm_cons (gd_own (e := 69) (by kernel_rfl) rfl) gm_nil)))))) (gm_cons (gd_agg (gm_cons (by kernel_rfl) (gm_cons (by kernel_rfl) (gm_cons (by kernel_rfl) (gm_cons (by kernel_rfl) (gm_cons (gd_own (e := 69) (by kernel_rfl) rfl) gm_nil)))))) gm_nil)) (by kernel_rfl) (ok_laws_eqProgram h18) hb_laws_eqProgram (by kernel_rfl) ?_
        refine rs0 (.bool (!y18)) (by kernel_rfl) ?_
        refine rs0 (.bool (!y18)) (by kernel_rfl) ?_
        refine rs0 (.bool y15.2.2.2.2.2) (s_gd (by kernel_rfl) q19 (by kernel_rfl)) ?_
        refine rs0 (.bool y11.2.2.2.2.2) (s_gd (by kernel_rfl) q19 (by kernel_rfl)) ?_
        refine rs0 (.bool (y15.2.2.2.2.2 != y11.2.2.2.2.2)) (s_gd (by kernel_rfl) q19 (by kernel_rfl)) ?_
        refine rs0 (.bool (y15.2.2.2.2.2 != y11.2.2.2.2.2)) (s_pickF (by kernel_rfl) q19) ?_
        refine rnil (tn_ ?_)
        obtain rfl := Option.some.inj h
        exact ⟨_, (weak_ren (renF [((0, 1), (3, 1)), ((1, 1), (6, 17)), ((4, 1), (400, 13)), ((2, 1), (8, 22)), ((5, 1), (464, 21)), ((3, 1), (9, 30)), ((6, 1), (528, 26))]) (by kernel_rfl) (by kernel_rfl) (by kernel_rfl)), rfl⟩
    · rintro l17_m44 _ rfl h
      (try dsimp only at h)
      rcases cond_some h with ⟨q20, h⟩ | ⟨q20, h⟩
      · refine awp_condT_ q20 (by kernel_rfl) ?_
        refine awp_seq_ ?_
        refine awp_region_ 3 (by kernel_rfl) ?_
        refine rs0 (.bool false) (by kernel_rfl) ?_
        refine rnil (tn_ ?_)
        refine awp_ret_ (tr_ ?_)
        obtain rfl := Option.some.inj h
        exact ret_ [(.bool false)] (by simp) (by kernel_rfl) (p_one rfl (l_sc (by kernel_rfl)) p_nil) (by kernel_rfl) (by kernel_rfl)
      · refine awp_condF_ q20 (by kernel_rfl) ?_
        refine awp_skip_ (tn_ ?_)
        refine awp_seq_ ?_
        refine awp_seq_ ?_
        obtain ⟨y24, h24, h⟩ := ob_some h
        obtain ⟨y25, h25, h⟩ := ob_some h
        refine awp_regionD_ 7 (by kernel_rfl) ?_
        refine dsl (.agg [(.int .i64 y13.1), (.int .i64 y13.2.1), (.int .i64 y13.2.2.1), (.int .i64 y13.2.2.2.1), (.own (5, 1) (.pair .int (.pair .int (.pair .int (.pair .int .int)))) 0 y13.2.2.2.2.length)]) (by kernel_rfl) ?_
        refine dsl (.agg [(.int .i64 a1_0), (.int .i64 a1_1), (.int .i64 a1_2), (.int .i64 a1_3), (.tree (.pair .int (.pair .int (.pair .int (.pair .int .int)))) a1_4)]) (by kernel_rfl) ?_
        refine dcall (.agg [(.int .i64 y24.1), (.int .i64 y24.2.1), (.int .i64 y24.2.2.1), (.int .i64 y24.2.2.2.1), (.own (752, 4) (.pair .int (.pair .int (.pair .int (.pair .int .int)))) 0 y24.2.2.2.2.length)]) [((752, 4), some (.arr 69 (.pair .int (.pair .int (.pair .int (.pair .int .int)))) y24.2.2.2.2))] [(.agg [(.int .i64 a1_0), (.int .i64 a1_1), (.int .i64 a1_2), (.int .i64 a1_3), (.tree (.pair .int (.pair .int (.pair .int (.pair .int .int)))) a1_4)])] _ (caps := []) (args0 := [(.agg [(.int .i64 a1_0), (.int .i64 a1_1), (.int .i64 a1_2), (.int .i64 a1_3), (.tree (.pair .int (.pair .int (.pair .int (.pair .int .int)))) a1_4)])]) trivial (by kernel_rfl) (by kernel_rfl) (by kernel_rfl) (by kernel_rfl) (ok_laws_toProgram h24) hb_laws_toProgram (by kernel_rfl) ?_
        refine dcall (.bool y25) [] [(.agg [(.int .i64 y13.1), (.int .i64 y13.2.1), (.int .i64 y13.2.2.1), (.int .i64 y13.2.2.2.1), (.own (5, 1) (.pair .int (.pair .int (.pair .int (.pair .int .int)))) 0 y13.2.2.2.2.length)]), (.agg [(.int .i64 y24.1), (.int .i64 y24.2.1), (.int .i64 y24.2.2.1), (.int .i64 y24.2.2.2.1), (.own (752, 4) (.pair .int (.pair .int (.pair .int (.pair .int .int)))) 0 y24.2.2.2.2.length)])] _ (caps := []) (args0 := [(.agg [(.int .i64 y13.1), (.int .i64 y13.2.1), (.int .i64 y13.2.2.1), (.int .i64 y13.2.2.2.1), (.tree (.pair .int (.pair .int (.pair .int (.pair .int .int)))) y13.2.2.2.2)]), (.agg [(.int .i64 y24.1), (.int .i64 y24.2.1), (.int .i64 y24.2.2.1), (.int .i64 y24.2.2.2.1), (.tree (.pair .int (.pair .int (.pair .int (.pair .int .int)))) y24.2.2.2.2)])]) trivial (by kernel_rfl) (by kernel_rfl) (gm_cons (gd_agg (gm_cons (by kernel_rfl) (gm_cons (by kernel_rfl) (gm_cons (by kernel_rfl) (gm_cons (by kernel_rfl) (gm_cons (gd_own (e := 69) (by kernel_rfl) rfl) gm_nil)))))) (gm_cons (gd_agg (gm_cons (by kernel_rfl) (gm_cons (by kernel_rfl) (gm_cons (by kernel_rfl) (gm_cons (by kernel_rfl) (gm_cons (gd_own (e := 69) (by kernel_rfl) rfl) gm_nil)))))) gm_nil)) (by kernel_rfl) (ok_laws_eqProgram h25) hb_laws_eqProgram (by kernel_rfl) ?_
        refine ds0 (.bool (!y25)) (by kernel_rfl) ?_
        refine dnil (by kernel_rfl) (tn_ ?_)
        rcases cond_some h with ⟨q26, h⟩ | ⟨q26, h⟩
        · refine awp_condT_ q26 (by kernel_rfl) ?_
          refine awp_seq_ ?_
          refine awp_region_ 8 (by kernel_rfl) ?_
          refine rs0 (.bool false) (by kernel_rfl) ?_
          refine rnil (tn_ ?_)
          refine awp_ret_ (tr_ ?_)
          obtain rfl := Option.some.inj h
          exact ret_ [(.bool false)] (by simp) (by kernel_rfl) (p_one rfl (l_sc (by kernel_rfl)) p_nil) (by kernel_rfl) (by kernel_rfl)
        · refine awp_condF_ q26 (by kernel_rfl) ?_
          refine awp_skip_ (tn_ ?_)
          refine awp_seq_ ?_
          refine awp_region_ 8 (by kernel_rfl) ?_
          refine rs0 (.int .i64 1) (by kernel_rfl) ?_
          refine rnil (tn_ ?_)
          refine awp_seq_ ?_
          obtain ⟨y30, h30, h⟩ := ob_some h
          obtain ⟨g31, h⟩ := og_some h
          refine awp_region_ 12 (by kernel_rfl) ?_
          refine rsl (.agg [(.int .i64 y13.1), (.int .i64 y13.2.1), (.int .i64 y13.2.2.1), (.int .i64 y13.2.2.2.1), (.own (5, 1) (.pair .int (.pair .int (.pair .int (.pair .int .int)))) 0 y13.2.2.2.2.length)]) (by kernel_rfl) ?_
          refine rs0 (.int .i64 1) (by kernel_rfl) ?_
          refine rcallM (.int .i64 y30.2) [((0, 0), (5, 1))] [(.agg [(.int .i64 y13.1), (.int .i64 y13.2.1), (.int .i64 y13.2.2.1), (.int .i64 y13.2.2.2.1), (.own (5, 1) (.pair .int (.pair .int (.pair .int (.pair .int .int)))) 0 y13.2.2.2.2.length)]), (.int .i64 1)] (caps := []) trivial (by kernel_rfl) (by kernel_rfl) (ok_laws_markProgram h30 rfl) (by kernel_rfl) (by kernel_rfl) (by kernel_rfl) (by kernel_rfl) (by kernel_rfl) hb_laws_markProgram ?_
          refine rs0 (.int .i64 y30.2) (by kernel_rfl) ?_
          refine rnil (tn_ ?_)
          refine awp_seq_ ?_
          refine awp_seqB h (fun (l33_m65 : Bool) S_ => S_ = ⟨mkTm [(0, (.int .i64 a0)), (3, (.box (0, 1) 0)), (6, (.box (1, 1) 0)), (7, (.bool y11.2.2.2.2.2)), (9, (.box (2, 1) 0)), (65, (.bool l33_m65))], mkOb (someL [((0, 1), .cells 24 [(.int .i64 a1_0), (.int .i64 a1_1), (.int .i64 a1_2), (.int .i64 a1_3), (.tree (.pair .int (.pair .int (.pair .int (.pair .int .int)))) a1_4)]), ((1, 1), .cells 29 [(.int .i64 y11.1), (.int .i64 y11.2.1), (.int .i64 y11.2.2.1), (.int .i64 y11.2.2.2.1), (.own (3, 1) (.pair .int (.pair .int (.pair .int (.pair .int .int)))) 0 y11.2.2.2.2.1.length)]), ((2, 1), .cells 29 [(.int .i64 y15.1), (.int .i64 y15.2.1), (.int .i64 y15.2.2.1), (.int .i64 y15.2.2.2.1), (.own (4, 1) (.pair .int (.pair .int (.pair .int (.pair .int .int)))) 0 y15.2.2.2.2.1.length)]), ((3, 1), .arr 69 (.pair .int (.pair .int (.pair .int (.pair .int .int)))) y11.2.2.2.2.1), ((4, 1), .arr 69 (.pair .int (.pair .int (.pair .int (.pair .int .int)))) y15.2.2.2.2.1)]), 2⟩) ?_ ?_
          · intro v_ h
            rcases cond_some h with ⟨q34, h⟩ | ⟨q34, h⟩
            · have q34_ := of_decide_eq_true q34
              refine awp_region_ 25 (by kernel_rfl) ?_
              refine rs0 (.int .i64 y30.2) (by kernel_rfl) ?_
              refine rs0 (.bool (decide (y30.2 < 0))) (by kernel_rfl) ?_
              refine rs0 (.bool (decide (y30.2 < 0))) (by kernel_rfl) ?_
              refine rs0 .any (s_skip (by kernel_rfl) q34) ?_
              refine rs0 .any (s_skip (by kernel_rfl) q34) ?_
              refine rs0 .any (s_skip (by kernel_rfl) q34) ?_
              refine rs0 .any (s_skip (by kernel_rfl) q34) ?_
              refine rs0 (.bool true) (s_pickT (by kernel_rfl) q34) ?_
              refine rs0 (.bool true) (by kernel_rfl) ?_
              refine rs0 .any (by kernel_rfl) ?_
              refine rs0 .any (by kernel_rfl) ?_
              refine rs0 .any (by kernel_rfl) ?_
              refine rs0 (.bool true) (by kernel_rfl) ?_
              refine rnil (tn_ ?_)
              obtain rfl := Option.some.inj h
              exact ⟨_, (weak_ren (renF [((3, 1), (4, 1)), ((2, 1), (3, 1)), ((4, 1), (6, 1))]) (by kernel_rfl) (by kernel_rfl) (by kernel_rfl)), rfl⟩
            · have q34_ := of_decide_eq_false q34
              obtain ⟨y35, h35, h⟩ := ob_some h
              rcases cond_some h with ⟨q36, h⟩ | ⟨q36, h⟩
              · refine awp_region_ 25 (by kernel_rfl) ?_
                refine rs0 (.int .i64 y30.2) (by kernel_rfl) ?_
                refine rs0 (.bool (decide (y30.2 < 0))) (by kernel_rfl) ?_
                refine rs0 (.bool (decide (y30.2 < 0))) (by kernel_rfl) ?_
                refine rsl (.agg [(.int .i64 y15.1), (.int .i64 y15.2.1), (.int .i64 y15.2.2.1), (.int .i64 y15.2.2.2.1), (.own (6, 1) (.pair .int (.pair .int (.pair .int (.pair .int .int)))) 0 y15.2.2.2.2.1.length)]) (s_gd (by kernel_rfl) q34 (by kernel_rfl)) ?_
                refine rsl (.agg [(.int .i64 y11.1), (.int .i64 y11.2.1), (.int .i64 y11.2.2.1), (.int .i64 y11.2.2.2.1), (.own (4, 1) (.pair .int (.pair .int (.pair .int (.pair .int .int)))) 0 y11.2.2.2.2.1.length)]) (s_gd (by kernel_rfl) q34 (by kernel_rfl)) ?_
                refine rcall (.bool y35) [] [(.agg [(.int .i64 y15.1), (.int .i64 y15.2.1), (.int .i64 y15.2.2.1), (.int .i64 y15.2.2.2.1), (.own (6, 1) (.pair .int (.pair .int (.pair .int (.pair .int .int)))) 0 y15.2.2.2.2.1.length)]), (.agg [(.int .i64 y11.1), (.int .i64 y11.2.1), (.int .i64 y11.2.2.1), (.int .i64 y11.2.2.2.1), (.own (4, 1) (.pair .int (.pair .int (.pair .int (.pair .int .int)))) 0 y11.2.2.2.2.1.length)])] _ (caps := []) (args0 := [(.agg [(.int .i64 y15.1), (.int .i64 y15.2.1), (.int .i64 y15.2.2.1), (.int .i64 y15.2.2.2.1), (.tree (.pair .int (.pair .int (.pair .int (.pair .int .int)))) y15.2.2.2.2.1)]), (.agg [(.int .i64 y11.1), (.int .i64 y11.2.1), (.int .i64 y11.2.2.1), (.int .i64 y11.2.2.2.1), (.tree (.pair .int (.pair .int (.pair .int (.pair .int .int)))) y11.2.2.2.2.1)])]) (gdOK_b (by kernel_rfl) q34) (by kernel_rfl) (by kernel_rfl) (gm_cons (gd_agg (gm_cons (by kernel_rfl) (gm_cons (by kernel_rfl) (gm_cons (by kernel_rfl) (gm_cons (by kernel_rfl) (gm_cons (gd_own (e := 69) (by kernel_rfl) rfl) gm_nil)))))) (gm_cons (gd_agg (gm_cons (by kernel_rfl) (gm_cons (by kernel_rfl) (gm_cons (by kernel_rfl) (gm_cons (by kernel_rfl) (gm_cons (gd_own (e := 69) (by kernel_rfl) rfl) gm_nil)))))) gm_nil)) (by kernel_rfl) (ok_laws_eqProgram h35) hb_laws_eqProgram (by kernel_rfl) ?_
                refine rs0 (.bool (!y35)) (s_gd (by kernel_rfl) q34 (by kernel_rfl)) ?_
                refine rs0 (.bool (!y35)) (s_pickF (by kernel_rfl) q34) ?_
                refine rs0 (.bool (!y35)) (by kernel_rfl) ?_
                refine rs0 .any (s_skip (by kernel_rfl) q36) ?_
                refine rs0 .any (s_skip (by kernel_rfl) q36) ?_
                refine rs0 .any (s_skip (by kernel_rfl) q36) ?_
                refine rs0 (.bool true) (s_pickT (by kernel_rfl) q36) ?_
                refine rnil (tn_ ?_)
                obtain rfl := Option.some.inj h
                exact ⟨_, (weak_ren (renF [((3, 1), (4, 1)), ((2, 1), (3, 1)), ((4, 1), (6, 1))]) (by kernel_rfl) (by kernel_rfl) (by kernel_rfl)), rfl⟩
              · refine awp_region_ 25 (by kernel_rfl) ?_
                refine rs0 (.int .i64 y30.2) (by kernel_rfl) ?_
                refine rs0 (.bool (decide (y30.2 < 0))) (by kernel_rfl) ?_
                refine rs0 (.bool (decide (y30.2 < 0))) (by kernel_rfl) ?_
                refine rsl (.agg [(.int .i64 y15.1), (.int .i64 y15.2.1), (.int .i64 y15.2.2.1), (.int .i64 y15.2.2.2.1), (.own (6, 1) (.pair .int (.pair .int (.pair .int (.pair .int .int)))) 0 y15.2.2.2.2.1.length)]) (s_gd (by kernel_rfl) q34 (by kernel_rfl)) ?_
                refine rsl (.agg [(.int .i64 y11.1), (.int .i64 y11.2.1), (.int .i64 y11.2.2.1), (.int .i64 y11.2.2.2.1), (.own (4, 1) (.pair .int (.pair .int (.pair .int (.pair .int .int)))) 0 y11.2.2.2.2.1.length)]) (s_gd (by kernel_rfl) q34 (by kernel_rfl)) ?_
                refine rcall (.bool y35) [] [(.agg [(.int .i64 y15.1), (.int .i64 y15.2.1), (.int .i64 y15.2.2.1), (.int .i64 y15.2.2.2.1), (.own (6, 1) (.pair .int (.pair .int (.pair .int (.pair .int .int)))) 0 y15.2.2.2.2.1.length)]), (.agg [(.int .i64 y11.1), (.int .i64 y11.2.1), (.int .i64 y11.2.2.1), (.int .i64 y11.2.2.2.1), (.own (4, 1) (.pair .int (.pair .int (.pair .int (.pair .int .int)))) 0 y11.2.2.2.2.1.length)])] _ (caps := []) (args0 := [(.agg [(.int .i64 y15.1), (.int .i64 y15.2.1), (.int .i64 y15.2.2.1), (.int .i64 y15.2.2.2.1), (.tree (.pair .int (.pair .int (.pair .int (.pair .int .int)))) y15.2.2.2.2.1)]), (.agg [(.int .i64 y11.1), (.int .i64 y11.2.1), (.int .i64 y11.2.2.1), (.int .i64 y11.2.2.2.1), (.tree (.pair .int (.pair .int (.pair .int (.pair .int .int)))) y11.2.2.2.2.1)])]) (gdOK_b (by kernel_rfl) q34) (by kernel_rfl) (by kernel_rfl) (gm_cons (gd_agg (gm_cons (by kernel_rfl) (gm_cons (by kernel_rfl) (gm_cons (by kernel_rfl) (gm_cons (by kernel_rfl) (gm_cons (gd_own (e := 69) (by kernel_rfl) rfl) gm_nil)))))) (gm_cons (gd_agg (gm_cons (by kernel_rfl) (gm_cons (by kernel_rfl) (gm_cons (by kernel_rfl) (gm_cons (by kernel_rfl) (gm_cons (gd_own (e := 69) (by kernel_rfl) rfl) gm_nil)))))) gm_nil)) (by kernel_rfl) (ok_laws_eqProgram h35) hb_laws_eqProgram (by kernel_rfl) ?_
                refine rs0 (.bool (!y35)) (s_gd (by kernel_rfl) q34 (by kernel_rfl)) ?_
                refine rs0 (.bool (!y35)) (s_pickF (by kernel_rfl) q34) ?_
                refine rs0 (.bool (!y35)) (by kernel_rfl) ?_
                refine rs0 (.bool y15.2.2.2.2.2) (s_gd (by kernel_rfl) q36 (by kernel_rfl)) ?_
                refine rs0 (.bool y11.2.2.2.2.2) (s_gd (by kernel_rfl) q36 (by kernel_rfl)) ?_
                refine rs0 (.bool (y15.2.2.2.2.2 != y11.2.2.2.2.2)) (s_gd (by kernel_rfl) q36 (by kernel_rfl)) ?_
                refine rs0 (.bool (y15.2.2.2.2.2 != y11.2.2.2.2.2)) (s_pickF (by kernel_rfl) q36) ?_
                refine rnil (tn_ ?_)
                obtain rfl := Option.some.inj h
                exact ⟨_, (weak_ren (renF [((3, 1), (4, 1)), ((2, 1), (3, 1)), ((4, 1), (6, 1))]) (by kernel_rfl) (by kernel_rfl) (by kernel_rfl)), rfl⟩
          · rintro l33_m65 _ rfl h
            (try dsimp only at h)
            rcases cond_some h with ⟨q37, h⟩ | ⟨q37, h⟩
            · refine awp_condT_ q37 (by kernel_rfl) ?_
              refine awp_seq_ ?_
              refine awp_region_ 3 (by kernel_rfl) ?_
              refine rs0 (.bool false) (by kernel_rfl) ?_
              refine rnil (tn_ ?_)
              refine awp_ret_ (tr_ ?_)
              obtain rfl := Option.some.inj h
              exact ret_ [(.bool false)] (by simp) (by kernel_rfl) (p_one rfl (l_sc (by kernel_rfl)) p_nil) (by kernel_rfl) (by kernel_rfl)
            · refine awp_condF_ q37 (by kernel_rfl) ?_
              refine awp_skip_ (tn_ ?_)
              refine awp_seq_ ?_
              refine awp_region_ 3 (by kernel_rfl) ?_
              refine rs0 (.int .i64 1) (by kernel_rfl) ?_
              refine rnil (tn_ ?_)
              refine awp_seq_ ?_
              obtain ⟨y41, h41, h⟩ := ob_some h
              obtain ⟨g42, h⟩ := og_some h
              refine awp_region_ 7 (by kernel_rfl) ?_
              refine rsl (.agg [(.int .i64 y15.1), (.int .i64 y15.2.1), (.int .i64 y15.2.2.1), (.int .i64 y15.2.2.2.1), (.own (4, 1) (.pair .int (.pair .int (.pair .int (.pair .int .int)))) 0 y15.2.2.2.2.1.length)]) (by kernel_rfl) ?_
              refine rs0 (.int .i64 1) (by kernel_rfl) ?_
              refine rcallM (.int .i64 y41.2) [((0, 0), (4, 1))] [(.agg [(.int .i64 y15.1), (.int .i64 y15.2.1), (.int .i64 y15.2.2.1), (.int .i64 y15.2.2.2.1), (.own (4, 1) (.pair .int (.pair .int (.pair .int (.pair .int .int)))) 0 y15.2.2.2.2.1.length)]), (.int .i64 1)] (caps := []) trivial (by kernel_rfl) (by kernel_rfl) (ok_laws_markProgram h41 rfl) (by kernel_rfl) (by kernel_rfl) (by kernel_rfl) (by kernel_rfl) (by kernel_rfl) hb_laws_markProgram ?_
              refine rs0 (.int .i64 y41.2) (by kernel_rfl) ?_
              refine rnil (tn_ ?_)
              refine awp_seq_ ?_
              refine awp_region_ 8 (by kernel_rfl) ?_
              refine rs0 (.int .i64 1) (by kernel_rfl) ?_
              refine rnil (tn_ ?_)
              refine awp_seq_ ?_
              obtain ⟨y45, h45, h⟩ := ob_some h
              refine awp_region_ 12 (by kernel_rfl) ?_
              refine rsl (.agg [(.int .i64 y15.1), (.int .i64 y15.2.1), (.int .i64 y15.2.2.1), (.int .i64 y15.2.2.2.1), (.own (4, 1) (.pair .int (.pair .int (.pair .int (.pair .int .int)))) 0 y15.2.2.2.2.1.length)]) (by kernel_rfl) ?_
              refine rs0 (.int .i64 1) (by kernel_rfl) ?_
              refine rcall (.int .i64 y45) [] [(.agg [(.int .i64 y15.1), (.int .i64 y15.2.1), (.int .i64 y15.2.2.1), (.int .i64 y15.2.2.2.1), (.own (4, 1) (.pair .int (.pair .int (.pair .int (.pair .int .int)))) 0 y15.2.2.2.2.1.length)]), (.int .i64 1)] _ (caps := []) (args0 := [(.agg [(.int .i64 y15.1), (.int .i64 y15.2.1), (.int .i64 y15.2.2.1), (.int .i64 y15.2.2.2.1), (.tree (.pair .int (.pair .int (.pair .int (.pair .int .int)))) y41.1)]), (.int .i64 1)]) trivial (by kernel_rfl) (by kernel_rfl) (gm_cons (gd_agg (gm_cons (by kernel_rfl) (gm_cons (by kernel_rfl) (gm_cons (by kernel_rfl) (gm_cons (by kernel_rfl) (gm_cons (gd_own (e := 69) (by kernel_rfl) g42.symm) gm_nil)))))) (gm_cons (by kernel_rfl) gm_nil)) (by kernel_rfl) (ok_laws_heldProgram h45) hb_laws_heldProgram (by kernel_rfl) ?_
              refine rs0 (.int .i64 y45) (by kernel_rfl) ?_
              refine rnil (tn_ ?_)
              refine awp_seq_ ?_
              refine awp_seq_ ?_
              refine awp_region_ 14 (by kernel_rfl) ?_
              refine rs0 (.int .i64 y45) (by kernel_rfl) ?_
              refine rs0 (.bool (decide (y45 < 0))) (by kernel_rfl) ?_
              refine rnil (tn_ ?_)
              rcases cond_some h with ⟨q48, h⟩ | ⟨q48, h⟩
              · have q48_ := of_decide_eq_true q48
                refine awp_condT_ q48 (by kernel_rfl) ?_
                refine awp_seq_ ?_
                refine awp_region_ 15 (by kernel_rfl) ?_
                refine rs0 (.bool false) (by kernel_rfl) ?_
                refine rnil (tn_ ?_)
                refine awp_ret_ (tr_ ?_)
                obtain rfl := Option.some.inj h
                exact ret_ [(.bool false)] (by simp) (by kernel_rfl) (p_one rfl (l_sc (by kernel_rfl)) p_nil) (by kernel_rfl) (by kernel_rfl)
              · have q48_ := of_decide_eq_false q48
                refine awp_condF_ q48 (by kernel_rfl) ?_
                refine awp_skip_ (tn_ ?_)
                refine awp_seq_ ?_
                refine awp_seq_ ?_
                refine awp_region_ 17 (by kernel_rfl) ?_
                refine rs0 (.int .i64 y45) (by kernel_rfl) ?_
                refine rs0 (.int .i64 y41.2) (by kernel_rfl) ?_
                refine rs0 (.bool (y45 != y41.2)) (by kernel_rfl) ?_
                refine rnil (tn_ ?_)
                rcases cond_some h with ⟨q52, h⟩ | ⟨q52, h⟩
                · refine awp_condT_ q52 (by kernel_rfl) ?_
                  refine awp_seq_ ?_
                  refine awp_region_ 18 (by kernel_rfl) ?_
                  refine rs0 (.bool false) (by kernel_rfl) ?_
                  refine rnil (tn_ ?_)
                  refine awp_ret_ (tr_ ?_)
                  obtain rfl := Option.some.inj h
                  exact ret_ [(.bool false)] (by simp) (by kernel_rfl) (p_one rfl (l_sc (by kernel_rfl)) p_nil) (by kernel_rfl) (by kernel_rfl)
                · refine awp_condF_ q52 (by kernel_rfl) ?_
                  refine awp_skip_ (tn_ ?_)
                  refine awp_seq_ ?_
                  obtain ⟨y55, h55, h⟩ := ob_some h
                  obtain ⟨y56, h56, h⟩ := ob_some h
                  refine awp_region_ 27 (by kernel_rfl) ?_
                  refine rs0 (.int .i64 a0) (by kernel_rfl) ?_
                  refine rsl (.agg [(.int .i64 a1_0), (.int .i64 a1_1), (.int .i64 a1_2), (.int .i64 a1_3), (.tree (.pair .int (.pair .int (.pair .int (.pair .int .int)))) a1_4)]) (by kernel_rfl) ?_
                  refine rcall (.agg [(.int .i64 y55.1), (.int .i64 y55.2.1), (.int .i64 y55.2.2.1), (.int .i64 y55.2.2.2.1), (.own (1280, 19) (.pair .int (.pair .int (.pair .int (.pair .int .int)))) 0 y55.2.2.2.2.length)]) [((1280, 19), some (.arr 69 (.pair .int (.pair .int (.pair .int (.pair .int .int)))) y55.2.2.2.2))] [(.agg [(.int .i64 a1_0), (.int .i64 a1_1), (.int .i64 a1_2), (.int .i64 a1_3), (.tree (.pair .int (.pair .int (.pair .int (.pair .int .int)))) a1_4)])] _ (caps := []) (args0 := [(.agg [(.int .i64 a1_0), (.int .i64 a1_1), (.int .i64 a1_2), (.int .i64 a1_3), (.tree (.pair .int (.pair .int (.pair .int (.pair .int .int)))) a1_4)])]) trivial (by kernel_rfl) (by kernel_rfl) (by kernel_rfl) (by kernel_rfl) (ok_laws_toProgram h55) hb_laws_toProgram (by kernel_rfl) ?_
                  refine rcall (.tup [(.agg [(.int .i64 y56.1), (.int .i64 y56.2.1), (.int .i64 y56.2.2.1), (.int .i64 y56.2.2.2.1), (.own (1296, 20) (.pair .int (.pair .int (.pair .int (.pair .int .int)))) 0 y56.2.2.2.2.1.length)]), (.bool y56.2.2.2.2.2)]) [((1296, 20), some (.arr 69 (.pair .int (.pair .int (.pair .int (.pair .int .int)))) y56.2.2.2.2.1))] [(.int .i64 a0), (.agg [(.int .i64 y55.1), (.int .i64 y55.2.1), (.int .i64 y55.2.2.1), (.int .i64 y55.2.2.2.1), (.own (1280, 19) (.pair .int (.pair .int (.pair .int (.pair .int .int)))) 0 y55.2.2.2.2.length)])] _ (caps := []) (args0 := [(.int .i64 a0), (.agg [(.int .i64 y55.1), (.int .i64 y55.2.1), (.int .i64 y55.2.2.1), (.int .i64 y55.2.2.2.1), (.tree (.pair .int (.pair .int (.pair .int (.pair .int .int)))) y55.2.2.2.2)])]) trivial (by kernel_rfl) (by kernel_rfl) (gm_cons (by kernel_rfl) (gm_cons (gd_agg (gm_cons (by kernel_rfl) (gm_cons (by kernel_rfl) (gm_cons (by kernel_rfl) (gm_cons (by kernel_rfl) (gm_cons (gd_own (e := 69) (by kernel_rfl) rfl) gm_nil)))))) gm_nil)) (by kernel_rfl) (ok_impl_DropDead h56) hb_impl_DropDead (by kernel_rfl) ?_
                  refine rs0 (.tup [(.agg [(.int .i64 y56.1), (.int .i64 y56.2.1), (.int .i64 y56.2.2.1), (.int .i64 y56.2.2.2.1), (.own (1296, 20) (.pair .int (.pair .int (.pair .int (.pair .int .int)))) 0 y56.2.2.2.2.1.length)]), (.bool y56.2.2.2.2.2)]) (by kernel_rfl) ?_
                  refine rs0 (.agg [(.int .i64 y56.1), (.int .i64 y56.2.1), (.int .i64 y56.2.2.1), (.int .i64 y56.2.2.2.1), (.own (1296, 20) (.pair .int (.pair .int (.pair .int (.pair .int .int)))) 0 y56.2.2.2.2.1.length)]) (by kernel_rfl) ?_
                  refine rs0 (.bool y56.2.2.2.2.2) (by kernel_rfl) ?_
                  refine rs1 (.box (14, 24) 0) (14, 24) (.cells 29 [(.int .i64 0), (.int .i64 0), (.int .i64 0), (.int .i64 0), .nils]) (by kernel_rfl) ?_
                  refine rsn2 (14, 24) (14, 24) (.cells 29 [(.int .i64 y56.1), (.int .i64 y56.2.1), (.int .i64 y56.2.2.1), (.int .i64 y56.2.2.2.1), (.own (1296, 20) (.pair .int (.pair .int (.pair .int (.pair .int .int)))) 0 y56.2.2.2.2.1.length)]) (by kernel_rfl) ?_
                  refine rs0 (.bool y56.2.2.2.2.2) (by kernel_rfl) ?_
                  refine rnil (tn_ ?_)
                  refine awp_seq_ ?_
                  refine awp_seqB h (fun (l58_m92 : Bool) S_ => S_ = ⟨mkTm [(9, (.box (0, 1) 0)), (12, (.int .i64 y41.2)), (92, (.bool l58_m92))], mkOb (someL [((0, 1), .cells 29 [(.int .i64 y15.1), (.int .i64 y15.2.1), (.int .i64 y15.2.2.1), (.int .i64 y15.2.2.2.1), (.own (1, 1) (.pair .int (.pair .int (.pair .int (.pair .int .int)))) 0 y41.1.length)]), ((1, 1), .arr 69 (.pair .int (.pair .int (.pair .int (.pair .int .int)))) y41.1)]), 2⟩) ?_ ?_
                  · intro v_ h
                    obtain ⟨y59, h59, h⟩ := ob_some h
                    rcases cond_some h with ⟨q60, h⟩ | ⟨q60, h⟩
                    · refine awp_region_ 36 (by kernel_rfl) ?_
                      refine rsl (.agg [(.int .i64 y56.1), (.int .i64 y56.2.1), (.int .i64 y56.2.2.1), (.int .i64 y56.2.2.2.1), (.own (1296, 20) (.pair .int (.pair .int (.pair .int (.pair .int .int)))) 0 y56.2.2.2.2.1.length)]) (by kernel_rfl) ?_
                      refine rsl (.agg [(.int .i64 y11.1), (.int .i64 y11.2.1), (.int .i64 y11.2.2.1), (.int .i64 y11.2.2.2.1), (.own (3, 1) (.pair .int (.pair .int (.pair .int (.pair .int .int)))) 0 y11.2.2.2.2.1.length)]) (by kernel_rfl) ?_
                      refine rcall (.bool y59) [] [(.agg [(.int .i64 y56.1), (.int .i64 y56.2.1), (.int .i64 y56.2.2.1), (.int .i64 y56.2.2.2.1), (.own (1296, 20) (.pair .int (.pair .int (.pair .int (.pair .int .int)))) 0 y56.2.2.2.2.1.length)]), (.agg [(.int .i64 y11.1), (.int .i64 y11.2.1), (.int .i64 y11.2.2.1), (.int .i64 y11.2.2.2.1), (.own (3, 1) (.pair .int (.pair .int (.pair .int (.pair .int .int)))) 0 y11.2.2.2.2.1.length)])] _ (caps := []) (args0 := [(.agg [(.int .i64 y56.1), (.int .i64 y56.2.1), (.int .i64 y56.2.2.1), (.int .i64 y56.2.2.2.1), (.tree (.pair .int (.pair .int (.pair .int (.pair .int .int)))) y56.2.2.2.2.1)]), (.agg [(.int .i64 y11.1), (.int .i64 y11.2.1), (.int .i64 y11.2.2.1), (.int .i64 y11.2.2.2.1), (.tree (.pair .int (.pair .int (.pair .int (.pair .int .int)))) y11.2.2.2.2.1)])]) trivial (by kernel_rfl) (by kernel_rfl) (gm_cons (gd_agg (gm_cons (by kernel_rfl) (gm_cons (by kernel_rfl) (gm_cons (by kernel_rfl) (gm_cons (by kernel_rfl) (gm_cons (gd_own (e := 69) (by kernel_rfl) rfl) gm_nil)))))) (gm_cons (gd_agg (gm_cons (by kernel_rfl) (gm_cons (by kernel_rfl) (gm_cons (by kernel_rfl) (gm_cons (by kernel_rfl) (gm_cons (gd_own (e := 69) (by kernel_rfl) rfl) gm_nil)))))) gm_nil)) (by kernel_rfl) (ok_laws_eqProgram h59) hb_laws_eqProgram (by kernel_rfl) ?_
                      refine rs0 (.bool (!y59)) (by kernel_rfl) ?_
                      refine rs0 (.bool (!y59)) (by kernel_rfl) ?_
                      refine rs0 .any (s_skip (by kernel_rfl) q60) ?_
                      refine rs0 .any (s_skip (by kernel_rfl) q60) ?_
                      refine rs0 .any (s_skip (by kernel_rfl) q60) ?_
                      refine rs0 (.bool true) (s_pickT (by kernel_rfl) q60) ?_
                      refine rnil (tn_ ?_)
                      obtain rfl := Option.some.inj h
                      exact ⟨_, ((weak_ob_ (2, 1) (.cells 29 [(.int .i64 y15.1), (.int .i64 y15.2.1), (.int .i64 y15.2.2.1), (.int .i64 y15.2.2.2.1), (.own (4, 1) (.pair .int (.pair .int (.pair .int (.pair .int .int)))) 0 y15.2.2.2.2.1.length)]) (.cells 29 [(.int .i64 y15.1), (.int .i64 y15.2.1), (.int .i64 y15.2.2.1), (.int .i64 y15.2.2.2.1), (.own (4, 1) (.pair .int (.pair .int (.pair .int (.pair .int .int)))) 0 y41.1.length)]) (by kernel_rfl) (congrArg (fun z_ => (.cells 29 [(.int .i64 y15.1), (.int .i64 y15.2.1), (.int .i64 y15.2.2.1), (.int .i64 y15.2.2.2.1), (.own (4, 1) (.pair .int (.pair .int (.pair .int (.pair .int .int)))) 0 z_)] : Ob)) (g42.symm : y15.2.2.2.2.1.length = y41.1.length))).trans (weak_ren (renF [((0, 1), (2, 1)), ((1, 1), (4, 1))]) (by kernel_rfl) (by kernel_rfl) (by kernel_rfl))), rfl⟩
                    · refine awp_region_ 36 (by kernel_rfl) ?_
                      refine rsl (.agg [(.int .i64 y56.1), (.int .i64 y56.2.1), (.int .i64 y56.2.2.1), (.int .i64 y56.2.2.2.1), (.own (1296, 20) (.pair .int (.pair .int (.pair .int (.pair .int .int)))) 0 y56.2.2.2.2.1.length)]) (by kernel_rfl) ?_
                      refine rsl (.agg [(.int .i64 y11.1), (.int .i64 y11.2.1), (.int .i64 y11.2.2.1), (.int .i64 y11.2.2.2.1), (.own (3, 1) (.pair .int (.pair .int (.pair .int (.pair .int .int)))) 0 y11.2.2.2.2.1.length)]) (by kernel_rfl) ?_
                      refine rcall (.bool y59) [] [(.agg [(.int .i64 y56.1), (.int .i64 y56.2.1), (.int .i64 y56.2.2.1), (.int .i64 y56.2.2.2.1), (.own (1296, 20) (.pair .int (.pair .int (.pair .int (.pair .int .int)))) 0 y56.2.2.2.2.1.length)]), (.agg [(.int .i64 y11.1), (.int .i64 y11.2.1), (.int .i64 y11.2.2.1), (.int .i64 y11.2.2.2.1), (.own (3, 1) (.pair .int (.pair .int (.pair .int (.pair .int .int)))) 0 y11.2.2.2.2.1.length)])] _ (caps := []) (args0 := [(.agg [(.int .i64 y56.1), (.int .i64 y56.2.1), (.int .i64 y56.2.2.1), (.int .i64 y56.2.2.2.1), (.tree (.pair .int (.pair .int (.pair .int (.pair .int .int)))) y56.2.2.2.2.1)]), (.agg [(.int .i64 y11.1), (.int .i64 y11.2.1), (.int .i64 y11.2.2.1), (.int .i64 y11.2.2.2.1), (.tree (.pair .int (.pair .int (.pair .int (.pair .int .int)))) y11.2.2.2.2.1)])]) trivial (by kernel_rfl) (by kernel_rfl) (gm_cons (gd_agg (gm_cons (by kernel_rfl) (gm_cons (by kernel_rfl) (gm_cons (by kernel_rfl) (gm_cons (by kernel_rfl) (gm_cons (gd_own (e := 69) (by kernel_rfl) rfl) gm_nil)))))) (gm_cons (gd_agg (gm_cons (by kernel_rfl) (gm_cons (by kernel_rfl) (gm_cons (by kernel_rfl) (gm_cons (by kernel_rfl) (gm_cons (gd_own (e := 69) (by kernel_rfl) rfl) gm_nil)))))) gm_nil)) (by kernel_rfl) (ok_laws_eqProgram h59) hb_laws_eqProgram (by kernel_rfl) ?_
                      refine rs0 (.bool (!y59)) (by kernel_rfl) ?_
                      refine rs0 (.bool (!y59)) (by kernel_rfl) ?_
                      refine rs0 (.bool y56.2.2.2.2.2) (s_gd (by kernel_rfl) q60 (by kernel_rfl)) ?_
                      refine rs0 (.bool y11.2.2.2.2.2) (s_gd (by kernel_rfl) q60 (by kernel_rfl)) ?_
                      refine rs0 (.bool (y56.2.2.2.2.2 != y11.2.2.2.2.2)) (s_gd (by kernel_rfl) q60 (by kernel_rfl)) ?_
                      refine rs0 (.bool (y56.2.2.2.2.2 != y11.2.2.2.2.2)) (s_pickF (by kernel_rfl) q60) ?_
                      refine rnil (tn_ ?_)
                      obtain rfl := Option.some.inj h
                      exact ⟨_, ((weak_ob_ (2, 1) (.cells 29 [(.int .i64 y15.1), (.int .i64 y15.2.1), (.int .i64 y15.2.2.1), (.int .i64 y15.2.2.2.1), (.own (4, 1) (.pair .int (.pair .int (.pair .int (.pair .int .int)))) 0 y15.2.2.2.2.1.length)]) (.cells 29 [(.int .i64 y15.1), (.int .i64 y15.2.1), (.int .i64 y15.2.2.1), (.int .i64 y15.2.2.2.1), (.own (4, 1) (.pair .int (.pair .int (.pair .int (.pair .int .int)))) 0 y41.1.length)]) (by kernel_rfl) (congrArg (fun z_ => (.cells 29 [(.int .i64 y15.1), (.int .i64 y15.2.1), (.int .i64 y15.2.2.1), (.int .i64 y15.2.2.2.1), (.own (4, 1) (.pair .int (.pair .int (.pair .int (.pair .int .int)))) 0 z_)] : Ob)) (g42.symm : y15.2.2.2.2.1.length = y41.1.length))).trans (weak_ren (renF [((0, 1), (2, 1)), ((1, 1), (4, 1))]) (by kernel_rfl) (by kernel_rfl) (by kernel_rfl))), rfl⟩
                  · rintro l58_m92 _ rfl h
                    (try dsimp only at h)
                    rcases cond_some h with ⟨q61, h⟩ | ⟨q61, h⟩
                    · refine awp_condT_ q61 (by kernel_rfl) ?_
                      refine awp_seq_ ?_
                      refine awp_region_ 3 (by kernel_rfl) ?_
                      refine rs0 (.bool false) (by kernel_rfl) ?_
                      refine rnil (tn_ ?_)
                      refine awp_ret_ (tr_ ?_)
                      obtain rfl := Option.some.inj h
                      exact ret_ [(.bool false)] (by simp) (by kernel_rfl) (p_one rfl (l_sc (by kernel_rfl)) p_nil) (by kernel_rfl) (by kernel_rfl)
                    · refine awp_condF_ q61 (by kernel_rfl) ?_
                      refine awp_skip_ (tn_ ?_)
                      refine awp_seq_ ?_
                      refine awp_region_ 3 (by kernel_rfl) ?_
                      refine rs0 (.int .i64 1) (by kernel_rfl) ?_
                      refine rnil (tn_ ?_)
                      refine awp_seq_ ?_
                      obtain ⟨y65, h65, h⟩ := ob_some h
                      refine awp_region_ 7 (by kernel_rfl) ?_
                      refine rsl (.agg [(.int .i64 y15.1), (.int .i64 y15.2.1), (.int .i64 y15.2.2.1), (.int .i64 y15.2.2.2.1), (.own (1, 1) (.pair .int (.pair .int (.pair .int (.pair .int .int)))) 0 y41.1.length)]) (by kernel_rfl) ?_
                      refine rs0 (.int .i64 1) (by kernel_rfl) ?_
                      refine rcall (.int .i64 y65) [] [(.agg [(.int .i64 y15.1), (.int .i64 y15.2.1), (.int .i64 y15.2.2.1), (.int .i64 y15.2.2.2.1), (.own (1, 1) (.pair .int (.pair .int (.pair .int (.pair .int .int)))) 0 y41.1.length)]), (.int .i64 1)] _ (caps := []) (args0 := [(.agg [(.int .i64 y15.1), (.int .i64 y15.2.1), (.int .i64 y15.2.2.1), (.int .i64 y15.2.2.2.1), (.tree (.pair .int (.pair .int (.pair .int (.pair .int .int)))) y41.1)]), (.int .i64 1)]) trivial (by kernel_rfl) (by kernel_rfl) (gm_cons (gd_agg (gm_cons (by kernel_rfl) (gm_cons (by kernel_rfl) (gm_cons (by kernel_rfl) (gm_cons (by kernel_rfl) (gm_cons (gd_own (e := 69) (by kernel_rfl) rfl) gm_nil)))))) (gm_cons (by kernel_rfl) gm_nil)) (by kernel_rfl) (ok_laws_heldProgram h65) hb_laws_heldProgram (by kernel_rfl) ?_
                      refine rs0 (.int .i64 y65) (by kernel_rfl) ?_
                      refine rnil (tn_ ?_)
                      refine awp_seq_ ?_
                      refine awp_seq_ ?_
                      refine awp_region_ 9 (by kernel_rfl) ?_
                      refine rs0 (.int .i64 y65) (by kernel_rfl) ?_
                      refine rs0 (.bool (decide (y65 < 0))) (by kernel_rfl) ?_
                      refine rnil (tn_ ?_)
                      rcases cond_some h with ⟨q68, h⟩ | ⟨q68, h⟩
                      · have q68_ := of_decide_eq_true q68
                        refine awp_condT_ q68 (by kernel_rfl) ?_
                        refine awp_seq_ ?_
                        refine awp_region_ 10 (by kernel_rfl) ?_
                        refine rs0 (.bool false) (by kernel_rfl) ?_
                        refine rnil (tn_ ?_)
                        refine awp_ret_ (tr_ ?_)
                        obtain rfl := Option.some.inj h
                        exact ret_ [(.bool false)] (by simp) (by kernel_rfl) (p_one rfl (l_sc (by kernel_rfl)) p_nil) (by kernel_rfl) (by kernel_rfl)
                      · have q68_ := of_decide_eq_false q68
                        refine awp_condF_ q68 (by kernel_rfl) ?_
                        refine awp_skip_ (tn_ ?_)
                        refine awp_seq_ ?_
                        refine awp_seq_ ?_
                        refine awp_region_ 12 (by kernel_rfl) ?_
                        refine rs0 (.int .i64 y65) (by kernel_rfl) ?_
                        refine rs0 (.int .i64 y41.2) (by kernel_rfl) ?_
                        refine rs0 (.bool (y65 != y41.2)) (by kernel_rfl) ?_
                        refine rnil (tn_ ?_)
                        rcases cond_some h with ⟨q72, h⟩ | ⟨q72, h⟩
                        · refine awp_condT_ q72 (by kernel_rfl) ?_
                          refine awp_seq_ ?_
                          refine awp_region_ 13 (by kernel_rfl) ?_
                          refine rs0 (.bool false) (by kernel_rfl) ?_
                          refine rnil (tn_ ?_)
                          refine awp_ret_ (tr_ ?_)
                          obtain rfl := Option.some.inj h
                          exact ret_ [(.bool false)] (by simp) (by kernel_rfl) (p_one rfl (l_sc (by kernel_rfl)) p_nil) (by kernel_rfl) (by kernel_rfl)
                        · refine awp_condF_ q72 (by kernel_rfl) ?_
                          refine awp_skip_ (tn_ ?_)
                          refine awp_seq_ ?_
                          refine awp_region_ 13 (by kernel_rfl) ?_
                          refine rs0 (.bool true) (by kernel_rfl) ?_
                          refine rnil (tn_ ?_)
                          refine awp_ret_ ?_
                          obtain rfl := Option.some.inj h
                          exact ret_ [(.bool true)] (by simp) (by kernel_rfl) (p_one rfl (l_sc (by kernel_rfl)) p_nil) (by kernel_rfl) (by kernel_rfl)
end Go.Proofs.YtomijolkdmaimaaDoor
