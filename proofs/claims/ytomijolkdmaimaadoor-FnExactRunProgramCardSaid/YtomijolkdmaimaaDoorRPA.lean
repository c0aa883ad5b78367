/- Partial functions in place of code, and that the code does what they say: RPA. No condition. -/
import Derived.Test.YtomijolkdmaimaaDoorCST
namespace Go.Proofs.YtomijolkdmaimaaDoor
open Go.RowKit Go.Deep
set_option maxRecDepth 4000
def m_spec_spRows_l1 : AC :=
  (.seq (rg [xo 12 (qb .lss (tm 11) (tm 10))])
  (.seq (.cond (tm 12)
    .skip
    (.exit 0))
  (.seq (.block 1 (.seq (rg [xo 13 (qx 1 (tm 9) (tm 11)), xo 14 (ql (tm 13)), xo 8 (qm (tm 14))])
  (.seq (rg [xo 15 (qm (tm 8)), xo 16 (.i (.len (tm 15))), xo 17 (qm (tm 1)), xo 18 (qb .neq (tm 16) (tm 17)), xo 19 (qm (tm 18)), ⟨(some 20), (some (19, false)), (qm (tm 0))⟩, ⟨(some 21), (some (19, false)), (qm (tm 8))⟩, ⟨(some 22), (some (19, false)), (qc 42 [(tm 20), (tm 21)] [[], [(some .int)]])⟩, ⟨(some 23), (some (19, false)), (.i (.not (tm 22)))⟩, xo 24 (.i (.pick (tm 19) (cb true) (tm 23)))])
  (.cond (tm 24)
    (.seq (rg [xo 6 (qm (cb false))])
    .ret)
    .skip))))
  (rg [xo 25 (qb .add (tm 11) (ci 1)), xo 11 (qm (tm 25))]))))
def m_spec_spRows : AC :=
  (.seq (rg [xo 6 (qm (cb false))])
  (.seq (.seq (rg [xo 9 (qm (tm 2)), xo 10 (.i (.len (tm 9))), xo 11 (qm (ci 0))])
  (.block 0 (.loop m_spec_spRows_l1)))
  (.seq (rg [xo 6 (qm (cb true))])
  .ret)))
def r_spec_spRows : List Res := [.tmp 6]
theorem c_spec_spRows : compiled Tryd.prog Tryd.f73 = some (m_spec_spRows, r_spec_spRows) := by kernel_rfl
theorem hb_spec_spRows : hasBody Tryd.prog 73 = true := by kernel_rfl
def L_spec_spRows_l1 (a2 : List (List Int)) (a1 : Int) (a0 : Int) (l4_m11 : Nat) : Option (Ctl Nat (Ctl Unit Bool)) :=
  cond (decide (((l4_m11 : Nat) : Int) < ((a2.length : Nat) : Int)))
  (Option.bind (a2[l4_m11]?) fun x10 =>
  Option.bind (cond (((x10.length : Nat) : Int) != a1)
      (some true)
      (Option.bind (L_spec_fdIn a0 x10) fun y13 =>
      some (!y13))) fun l11_m24 =>
  cond l11_m24
    (some (Ctl.out (Ctl.out false)))
    (og (l4_m11 + 1 < 4611686018427387904) <|
    some (Ctl.next (l4_m11 + 1))))
  (some (Ctl.out (Ctl.next ())))
def L_spec_spRows (a0 : Int) (a1 : Int) (a2 : List (List Int)) : Option Bool :=
  seqC (loopM (fun s_ : Nat => L_spec_spRows_l1 a2 a1 a0 s_) 4611686018427387904 0) fun _ =>
some true
def rv_spec_spRows (r : Bool) : RV := ⟨false, [(false, [.sc (.bool r)])]⟩
theorem ok_spec_spRows {a0 : Int} {a1 : Int} {a2 : List (List Int)} {r : Bool} (h : L_spec_spRows a0 a1 a2 = some r) : CallOK Tryd.prog Tab 73 [(ai a0), (ai a1), (.tree (.slice .int) a2)] (rv_spec_spRows r) := by
  refine call_of_ (by kernel_rfl) Tryd.func73 c_spec_spRows (n := 26) (by kernel_rfl) (by simp) (tl := [(0, (ai a0)), (1, (ai a1)), (2, (.tree (.slice .int) a2))]) rfl ?_
  unfold m_spec_spRows
  unfold L_spec_spRows at h
  refine seqR ?_
  refine awp_seqC h (fun (_ : Unit) S_ => S_ = ⟨mkTm [], mkOb (someL []), 2⟩) ?_ ?_
  · intro v_ h hk2
    refine seqR ?_
    refine awp_block_ ?_
    refine awp_loopL h (fun (l4_m11 : Nat) S_ => S_ = ⟨mkTm [(0, (ai a0)), (1, (ai a1)), (9, (.tree (.slice .int) a2)), (10, (ai ((a2.length : Nat) : Int))), (11, (ai ((l4_m11 : Nat) : Int)))], mkOb (someL []), 2⟩) ⟨_, (weak_ren []), rfl⟩ ?_
    rintro n_ l4_m11 _ c_ rfl h hn4
    (try dsimp only at h)
    unfold L_spec_spRows_l1 at h
    unfold m_spec_spRows_l1
    refine seqR ?_
    refine awp_seqv_ ?_
    rcases cond_some h with ⟨q7, h⟩ | ⟨q7, h⟩
    · have q7_ := of_decide_eq_true q7
      refine awp_condT_ q7 ?_
      refine awp_skip_ (tn_ ?_)
      refine ⟨_, Weak.refl _, ?_⟩
      refine awp_seqv_ ?_
      refine awp_block_ ?_
      refine awp_seqv_ ?_
      obtain ⟨x10, e10, h⟩ := ob_some h
      refine awp_region_ 6 ?_
      refine rs0 (.telt (.slice .int) x10 0) (s_idxT (t := (.slice .int)) (xs := a2) (k := .i64) (m := ((l4_m11 : Nat) : Int)) (by kernel_rfl) (by kernel_rfl) rfl (nat_nn _) rfl e10) ?_
      refine rsB 2 ?_
      refine rnil (tn_ ?_)
      refine ⟨_, Weak.refl _, ?_⟩
      refine awp_seqB h (fun (l11_m24 : Bool) S_ => S_ = ⟨mkTm [(0, (ai a0)), (1, (ai a1)), (9, (.tree (.slice .int) a2)), (10, (ai ((a2.length : Nat) : Int))), (11, (ai ((l4_m11 : Nat) : Int))), (24, (.bool l11_m24))], mkOb (someL []), 2⟩) ?_ ?_
      · intro v_ h
        rcases cond_some h with ⟨q12, h⟩ | ⟨q12, h⟩
        · refine awp_region_ 16 ?_
          refine rs0 (.tree .int x10) (by kernel_rfl) ?_
          refine rs0 (ai ((x10.length : Nat) : Int)) (by kernel_rfl) ?_
          refine rs0 (ai a1) (by kernel_rfl) ?_
          refine rs0 (.bool (((x10.length : Nat) : Int) != a1)) (by kernel_rfl) ?_
          refine rs0 (.bool (((x10.length : Nat) : Int) != a1)) (by kernel_rfl) ?_
          refine rs0 (.tup []) (s_skip (by kernel_rfl) q12) ?_
          refine rs0 (.tup []) (s_skip (by kernel_rfl) q12) ?_
          refine rs0 (.tup []) (s_skip (by kernel_rfl) q12) ?_
          refine rs0 (.tup []) (s_skip (by kernel_rfl) q12) ?_
          refine rs0 (.bool true) (s_pickT (by kernel_rfl) q12) ?_
          refine rnil (tn_ ?_)
          obtain rfl := Option.some.inj h
          exact ⟨_, (weak_ren []), rfl⟩
        obtain ⟨y13, h13, h⟩ := ob_some h
        refine awp_region_ 16 ?_
        refine rs0 (.tree .int x10) (by kernel_rfl) ?_
        refine rs0 (ai ((x10.length : Nat) : Int)) (by kernel_rfl) ?_
        refine rs0 (ai a1) (by kernel_rfl) ?_
        refine rs0 (.bool (((x10.length : Nat) : Int) != a1)) (by kernel_rfl) ?_
        refine rs0 (.bool (((x10.length : Nat) : Int) != a1)) (by kernel_rfl) ?_
        refine rs0 (ai a0) (s_gd (by kernel_rfl) q12 (by kernel_rfl)) ?_
        refine rs0 (.tree .int x10) (s_gd (by kernel_rfl) q12 (by kernel_rfl)) ?_
        refine rcall (.bool y13) [] [(ai a0), (.tree .int x10)] _ (caps := []) (args0 := [(ai a0), (.tree .int x10)]) (gdOK_b (by kernel_rfl) q12) (by kernel_rfl) (ok_spec_fdIn h13) hb_spec_fdIn ?_
        refine rs0 (.bool (!y13)) (s_gd (by kernel_rfl) q12 (by kernel_rfl)) ?_
        refine rs0 (.bool (!y13)) (s_pickF (by kernel_rfl) q12) ?_
        refine rnil (tn_ ?_)
        obtain rfl := Option.some.inj h
        exact ⟨_, (weak_ren []), rfl⟩
      rintro l11_m24 _ rfl h
      (try dsimp only at h)
      rcases cond_some h with ⟨q14, h⟩ | ⟨q14, h⟩
      · refine awp_condT_ q14 ?_
        refine seqR ?_
        refine awp_ret_ (br_ (tr_ (tr_ (br_ (tr_ ?_)))))
        obtain rfl := Option.some.inj h
        have h := hn4
        (try dsimp only at h)
        obtain rfl := Option.some.inj h
        have h := hk2
        (try dsimp only at h)
        obtain rfl := Option.some.inj h
        exact ret_ [(.bool false)] (p_one rfl (l_sc (by kernel_rfl)) p_nil)
      refine awp_condF_ q14 ?_
      refine awp_skip_ (bn_ (tn_ ?_))
      refine ⟨_, Weak.refl _, ?_⟩
      obtain ⟨g16, h⟩ := og_some h
      refine awp_region_ 4 ?_
      refine rs0 (ai ((l4_m11 + 1 : Nat) : Int)) (s_add1 (j := l4_m11) (by kernel_rfl) (by kernel_rfl) g16) ?_
      refine rsB 1 ?_
      refine rnil (tn_ ?_)
      obtain rfl := Option.some.inj h
      exact ⟨l4_m11 + 1, _, (weak_ren []), rfl, hn4⟩
    have q7_ := of_decide_eq_false q7
    refine awp_condF_ q7 ?_
    refine awp_exit_ (te_ (te_ (be_ (tn_ ?_))))
    obtain rfl := Option.some.inj h
    have h := hn4
    (try dsimp only at h)
    obtain rfl := Option.some.inj h
    exact ⟨(), _, rfl, (weak_ren []), rfl⟩
  rintro _ _ rfl h
  (try dsimp only at h)
  refine seqR ?_
  refine awp_ret_ ?_
  obtain rfl := Option.some.inj h
  exact ret_ [(.bool true)] (p_one rfl (l_sc (by kernel_rfl)) p_nil)
def m_spec_crLists : AC :=
  (.seq (rg [xo 6 (qm (cb false))])
  (.seq (rg [xo 7 (qm (tm 2)), xo 8 (.i (.len (tm 7))), xo 9 (qb .leq (tm 8) (ci 60)), xo 10 (qm (tm 9)), ⟨(some 11), (some (10, true)), (qm (tm 0))⟩, ⟨(some 12), (some (10, true)), (qm (tm 1))⟩, ⟨(some 13), (some (10, true)), (qm (tm 2))⟩, ⟨(some 14), (some (10, true)), (qc 73 [(tm 11), (tm 12), (tm 13)] [[], [], [(some (.slice .int))]])⟩, xo 15 (.i (.pick (tm 10) (tm 14) (cb false))), xo 6 (qm (tm 15))])
  .ret))
def r_spec_crLists : List Res := [.tmp 6]
theorem c_spec_crLists : compiled Tryd.prog Tryd.f52 = some (m_spec_crLists, r_spec_crLists) := by kernel_rfl
theorem hb_spec_crLists : hasBody Tryd.prog 52 = true := by kernel_rfl
def L_spec_crLists (a0 : Int) (a1 : Int) (a2 : List (List Int)) : Option Bool :=
  Option.bind (cond (decide (((a2.length : Nat) : Int) ≤ 60))
    (Option.bind (L_spec_spRows a0 a1 a2) fun y4 =>
    some y4)
    (some false)) fun l2_m6 =>
some l2_m6
def rv_spec_crLists (r : Bool) : RV := ⟨false, [(false, [.sc (.bool r)])]⟩
theorem ok_spec_crLists {a0 : Int} {a1 : Int} {a2 : List (List Int)} {r : Bool} (h : L_spec_crLists a0 a1 a2 = some r) : CallOK Tryd.prog Tab 52 [(ai a0), (ai a1), (.tree (.slice .int) a2)] (rv_spec_crLists r) := by
  refine call_of_ (by kernel_rfl) Tryd.func52 c_spec_crLists (n := 16) (by kernel_rfl) (by simp) (tl := [(0, (ai a0)), (1, (ai a1)), (2, (.tree (.slice .int) a2))]) rfl ?_
  unfold m_spec_crLists
  unfold L_spec_crLists at h
  refine seqR ?_
  refine awp_seqB h (fun (l2_m6 : Bool) S_ => S_ = ⟨mkTm [(6, (.bool l2_m6))], mkOb (someL []), 2⟩) ?_ ?_
  · intro v_ h
    rcases cond_some h with ⟨q3, h⟩ | ⟨q3, h⟩
    · have q3_ := of_decide_eq_true q3
      obtain ⟨y4, h4, h⟩ := ob_some h
      refine awp_region_ 12 ?_
      refine rs0 (.tree (.slice .int) a2) (by kernel_rfl) ?_
      refine rs0 (ai ((a2.length : Nat) : Int)) (by kernel_rfl) ?_
      refine rs0 (.bool (decide (((a2.length : Nat) : Int) ≤ 60))) (by kernel_rfl) ?_
      refine rs0 (.bool (decide (((a2.length : Nat) : Int) ≤ 60))) (by kernel_rfl) ?_
      refine rs0 (ai a0) (s_gd (by kernel_rfl) q3 (by kernel_rfl)) ?_
      refine rs0 (ai a1) (s_gd (by kernel_rfl) q3 (by kernel_rfl)) ?_
      refine rs0 (.tree (.slice .int) a2) (s_gd (by kernel_rfl) q3 (by kernel_rfl)) ?_
      refine rcall (.bool y4) [] [(ai a0), (ai a1), (.tree (.slice .int) a2)] _ (caps := []) (args0 := [(ai a0), (ai a1), (.tree (.slice .int) a2)]) (gdOK_b (by kernel_rfl) q3) (by kernel_rfl) (ok_spec_spRows h4) hb_spec_spRows ?_
      refine rs0 (.bool y4) (s_pickT (by kernel_rfl) q3) ?_
      refine rsB 1 ?_
      refine rnil (tn_ ?_)
      obtain rfl := Option.some.inj h
      exact ⟨_, (weak_ren []), rfl⟩
    have q3_ := of_decide_eq_false q3
    refine awp_region_ 12 ?_
    refine rs0 (.tree (.slice .int) a2) (by kernel_rfl) ?_
    refine rs0 (ai ((a2.length : Nat) : Int)) (by kernel_rfl) ?_
    refine rs0 (.bool (decide (((a2.length : Nat) : Int) ≤ 60))) (by kernel_rfl) ?_
    refine rs0 (.bool (decide (((a2.length : Nat) : Int) ≤ 60))) (by kernel_rfl) ?_
    refine rs0 (.tup []) (s_skip (by kernel_rfl) q3) ?_
    refine rs0 (.tup []) (s_skip (by kernel_rfl) q3) ?_
    refine rs0 (.tup []) (s_skip (by kernel_rfl) q3) ?_
    refine rs0 (.tup []) (s_skip (by kernel_rfl) q3) ?_
    refine rs0 (.bool false) (s_pickF (by kernel_rfl) q3) ?_
    refine rsB 1 ?_
    refine rnil (tn_ ?_)
    obtain rfl := Option.some.inj h
    exact ⟨_, (weak_ren []), rfl⟩
  rintro l2_m6 _ rfl h
  (try dsimp only at h)
  refine awp_ret_ ?_
  obtain rfl := Option.some.inj h
  exact ret_ [(.bool l2_m6)] (p_one rfl (l_sc (by kernel_rfl)) p_nil)
def m_spec_RunProgram_l1 : AC :=
  (.seq (rg [xo 32 (qb .lss (tm 31) (tm 30))])
  (.seq (.cond (tm 32)
    .skip
    (.exit 0))
  (.seq (.block 1 (.seq (rg [xo 33 (qx 1 (tm 29) (tm 31)), xo 34 (ql (tm 33)), xo 11 (qm (tm 34))])
  (.seq (rg [xo 36 (qm (tm 0)), xo 37 (.i (.ld false 5 (tm 4))), xo 38 (qm (tm 8)), xo 39 (qm (tm 11)), ⟨(some 40), none, (qc 43 [(tm 36), (tm 37), (tm 38), (tm 39)] [[], [none, none, none, none, (some (.pair .int (.pair .int (.pair .int (.pair .int .int)))))], [(some .int)], [(some .int)]])⟩, xo 35 (qm (tm 40)), xo 41 (.i (.extr 0 (tm 35))), xo 42 (.i (.extr 1 (tm 35))), xo 12 (qm (tm 41)), xo 13 (qm (tm 42))])
  (.seq (rg [xo 43 (qm (tm 9)), xo 44 (qm (tm 13)), xo 45 (.mkV 33 (.slice .int) 1 [(tm 44)]), xo 46 (.appV 33 (.slice .int) 24 (tm 43) (tm 45)), xo 9 (qm (tm 46))])
  (rg [xo 47 (qm (tm 12)), xo 8 (qm (tm 47))])))))
  (rg [xo 48 (qb .add (tm 31) (ci 1)), xo 31 (qm (tm 48))]))))
def m_spec_RunProgram : AC :=
  (.seq (rg [xo 4 (.i (.box 29 (tm 1))), xo 6 (qm (.cst .nils)), xo 7 (qm (cb false))])
  (.seq (.seq (rg [xo 14 (qm (tm 0)), xo 15 (.i (.ld false 5 (tm 4))), ⟨(some 16), none, (qc 33 [(tm 14), (tm 15)] [[], [none, none, none, none, (some (.pair .int (.pair .int (.pair .int (.pair .int .int)))))]])⟩, xo 17 (.i (.not (tm 16))), xo 18 (qm (tm 17)), ⟨(some 19), (some (18, false)), (qm (tm 0))⟩, ⟨(some 20), (some (18, false)), (qf 0 (tm 4))⟩, ⟨(some 21), (some (18, false)), (ql (tm 20))⟩, ⟨(some 22), (some (18, false)), (qm (tm 2))⟩, ⟨(some 23), (some (18, false)), (qc 52 [(tm 19), (tm 21), (tm 22)] [[], [], [(some (.slice .int))]])⟩, ⟨(some 24), (some (18, false)), (.i (.not (tm 23)))⟩, xo 25 (.i (.pick (tm 18) (cb true) (tm 24)))])
  (.cond (tm 25)
    (.seq (rg [xo 6 (qm (.cst .nils)), xo 7 (qm (cb false))])
    .ret)
    .skip))
  (.seq (rg [xo 26 (qf 2 (tm 4)), xo 27 (ql (tm 26)), xo 28 (.make 3 .int 8 (tm 27) (tm 27)), xo 8 (qm (tm 28))])
  (.seq (rg [xo 9 (qm (.cst .nils))])
  (.seq (.seq (rg [xo 29 (qm (tm 2)), xo 30 (.i (.len (tm 29))), xo 31 (qm (ci 0))])
  (.block 0 (.loop m_spec_RunProgram_l1)))
  (.seq (rg [xo 49 (qm (tm 9)), xo 6 (qm (tm 49)), xo 7 (qm (cb true))])
  .ret))))))
def r_spec_RunProgram : List Res := [.tmp 6, .tmp 7]
theorem c_spec_RunProgram : compiled Tryd.prog Tryd.f26 = some (m_spec_RunProgram, r_spec_RunProgram) := by kernel_rfl
theorem hb_spec_RunProgram : hasBody Tryd.prog 26 = true := by kernel_rfl
def L_spec_RunProgram_l1 (a2 : List (List Int)) (a0 : Int) (a1_0 : Int) (a1_1 : Int) (a1_2 : Int) (a1_3 : Int) (a1_4 : List (Int × Int × Int × Int × Int)) (l15_m31 : Nat) (l15_m8 : List Int) (l15_m9 : List (List Int)) : Option (Ctl (Nat × List Int × List (List Int)) (List (List Int))) :=
  cond (decide (((l15_m31 : Nat) : Int) < ((a2.length : Nat) : Int)))
  (Option.bind (a2[l15_m31]?) fun x21 =>
  Option.bind (L_spec_cmStep a0 a1_0 a1_1 a1_2 a1_3 a1_4 l15_m8 x21) fun y23 =>
  og (l15_m9.length + 1 ≤ 1073741824 ∧ (l15_m9.length + 1) * 24 ≤ 140737488355328) <|
  og (l15_m31 + 1 < 4611686018427387904) <|
  some (Ctl.next (l15_m31 + 1, y23.1, l15_m9 ++ [y23.2])))
  (some (Ctl.out l15_m9))
def L_spec_RunProgram (a0 : Int) (a1_0 : Int) (a1_1 : Int) (a1_2 : Int) (a1_3 : Int) (a1_4 : List (Int × Int × Int × Int × Int)) (a2 : List (List Int)) : Option (Bool × List (List Int)) :=
  Option.bind (Option.bind (L_spec_cmGood a0 a1_0 a1_1 a1_2 a1_3 a1_4) fun y5 =>
  cond (!y5)
    (some true)
    (Option.bind (L_spec_crLists a0 a1_0 a2) fun y7 =>
    some (!y7))) fun l4_m25 =>
cond l4_m25
  (some (false, ([] : List (List Int))))
  (og (0 ≤ a1_2 ∧ a1_2 ≤ a1_2 ∧ a1_2 ≤ 1073741824 ∧ (8 : Int) * a1_2 ≤ 140737488355328) <|
  Option.bind (loopM (fun s_ : Nat × List Int × List (List Int) => L_spec_RunProgram_l1 a2 a0 a1_0 a1_1 a1_2 a1_3 a1_4 s_.1 s_.2.1 s_.2.2) 4611686018427387904 (0, List.replicate a1_2.toNat (0 : Int), ([] : List (List Int)))) fun l13_m9 =>
  some (true, l13_m9))
theorem ok_spec_RunProgram {a0 : Int} {a1_0 : Int} {a1_1 : Int} {a1_2 : Int} {a1_3 : Int} {a1_4 : List (Int × Int × Int × Int × Int)} {a2 : List (List Int)} {r : Bool × List (List Int)} (h : L_spec_RunProgram a0 a1_0 a1_1 a1_2 a1_3 a1_4 a2 = some r) : CallM Tryd.prog Tab 26 [(ai a0), (.agg [(ai a1_0), (ai a1_1), (ai a1_2), (ai a1_3), (.tree (.pair .int (.pair .int (.pair .int (.pair .int .int)))) a1_4)]), (.tree (.slice .int) a2)] [] (.tup [(.own (oi 0 1) (.slice .int) 0 r.2.length), (.bool r.1)]) [((oi 0 1), .mat 33 (oi 1 1) .int r.2), ((oi 1 1), .pool 3 .int r.2)] := by
  refine callM_of_ (by kernel_rfl) Tryd.func26 c_spec_RunProgram (n := 50) (by kernel_rfl) (by simp) (tl := [(0, (ai a0)), (1, (.agg [(ai a1_0), (ai a1_1), (ai a1_2), (ai a1_3), (.tree (.pair .int (.pair .int (.pair .int (.pair .int .int)))) a1_4)])), (2, (.tree (.slice .int) a2))]) rfl (by kernel_rfl) trivial ⟨⟨3, (.tail _ (.head _))⟩, ⟨trivial, trivial⟩⟩ ?_
  unfold m_spec_RunProgram
  unfold L_spec_RunProgram at h
  refine seqR ?_
  refine awp_seqv_ ?_
  refine awp_seqB h (fun (l4_m25 : Bool) S_ => S_ = ⟨mkTm [(0, (ai a0)), (2, (.tree (.slice .int) a2)), (4, (.box (oi 0 1) 0)), (25, (.bool l4_m25))], mkOb (someL [((oi 0 1), .cells 29 [(ai a1_0), (ai a1_1), (ai a1_2), (ai a1_3), (.tree (.pair .int (.pair .int (.pair .int (.pair .int .int)))) a1_4)])]), 2⟩) ?_ ?_
  · intro v_ h
    obtain ⟨y5, h5, h⟩ := ob_some h
    rcases cond_some h with ⟨q6, h⟩ | ⟨q6, h⟩
    · refine awp_region_ 16 ?_
      refine rs0 (ai a0) (by kernel_rfl) ?_
      refine rsl (.agg [(ai a1_0), (ai a1_1), (ai a1_2), (ai a1_3), (.tree (.pair .int (.pair .int (.pair .int (.pair .int .int)))) a1_4)]) (by kernel_rfl) ?_
      refine rcall (.bool y5) [] [(ai a0), (.agg [(ai a1_0), (ai a1_1), (ai a1_2), (ai a1_3), (.tree (.pair .int (.pair .int (.pair .int (.pair .int .int)))) a1_4)])] _ (caps := []) (args0 := [(ai a0), (.agg [(ai a1_0), (ai a1_1), (ai a1_2), (ai a1_3), (.tree (.pair .int (.pair .int (.pair .int (.pair .int .int)))) a1_4)])]) trivial (by kernel_rfl) (ok_spec_cmGood h5) hb_spec_cmGood ?_
      refine rs0 (.bool (!y5)) (by kernel_rfl) ?_
      refine rs0 (.bool (!y5)) (by kernel_rfl) ?_
      refine rs0 (.tup []) (s_skip (by kernel_rfl) q6) ?_
      refine rs0 (.tup []) (s_skip (by kernel_rfl) q6) ?_
      refine rs0 (.tup []) (s_skip (by kernel_rfl) q6) ?_
      refine rs0 (.tup []) (s_skip (by kernel_rfl) q6) ?_
      refine rs0 (.tup []) (s_skip (by kernel_rfl) q6) ?_
      refine rs0 (.tup []) (s_skip (by kernel_rfl) q6) ?_
      refine rs0 (.bool true) (s_pickT (by kernel_rfl) q6) ?_
      refine rnil (tn_ ?_)
      obtain rfl := Option.some.inj h
      exact ⟨_, (weak_ren [((oi 0 1), (oi 4 1))]), rfl⟩
    obtain ⟨y7, h7, h⟩ := ob_some h
    refine awp_region_ 16 ?_
    refine rs0 (ai a0) (by kernel_rfl) ?_
    refine rsl (.agg [(ai a1_0), (ai a1_1), (ai a1_2), (ai a1_3), (.tree (.pair .int (.pair .int (.pair .int (.pair .int .int)))) a1_4)]) (by kernel_rfl) ?_
    refine rcall (.bool y5) [] [(ai a0), (.agg [(ai a1_0), (ai a1_1), (ai a1_2), (ai a1_3), (.tree (.pair .int (.pair .int (.pair .int (.pair .int .int)))) a1_4)])] _ (caps := []) (args0 := [(ai a0), (.agg [(ai a1_0), (ai a1_1), (ai a1_2), (ai a1_3), (.tree (.pair .int (.pair .int (.pair .int (.pair .int .int)))) a1_4)])]) trivial (by kernel_rfl) (ok_spec_cmGood h5) hb_spec_cmGood ?_
    refine rs0 (.bool (!y5)) (by kernel_rfl) ?_
    refine rs0 (.bool (!y5)) (by kernel_rfl) ?_
    refine rs0 (ai a0) (s_gd (by kernel_rfl) q6 (by kernel_rfl)) ?_
    refine rs0 (.box (oi 4 1) 0) (s_gd (by kernel_rfl) q6 (by kernel_rfl)) ?_
    refine rsl (ai a1_0) (s_gd (by kernel_rfl) q6 (by kernel_rfl)) ?_
    refine rs0 (.tree (.slice .int) a2) (s_gd (by kernel_rfl) q6 (by kernel_rfl)) ?_
    refine rcall (.bool y7) [] [(ai a0), (ai a1_0), (.tree (.slice .int) a2)] _ (caps := []) (args0 := [(ai a0), (ai a1_0), (.tree (.slice .int) a2)]) (gdOK_b (by kernel_rfl) q6) (by kernel_rfl) (ok_spec_crLists h7) hb_spec_crLists ?_
    refine rs0 (.bool (!y7)) (s_gd (by kernel_rfl) q6 (by kernel_rfl)) ?_
    refine rs0 (.bool (!y7)) (s_pickF (by kernel_rfl) q6) ?_
    refine rnil (tn_ ?_)
    obtain rfl := Option.some.inj h
    exact ⟨_, (weak_ren [((oi 0 1), (oi 4 1))]), rfl⟩
  rintro l4_m25 _ rfl h
  (try dsimp only at h)
  rcases cond_some h with ⟨q8, h⟩ | ⟨q8, h⟩
  · refine awp_condT_ q8 ?_
    refine seqR ?_
    refine awp_ret_ (tr_ ?_)
    obtain rfl := Option.some.inj h
    exact retM_ [(.own (oi 0 1) (.slice .int) 0 ((([] : List (List Int))).length)), (.bool false)] ((weak_nilV_ 6 33 (.slice .int) (by kernel_rfl)).trans ((weak_none_ (e1 := 33) (n := 0) 9000 (oi 6 4) 3 .int (by kernel_rfl) (by kernel_rfl) rfl (by kernel_rfl) (by kernel_rfl)).trans (weak_ren (tl := [(6, (.own (oi 0 1) (.slice .int) 0 (([] : List (List Int))).length)), (7, (.bool false))]) (g := 2) [((oi 0 1), (oi 6 4)), ((oi 1 1), (oi 9000 5))])))
  refine awp_condF_ q8 ?_
  refine awp_skip_ (tn_ ?_)
  refine ⟨_, Weak.refl _, ?_⟩
  refine awp_seqv_ ?_
  obtain ⟨g11, h⟩ := og_some h
  refine awp_region_ 6 ?_
  refine rs0 (.box (oi 0 1) 2) (by kernel_rfl) ?_
  refine rsl (ai a1_2) (by kernel_rfl) ?_
  refine rs1 (.own (oi 28 4) .int 0 a1_2.toNat) (oi 28 4) (.arr 3 .int (List.replicate a1_2.toNat (0 : Int))) (s_make (t := .int) (k := .i64) (k' := .i64) (m := a1_2) (m' := a1_2) (by kernel_rfl) (by kernel_rfl) g11 rfl) ?_
  refine rsB 1 ?_
  refine rnil (tn_ ?_)
  refine ⟨_, Weak.refl _, ?_⟩
  refine seqR ?_
  refine awp_seqB h (fun (l13_m9 : List (List Int)) S_ => S_ = ⟨mkTm [(9, (.own (oi 0 1) (.slice .int) 0 l13_m9.length))], mkOb (someL [((oi 0 1), .mat 33 (oi 1 1) .int l13_m9), ((oi 1 1), .pool 3 .int l13_m9)]), 2⟩) ?_ ?_
  · intro v_ h
    refine seqR ?_
    refine awp_block_ ?_
    refine awp_loopL h (fun t_ S_ => ∃ (l15_m31 : Nat), ∃ (l15_m8 : List Int), ∃ (l15_m9 : List (List Int)), t_ = (l15_m31, l15_m8, l15_m9) ∧ S_ = ⟨mkTm [(0, (ai a0)), (4, (.box (oi 0 1) 0)), (8, (.own (oi 1 1) .int 0 l15_m8.length)), (9, (.own (oi 2 1) (.slice .int) 0 l15_m9.length)), (29, (.tree (.slice .int) a2)), (30, (ai ((a2.length : Nat) : Int))), (31, (ai ((l15_m31 : Nat) : Int)))], mkOb (someL [((oi 0 1), .cells 29 [(ai a1_0), (ai a1_1), (ai a1_2), (ai a1_3), (.tree (.pair .int (.pair .int (.pair .int (.pair .int .int)))) a1_4)]), ((oi 1 1), .arr 3 .int l15_m8), ((oi 2 1), .mat 33 (oi 3 1) .int l15_m9), ((oi 3 1), .pool 3 .int l15_m9)]), 2⟩) ⟨_, ((weak_tm_ 8 (.own (oi 28 4) .int 0 a1_2.toNat) (.own (oi 28 4) .int 0 ((List.replicate a1_2.toNat (0 : Int)).length)) (by kernel_rfl) (congrArg (fun z_ => ((.own (oi 28 4) .int 0 z_) : AV)) (List.length_replicate.symm : a1_2.toNat = (List.replicate a1_2.toNat (0 : Int)).length))).trans ((weak_nilV_ 9 33 (.slice .int) (by kernel_rfl)).trans ((weak_none_ (e1 := 33) (n := 0) 9000 (oi 9 10) 3 .int (by kernel_rfl) (by kernel_rfl) rfl (by kernel_rfl) (by kernel_rfl)).trans (weak_ren [((oi 1 1), (oi 28 4)), ((oi 2 1), (oi 9 10)), ((oi 3 1), (oi 9000 11))])))), ⟨0, List.replicate a1_2.toNat (0 : Int), ([] : List (List Int)), rfl, rfl⟩⟩ ?_
    rintro n_ _ _ c_ ⟨l15_m31, l15_m8, l15_m9, rfl, rfl⟩ h hn15
    (try dsimp only at h)
    unfold L_spec_RunProgram_l1 at h
    unfold m_spec_RunProgram_l1
    refine seqR ?_
    refine awp_seqv_ ?_
    rcases cond_some h with ⟨q18, h⟩ | ⟨q18, h⟩
    · have q18_ := of_decide_eq_true q18
      refine awp_condT_ q18 ?_
      refine awp_skip_ (tn_ ?_)
      refine ⟨_, Weak.refl _, ?_⟩
      refine awp_seqv_ ?_
      refine awp_block_ ?_
      refine awp_seqv_ ?_
      obtain ⟨x21, e21, h⟩ := ob_some h
      refine awp_region_ 6 ?_
      refine rs0 (.telt (.slice .int) x21 0) (s_idxT (t := (.slice .int)) (xs := a2) (k := .i64) (m := ((l15_m31 : Nat) : Int)) (by kernel_rfl) (by kernel_rfl) rfl (nat_nn _) rfl e21) ?_
      refine rsB 2 ?_
      refine rnil (tn_ ?_)
      refine ⟨_, Weak.refl _, ?_⟩
      refine awp_seqv_ ?_
      obtain ⟨y23, h23, h⟩ := ob_some h
      refine awp_region_ 16 ?_
      refine rs0 (ai a0) (by kernel_rfl) ?_
      refine rsl (.agg [(ai a1_0), (ai a1_1), (ai a1_2), (ai a1_3), (.tree (.pair .int (.pair .int (.pair .int (.pair .int .int)))) a1_4)]) (by kernel_rfl) ?_
      refine rs0 (.own (oi 1 1) .int 0 l15_m8.length) (by kernel_rfl) ?_
      refine rs0 (.tree .int x21) (by kernel_rfl) ?_
      refine rcall (.tup [(.own (oi 640 10) .int 0 y23.1.length), (.own (oi 641 10) .int 0 y23.2.length)]) [((oi 640 10), some (.arr 3 .int y23.1)), ((oi 641 10), some (.arr 3 .int y23.2))] [(ai a0), (.agg [(ai a1_0), (ai a1_1), (ai a1_2), (ai a1_3), (.tree (.pair .int (.pair .int (.pair .int (.pair .int .int)))) a1_4)]), (.own (oi 1 1) .int 0 l15_m8.length), (.tree .int x21)] _ (caps := []) (args0 := [(ai a0), (.agg [(ai a1_0), (ai a1_1), (ai a1_2), (ai a1_3), (.tree (.pair .int (.pair .int (.pair .int (.pair .int .int)))) a1_4)]), (.tree .int l15_m8), (.tree .int x21)]) trivial (gm_cons (by kernel_rfl) (gm_cons (by kernel_rfl) (gm_cons (gd_own (e := 3) (by kernel_rfl) rfl) (gm_cons (by kernel_rfl) gm_nil)))) (ok_spec_cmStep h23) hb_spec_cmStep ?_
      refine rsB 5 ?_
      refine rnil (tn_ ?_)
      refine ⟨_, Weak.refl _, ?_⟩
      refine awp_seqv_ ?_
      obtain ⟨g25, h⟩ := og_some h
      refine awp_region_ 21 ?_
      refine rs0 (.own (oi 2 1) (.slice .int) 0 l15_m9.length) (by kernel_rfl) ?_
      refine rs0 (.own (oi 641 10) .int 0 y23.2.length) (by kernel_rfl) ?_
      refine rmkV (.own (oi 45 18) (.slice .int) 0 1) (oi 45 18) (.vec 33 1 1 ([(.own (oi 641 10) .int 0 y23.2.length)])) trivial (s_mkV (by kernel_rfl)) ?_
      refine rs2 (.own (oi 2 19) (.slice .int) 0 (l15_m9.length + 1)) (oi 2 1) (oi 2 19) (.vec 33 1 (l15_m9.length + 1) (hdL (oi 3 1) .int l15_m9 ++ [(.own (oi 641 10) .int 0 y23.2.length)])) (s_appVO (u := .int) (t' := (.slice .int)) (t2 := (.slice .int)) (o := (oi 2 1)) (q := (oi 45 18)) (e2 := 33) (p := (oi 3 1)) (xss := l15_m9) (cs := [(.own (oi 641 10) .int 0 y23.2.length)]) (len := l15_m9.length) (by kernel_rfl) (by kernel_rfl) rfl (by kernel_rfl) (by kernel_rfl) rfl g25) ?_
      refine rsB 1 ?_
      refine rnil (tn_ ?_)
      refine ⟨_, weak_app_ (e1 := 33) (e := 3) (u := .int) (n := l15_m9.length + 1) (len := y23.2.length) (row := y23.2) (ys := y23.2) (xss := l15_m9) 9000 (oi 2 19) (oi 3 1) (oi 641 10) (by kernel_rfl) (by kernel_rfl) rfl (by kernel_rfl) (by kernel_rfl) (tw_le rfl) (tw_eq rfl) (by kernel_rfl) (by kernel_rfl) (by kernel_rfl), ?_⟩
      refine awp_region_ 24 ?_
      refine rsB 2 ?_
      refine rnil (bn_ (tn_ ?_))
      refine ⟨_, Weak.refl _, ?_⟩
      obtain ⟨g26, h⟩ := og_some h
      refine awp_region_ 26 ?_
      refine rs0 (ai ((l15_m31 + 1 : Nat) : Int)) (s_add1 (j := l15_m31) (by kernel_rfl) (by kernel_rfl) g26) ?_
      refine rsB 1 ?_
      refine rnil (tn_ ?_)
      obtain rfl := Option.some.inj h
      exact ⟨(l15_m31 + 1, y23.1, l15_m9 ++ [y23.2]), _, ((weak_tm_ 9 (.own (oi 2 19) (.slice .int) 0 (l15_m9.length + 1)) (.own (oi 2 19) (.slice .int) 0 ((l15_m9 ++ [y23.2]).length)) (by kernel_rfl) (congrArg (fun z_ => ((.own (oi 2 19) (.slice .int) 0 z_) : AV)) ((by simp) : l15_m9.length + 1 = (l15_m9 ++ [y23.2]).length))).trans (weak_ren [((oi 1 1), (oi 640 10)), ((oi 2 1), (oi 2 19)), ((oi 3 1), (oi 9000 21))])), ⟨l15_m31 + 1, y23.1, l15_m9 ++ [y23.2], rfl, rfl⟩, hn15⟩
    have q18_ := of_decide_eq_false q18
    refine awp_condF_ q18 ?_
    refine awp_exit_ (te_ (te_ (be_ (tn_ ?_))))
    obtain rfl := Option.some.inj h
    have h := hn15
    (try dsimp only at h)
    obtain rfl := Option.some.inj h
    exact ⟨_, (weak_ren [((oi 0 1), (oi 2 1)), ((oi 1 1), (oi 3 1))]), rfl⟩
  rintro l13_m9 _ rfl h
  (try dsimp only at h)
  refine seqR ?_
  refine awp_ret_ ?_
  obtain rfl := Option.some.inj h
  exact retM_ [(.own (oi 0 1) (.slice .int) 0 l13_m9.length), (.bool true)] (weak_ren (tl := [(6, (.own (oi 0 1) (.slice .int) 0 l13_m9.length)), (7, (.bool true))]) (g := 2) [])
def m_impl_areVectors_l1 : AC :=
  (.seq (rg [xo 12 (qb .lss (tm 11) (tm 10))])
  (.seq (.cond (tm 12)
    .skip
    (.exit 0))
  (.seq (.block 1 (.seq (rg [xo 13 (qx 1 (tm 9) (tm 11)), xo 14 (ql (tm 13)), xo 8 (qm (tm 14))])
  (.seq (rg [xo 15 (qm (tm 0)), xo 16 (qm (tm 8)), xo 17 (qm (tm 2)), xo 18 (qc 44 [(tm 15), (tm 16), (tm 17)] [[], [(some .int)], []]), xo 19 (.i (.not (tm 18)))])
  (.cond (tm 19)
    (.seq (rg [xo 6 (qm (cb false))])
    .ret)
    .skip))))
  (rg [xo 20 (qb .add (tm 11) (ci 1)), xo 11 (qm (tm 20))]))))
def m_impl_areVectors : AC :=
  (.seq (rg [xo 6 (qm (cb false))])
  (.seq (.seq (rg [xo 9 (qm (tm 1)), xo 10 (.i (.len (tm 9))), xo 11 (qm (ci 0))])
  (.block 0 (.loop m_impl_areVectors_l1)))
  (.seq (rg [xo 6 (qm (cb true))])
  .ret)))
def r_impl_areVectors : List Res := [.tmp 6]
theorem c_impl_areVectors : compiled Tryd.prog Tryd.f74 = some (m_impl_areVectors, r_impl_areVectors) := by kernel_rfl
theorem hb_impl_areVectors : hasBody Tryd.prog 74 = true := by kernel_rfl
def L_impl_areVectors_l1 (a1 : List (List Int)) (a0 : Int) (a2 : Int) (l4_m11 : Nat) : Option (Ctl Nat (Ctl Unit Bool)) :=
  cond (decide (((l4_m11 : Nat) : Int) < ((a1.length : Nat) : Int)))
  (Option.bind (a1[l4_m11]?) fun x10 =>
  Option.bind (L_impl_isVector a0 x10 a2) fun y12 =>
  cond (!y12)
    (some (Ctl.out (Ctl.out false)))
    (og (l4_m11 + 1 < 4611686018427387904) <|
    some (Ctl.next (l4_m11 + 1))))
  (some (Ctl.out (Ctl.next ())))
def L_impl_areVectors (a0 : Int) (a1 : List (List Int)) (a2 : Int) : Option Bool :=
  seqC (loopM (fun s_ : Nat => L_impl_areVectors_l1 a1 a0 a2 s_) 4611686018427387904 0) fun _ =>
some true
def rv_impl_areVectors (r : Bool) : RV := ⟨false, [(false, [.sc (.bool r)])]⟩
theorem ok_impl_areVectors {a0 : Int} {a1 : List (List Int)} {a2 : Int} {r : Bool} (h : L_impl_areVectors a0 a1 a2 = some r) : CallOK Tryd.prog Tab 74 [(ai a0), (.tree (.slice .int) a1), (ai a2)] (rv_impl_areVectors r) := by
  refine call_of_ (by kernel_rfl) Tryd.func74 c_impl_areVectors (n := 21) (by kernel_rfl) (by simp) (tl := [(0, (ai a0)), (1, (.tree (.slice .int) a1)), (2, (ai a2))]) rfl ?_
  unfold m_impl_areVectors
  unfold L_impl_areVectors at h
  refine seqR ?_
  refine awp_seqC h (fun (_ : Unit) S_ => S_ = ⟨mkTm [], mkOb (someL []), 2⟩) ?_ ?_
  · intro v_ h hk2
    refine seqR ?_
    refine awp_block_ ?_
    refine awp_loopL h (fun (l4_m11 : Nat) S_ => S_ = ⟨mkTm [(0, (ai a0)), (2, (ai a2)), (9, (.tree (.slice .int) a1)), (10, (ai ((a1.length : Nat) : Int))), (11, (ai ((l4_m11 : Nat) : Int)))], mkOb (someL []), 2⟩) ⟨_, (weak_ren []), rfl⟩ ?_
    rintro n_ l4_m11 _ c_ rfl h hn4
    (try dsimp only at h)
    unfold L_impl_areVectors_l1 at h
    unfold m_impl_areVectors_l1
    refine seqR ?_
    refine awp_seqv_ ?_
    rcases cond_some h with ⟨q7, h⟩ | ⟨q7, h⟩
    · have q7_ := of_decide_eq_true q7
      refine awp_condT_ q7 ?_
      refine awp_skip_ (tn_ ?_)
      refine ⟨_, Weak.refl _, ?_⟩
      refine awp_seqv_ ?_
      refine awp_block_ ?_
      refine awp_seqv_ ?_
      obtain ⟨x10, e10, h⟩ := ob_some h
      refine awp_region_ 6 ?_
      refine rs0 (.telt (.slice .int) x10 0) (s_idxT (t := (.slice .int)) (xs := a1) (k := .i64) (m := ((l4_m11 : Nat) : Int)) (by kernel_rfl) (by kernel_rfl) rfl (nat_nn _) rfl e10) ?_
      refine rsB 2 ?_
      refine rnil (tn_ ?_)
      refine ⟨_, Weak.refl _, ?_⟩
      refine awp_seqv_ ?_
      obtain ⟨y12, h12, h⟩ := ob_some h
      refine awp_region_ 11 ?_
      refine rs0 (ai a0) (by kernel_rfl) ?_
      refine rs0 (.tree .int x10) (by kernel_rfl) ?_
      refine rs0 (ai a2) (by kernel_rfl) ?_
      refine rcall (.bool y12) [] [(ai a0), (.tree .int x10), (ai a2)] _ (caps := []) (args0 := [(ai a0), (.tree .int x10), (ai a2)]) trivial (by kernel_rfl) (ok_impl_isVector h12) hb_impl_isVector ?_
      refine rsB 1 ?_
      refine rnil (tn_ ?_)
      refine ⟨_, Weak.refl _, ?_⟩
      rcases cond_some h with ⟨q13, h⟩ | ⟨q13, h⟩
      · refine awp_condT_ q13 ?_
        refine seqR ?_
        refine awp_ret_ (br_ (tr_ (tr_ (br_ (tr_ ?_)))))
        obtain rfl := Option.some.inj h
        have h := hn4
        (try dsimp only at h)
        obtain rfl := Option.some.inj h
        have h := hk2
        (try dsimp only at h)
        obtain rfl := Option.some.inj h
        exact ret_ [(.bool false)] (p_one rfl (l_sc (by kernel_rfl)) p_nil)
      refine awp_condF_ q13 ?_
      refine awp_skip_ (bn_ (tn_ ?_))
      refine ⟨_, Weak.refl _, ?_⟩
      obtain ⟨g15, h⟩ := og_some h
      refine awp_region_ 13 ?_
      refine rs0 (ai ((l4_m11 + 1 : Nat) : Int)) (s_add1 (j := l4_m11) (by kernel_rfl) (by kernel_rfl) g15) ?_
      refine rsB 1 ?_
      refine rnil (tn_ ?_)
      obtain rfl := Option.some.inj h
      exact ⟨l4_m11 + 1, _, (weak_ren []), rfl, hn4⟩
    have q7_ := of_decide_eq_false q7
    refine awp_condF_ q7 ?_
    refine awp_exit_ (te_ (te_ (be_ (tn_ ?_))))
    obtain rfl := Option.some.inj h
    have h := hn4
    (try dsimp only at h)
    obtain rfl := Option.some.inj h
    exact ⟨(), _, rfl, (weak_ren []), rfl⟩
  rintro _ _ rfl h
  (try dsimp only at h)
  refine seqR ?_
  refine awp_ret_ ?_
  obtain rfl := Option.some.inj h
  exact ret_ [(.bool true)] (p_one rfl (l_sc (by kernel_rfl)) p_nil)
def m_impl_isRun : AC :=
  (.seq (rg [xo 6 (qm (cb false))])
  (.seq (rg [xo 7 (qm (tm 1)), xo 8 (.i (.len (tm 7))), xo 9 (qb .leq (tm 8) (ci 60)), xo 10 (qm (tm 9)), ⟨(some 11), (some (10, true)), (qm (tm 0))⟩, ⟨(some 12), (some (10, true)), (qm (tm 1))⟩, ⟨(some 13), (some (10, true)), (qm (tm 2))⟩, ⟨(some 14), (some (10, true)), (qc 74 [(tm 11), (tm 12), (tm 13)] [[], [(some (.slice .int))], []])⟩, xo 15 (.i (.pick (tm 10) (tm 14) (cb false))), xo 6 (qm (tm 15))])
  .ret))
def r_impl_isRun : List Res := [.tmp 6]
theorem c_impl_isRun : compiled Tryd.prog Tryd.f53 = some (m_impl_isRun, r_impl_isRun) := by kernel_rfl
theorem hb_impl_isRun : hasBody Tryd.prog 53 = true := by kernel_rfl
def L_impl_isRun (a0 : Int) (a1 : List (List Int)) (a2 : Int) : Option Bool :=
  Option.bind (cond (decide (((a1.length : Nat) : Int) ≤ 60))
    (Option.bind (L_impl_areVectors a0 a1 a2) fun y4 =>
    some y4)
    (some false)) fun l2_m6 =>
some l2_m6
def rv_impl_isRun (r : Bool) : RV := ⟨false, [(false, [.sc (.bool r)])]⟩
theorem ok_impl_isRun {a0 : Int} {a1 : List (List Int)} {a2 : Int} {r : Bool} (h : L_impl_isRun a0 a1 a2 = some r) : CallOK Tryd.prog Tab 53 [(ai a0), (.tree (.slice .int) a1), (ai a2)] (rv_impl_isRun r) := by
  refine call_of_ (by kernel_rfl) Tryd.func53 c_impl_isRun (n := 16) (by kernel_rfl) (by simp) (tl := [(0, (ai a0)), (1, (.tree (.slice .int) a1)), (2, (ai a2))]) rfl ?_
  unfold m_impl_isRun
  unfold L_impl_isRun at h
  refine seqR ?_
  refine awp_seqB h (fun (l2_m6 : Bool) S_ => S_ = ⟨mkTm [(6, (.bool l2_m6))], mkOb (someL []), 2⟩) ?_ ?_
  · intro v_ h
    rcases cond_some h with ⟨q3, h⟩ | ⟨q3, h⟩
    · have q3_ := of_decide_eq_true q3
      obtain ⟨y4, h4, h⟩ := ob_some h
      refine awp_region_ 12 ?_
      refine rs0 (.tree (.slice .int) a1) (by kernel_rfl) ?_
      refine rs0 (ai ((a1.length : Nat) : Int)) (by kernel_rfl) ?_
      refine rs0 (.bool (decide (((a1.length : Nat) : Int) ≤ 60))) (by kernel_rfl) ?_
      refine rs0 (.bool (decide (((a1.length : Nat) : Int) ≤ 60))) (by kernel_rfl) ?_
      refine rs0 (ai a0) (s_gd (by kernel_rfl) q3 (by kernel_rfl)) ?_
      refine rs0 (.tree (.slice .int) a1) (s_gd (by kernel_rfl) q3 (by kernel_rfl)) ?_
      refine rs0 (ai a2) (s_gd (by kernel_rfl) q3 (by kernel_rfl)) ?_
      refine rcall (.bool y4) [] [(ai a0), (.tree (.slice .int) a1), (ai a2)] _ (caps := []) (args0 := [(ai a0), (.tree (.slice .int) a1), (ai a2)]) (gdOK_b (by kernel_rfl) q3) (by kernel_rfl) (ok_impl_areVectors h4) hb_impl_areVectors ?_
      refine rs0 (.bool y4) (s_pickT (by kernel_rfl) q3) ?_
      refine rsB 1 ?_
      refine rnil (tn_ ?_)
      obtain rfl := Option.some.inj h
      exact ⟨_, (weak_ren []), rfl⟩
    have q3_ := of_decide_eq_false q3
    refine awp_region_ 12 ?_
    refine rs0 (.tree (.slice .int) a1) (by kernel_rfl) ?_
    refine rs0 (ai ((a1.length : Nat) : Int)) (by kernel_rfl) ?_
    refine rs0 (.bool (decide (((a1.length : Nat) : Int) ≤ 60))) (by kernel_rfl) ?_
    refine rs0 (.bool (decide (((a1.length : Nat) : Int) ≤ 60))) (by kernel_rfl) ?_
    refine rs0 (.tup []) (s_skip (by kernel_rfl) q3) ?_
    refine rs0 (.tup []) (s_skip (by kernel_rfl) q3) ?_
    refine rs0 (.tup []) (s_skip (by kernel_rfl) q3) ?_
    refine rs0 (.tup []) (s_skip (by kernel_rfl) q3) ?_
    refine rs0 (.bool false) (s_pickF (by kernel_rfl) q3) ?_
    refine rsB 1 ?_
    refine rnil (tn_ ?_)
    obtain rfl := Option.some.inj h
    exact ⟨_, (weak_ren []), rfl⟩
  rintro l2_m6 _ rfl h
  (try dsimp only at h)
  refine awp_ret_ ?_
  obtain rfl := Option.some.inj h
  exact ret_ [(.bool l2_m6)] (p_one rfl (l_sc (by kernel_rfl)) p_nil)
def m_impl_RunProgram_l1 : AC :=
  (.seq (rg [xo 33 (qb .lss (tm 32) (tm 31))])
  (.seq (.cond (tm 33)
    .skip
    (.exit 0))
  (.seq (.block 1 (.seq (rg [xo 34 (qx 1 (tm 30) (tm 32)), xo 35 (ql (tm 34)), xo 11 (qm (tm 35))])
  (.seq (rg [xo 37 (.i (.ld false 5 (tm 4))), xo 38 (qm (tm 0)), xo 39 (qm (tm 9)), xo 40 (qm (tm 11)), ⟨(some 41), none, (qc 45 [(tm 37), (tm 38), (tm 39), (tm 40)] [[none, none, none, none, (some (.pair .int (.pair .int (.pair .int (.pair .int .int)))))], [], [(some .int)], [(some .int)]])⟩, xo 36 (qm (tm 41)), xo 42 (.i (.extr 0 (tm 36))), xo 43 (.i (.extr 1 (tm 36))), xo 12 (qm (tm 42)), xo 13 (qm (tm 43))])
  (.seq (rg [xo 44 (qm (tm 12)), xo 9 (qm (tm 44))])
  (rg [xo 45 (qm (tm 8)), xo 46 (qm (tm 13)), xo 47 (.mkV 33 (.slice .int) 1 [(tm 46)]), xo 48 (.appV 33 (.slice .int) 24 (tm 45) (tm 47)), xo 8 (qm (tm 48))])))))
  (rg [xo 49 (qb .add (tm 32) (ci 1)), xo 32 (qm (tm 49))]))))
def m_impl_RunProgram : AC :=
  (.seq (rg [xo 4 (.i (.box 29 (tm 1))), xo 6 (qm (.cst .nils)), xo 7 (qm (cb false))])
  (.seq (.seq (rg [xo 14 (qm (tm 0)), xo 15 (.i (.ld false 5 (tm 4))), ⟨(some 16), none, (qc 35 [(tm 14), (tm 15)] [[], [none, none, none, none, (some (.pair .int (.pair .int (.pair .int (.pair .int .int)))))]])⟩, xo 17 (.i (.not (tm 16))), xo 18 (qm (tm 17)), ⟨(some 19), (some (18, false)), (qm (tm 0))⟩, ⟨(some 20), (some (18, false)), (qm (tm 2))⟩, ⟨(some 21), (some (18, false)), (qf 0 (tm 4))⟩, ⟨(some 22), (some (18, false)), (ql (tm 21))⟩, ⟨(some 23), (some (18, false)), (qc 53 [(tm 19), (tm 20), (tm 22)] [[], [(some (.slice .int))], []])⟩, ⟨(some 24), (some (18, false)), (.i (.not (tm 23)))⟩, xo 25 (.i (.pick (tm 18) (cb true) (tm 24)))])
  (.cond (tm 25)
    (.seq (rg [xo 6 (qm (.cst .nils)), xo 7 (qm (cb false))])
    .ret)
    .skip))
  (.seq (rg [xo 26 (.mkV 33 (.slice .int) 1 []), xo 27 (qf 2 (tm 4)), xo 28 (ql (tm 27)), xo 29 (qc 54 [(tm 28)] [[]]), xo 8 (qm (tm 26)), xo 9 (qm (tm 29))])
  (.seq (.seq (rg [xo 30 (qm (tm 2)), xo 31 (.i (.len (tm 30))), xo 32 (qm (ci 0))])
  (.block 0 (.loop m_impl_RunProgram_l1)))
  (.seq (rg [xo 50 (qm (tm 8)), xo 6 (qm (tm 50)), xo 7 (qm (cb true))])
  .ret)))))
def r_impl_RunProgram : List Res := [.tmp 6, .tmp 7]
theorem c_impl_RunProgram : compiled Tryd.prog Tryd.f28 = some (m_impl_RunProgram, r_impl_RunProgram) := by kernel_rfl
theorem hb_impl_RunProgram : hasBody Tryd.prog 28 = true := by kernel_rfl
def L_impl_RunProgram_l1 (a2 : List (List Int)) (a1_0 : Int) (a1_1 : Int) (a1_2 : Int) (a1_3 : Int) (a1_4 : List (Int × Int × Int × Int × Int)) (a0 : Int) (l14_m32 : Nat) (l14_m8 : List (List Int)) (l14_m9 : List Int) : Option (Ctl (Nat × List (List Int) × List Int) (List (List Int))) :=
  cond (decide (((l14_m32 : Nat) : Int) < ((a2.length : Nat) : Int)))
  (Option.bind (a2[l14_m32]?) fun x20 =>
  Option.bind (L_impl_Program_step a1_0 a1_1 a1_2 a1_3 a1_4 a0 l14_m9 x20) fun y22 =>
  og (l14_m8.length + 1 ≤ 1073741824 ∧ (l14_m8.length + 1) * 24 ≤ 140737488355328) <|
  og (l14_m32 + 1 < 4611686018427387904) <|
  some (Ctl.next (l14_m32 + 1, l14_m8 ++ [y22.2], y22.1)))
  (some (Ctl.out l14_m8))
def L_impl_RunProgram (a0 : Int) (a1_0 : Int) (a1_1 : Int) (a1_2 : Int) (a1_3 : Int) (a1_4 : List (Int × Int × Int × Int × Int)) (a2 : List (List Int)) : Option (Bool × List (List Int)) :=
  Option.bind (Option.bind (L_impl_isProgram a0 a1_0 a1_1 a1_2 a1_3 a1_4) fun y5 =>
  cond (!y5)
    (some true)
    (Option.bind (L_impl_isRun a0 a2 a1_0) fun y7 =>
    some (!y7))) fun l4_m25 =>
cond l4_m25
  (some (false, ([] : List (List Int))))
  (Option.bind (L_impl_zeros a1_2) fun y11 =>
  Option.bind (loopM (fun s_ : Nat × List (List Int) × List Int => L_impl_RunProgram_l1 a2 a1_0 a1_1 a1_2 a1_3 a1_4 a0 s_.1 s_.2.1 s_.2.2) 4611686018427387904 (0, ([] : List (List Int)), y11)) fun l12_m8 =>
  some (true, l12_m8))
theorem ok_impl_RunProgram {a0 : Int} {a1_0 : Int} {a1_1 : Int} {a1_2 : Int} {a1_3 : Int} {a1_4 : List (Int × Int × Int × Int × Int)} {a2 : List (List Int)} {r : Bool × List (List Int)} (h : L_impl_RunProgram a0 a1_0 a1_1 a1_2 a1_3 a1_4 a2 = some r) : CallM Tryd.prog Tab 28 [(ai a0), (.agg [(ai a1_0), (ai a1_1), (ai a1_2), (ai a1_3), (.tree (.pair .int (.pair .int (.pair .int (.pair .int .int)))) a1_4)]), (.tree (.slice .int) a2)] [] (.tup [(.own (oi 0 1) (.slice .int) 0 r.2.length), (.bool r.1)]) [((oi 0 1), .mat 33 (oi 1 1) .int r.2), ((oi 1 1), .pool 3 .int r.2)] := by
  refine callM_of_ (by kernel_rfl) Tryd.func28 c_impl_RunProgram (n := 51) (by kernel_rfl) (by simp) (tl := [(0, (ai a0)), (1, (.agg [(ai a1_0), (ai a1_1), (ai a1_2), (ai a1_3), (.tree (.pair .int (.pair .int (.pair .int (.pair .int .int)))) a1_4)])), (2, (.tree (.slice .int) a2))]) rfl (by kernel_rfl) trivial ⟨⟨3, (.tail _ (.head _))⟩, ⟨trivial, trivial⟩⟩ ?_
  unfold m_impl_RunProgram
  unfold L_impl_RunProgram at h
  refine seqR ?_
  refine awp_seqv_ ?_
  refine awp_seqB h (fun (l4_m25 : Bool) S_ => S_ = ⟨mkTm [(0, (ai a0)), (2, (.tree (.slice .int) a2)), (4, (.box (oi 0 1) 0)), (25, (.bool l4_m25))], mkOb (someL [((oi 0 1), .cells 29 [(ai a1_0), (ai a1_1), (ai a1_2), (ai a1_3), (.tree (.pair .int (.pair .int (.pair .int (.pair .int .int)))) a1_4)])]), 2⟩) ?_ ?_
  · intro v_ h
    obtain ⟨y5, h5, h⟩ := ob_some h
    rcases cond_some h with ⟨q6, h⟩ | ⟨q6, h⟩
    · refine awp_region_ 16 ?_
      refine rs0 (ai a0) (by kernel_rfl) ?_
      refine rsl (.agg [(ai a1_0), (ai a1_1), (ai a1_2), (ai a1_3), (.tree (.pair .int (.pair .int (.pair .int (.pair .int .int)))) a1_4)]) (by kernel_rfl) ?_
      refine rcall (.bool y5) [] [(ai a0), (.agg [(ai a1_0), (ai a1_1), (ai a1_2), (ai a1_3), (.tree (.pair .int (.pair .int (.pair .int (.pair .int .int)))) a1_4)])] _ (caps := []) (args0 := [(ai a0), (.agg [(ai a1_0), (ai a1_1), (ai a1_2), (ai a1_3), (.tree (.pair .int (.pair .int (.pair .int (.pair .int .int)))) a1_4)])]) trivial (by kernel_rfl) (ok_impl_isProgram h5) hb_impl_isProgram ?_
      refine rs0 (.bool (!y5)) (by kernel_rfl) ?_
      refine rs0 (.bool (!y5)) (by kernel_rfl) ?_
      refine rs0 (.tup []) (s_skip (by kernel_rfl) q6) ?_
      refine rs0 (.tup []) (s_skip (by kernel_rfl) q6) ?_
      refine rs0 (.tup []) (s_skip (by kernel_rfl) q6) ?_
      refine rs0 (.tup []) (s_skip (by kernel_rfl) q6) ?_
      refine rs0 (.tup []) (s_skip (by kernel_rfl) q6) ?_
      refine rs0 (.tup []) (s_skip (by kernel_rfl) q6) ?_
      refine rs0 (.bool true) (s_pickT (by kernel_rfl) q6) ?_
      refine rnil (tn_ ?_)
      obtain rfl := Option.some.inj h
      exact ⟨_, (weak_ren [((oi 0 1), (oi 4 1))]), rfl⟩
    obtain ⟨y7, h7, h⟩ := ob_some h
    refine awp_region_ 16 ?_
    refine rs0 (ai a0) (by kernel_rfl) ?_
    refine rsl (.agg [(ai a1_0), (ai a1_1), (ai a1_2), (ai a1_3), (.tree (.pair .int (.pair .int (.pair .int (.pair .int .int)))) a1_4)]) (by kernel_rfl) ?_
    refine rcall (.bool y5) [] [(ai a0), (.agg [(ai a1_0), (ai a1_1), (ai a1_2), (ai a1_3), (.tree (.pair .int (.pair .int (.pair .int (.pair .int .int)))) a1_4)])] _ (caps := []) (args0 := [(ai a0), (.agg [(ai a1_0), (ai a1_1), (ai a1_2), (ai a1_3), (.tree (.pair .int (.pair .int (.pair .int (.pair .int .int)))) a1_4)])]) trivial (by kernel_rfl) (ok_impl_isProgram h5) hb_impl_isProgram ?_
    refine rs0 (.bool (!y5)) (by kernel_rfl) ?_
    refine rs0 (.bool (!y5)) (by kernel_rfl) ?_
    refine rs0 (ai a0) (s_gd (by kernel_rfl) q6 (by kernel_rfl)) ?_
    refine rs0 (.tree (.slice .int) a2) (s_gd (by kernel_rfl) q6 (by kernel_rfl)) ?_
    refine rs0 (.box (oi 4 1) 0) (s_gd (by kernel_rfl) q6 (by kernel_rfl)) ?_
    refine rsl (ai a1_0) (s_gd (by kernel_rfl) q6 (by kernel_rfl)) ?_
    refine rcall (.bool y7) [] [(ai a0), (.tree (.slice .int) a2), (ai a1_0)] _ (caps := []) (args0 := [(ai a0), (.tree (.slice .int) a2), (ai a1_0)]) (gdOK_b (by kernel_rfl) q6) (by kernel_rfl) (ok_impl_isRun h7) hb_impl_isRun ?_
    refine rs0 (.bool (!y7)) (s_gd (by kernel_rfl) q6 (by kernel_rfl)) ?_
    refine rs0 (.bool (!y7)) (s_pickF (by kernel_rfl) q6) ?_
    refine rnil (tn_ ?_)
    obtain rfl := Option.some.inj h
    exact ⟨_, (weak_ren [((oi 0 1), (oi 4 1))]), rfl⟩
  rintro l4_m25 _ rfl h
  (try dsimp only at h)
  rcases cond_some h with ⟨q8, h⟩ | ⟨q8, h⟩
  · refine awp_condT_ q8 ?_
    refine seqR ?_
    refine awp_ret_ (tr_ ?_)
    obtain rfl := Option.some.inj h
    exact retM_ [(.own (oi 0 1) (.slice .int) 0 ((([] : List (List Int))).length)), (.bool false)] ((weak_nilV_ 6 33 (.slice .int) (by kernel_rfl)).trans ((weak_none_ (e1 := 33) (n := 0) 9000 (oi 6 4) 3 .int (by kernel_rfl) (by kernel_rfl) rfl (by kernel_rfl) (by kernel_rfl)).trans (weak_ren (tl := [(6, (.own (oi 0 1) (.slice .int) 0 (([] : List (List Int))).length)), (7, (.bool false))]) (g := 2) [((oi 0 1), (oi 6 4)), ((oi 1 1), (oi 9000 5))])))
  refine awp_condF_ q8 ?_
  refine awp_skip_ (tn_ ?_)
  refine ⟨_, Weak.refl _, ?_⟩
  refine awp_seqv_ ?_
  obtain ⟨y11, h11, h⟩ := ob_some h
  refine awp_region_ 8 ?_
  refine rmkV (.own (oi 26 2) (.slice .int) 0 0) (oi 26 2) (.vec 33 1 0 []) trivial (s_mkV (by kernel_rfl)) ?_
  refine rs0 (.box (oi 0 1) 2) (by kernel_rfl) ?_
  refine rsl (ai a1_2) (by kernel_rfl) ?_
  refine rcall (.own (oi 464 5) .int 0 y11.length) [((oi 464 5), some (.arr 3 .int y11))] [(ai a1_2)] _ (caps := []) (args0 := [(ai a1_2)]) trivial (by kernel_rfl) (ok_impl_zeros h11) hb_impl_zeros ?_
  refine rsB 2 ?_
  refine rnil (tn_ ?_)
  refine ⟨_, weak_none_ (e1 := 33) (n := 0) 9000 (oi 26 2) 3 .int (by kernel_rfl) (by kernel_rfl) rfl (by kernel_rfl) (by kernel_rfl), ?_⟩
  refine awp_seqB h (fun (l12_m8 : List (List Int)) S_ => S_ = ⟨mkTm [(8, (.own (oi 0 1) (.slice .int) 0 l12_m8.length))], mkOb (someL [((oi 0 1), .mat 33 (oi 1 1) .int l12_m8), ((oi 1 1), .pool 3 .int l12_m8)]), 2⟩) ?_ ?_
  · intro v_ h
    refine seqR ?_
    refine awp_block_ ?_
    refine awp_loopL h (fun t_ S_ => ∃ (l14_m32 : Nat), ∃ (l14_m8 : List (List Int)), ∃ (l14_m9 : List Int), t_ = (l14_m32, l14_m8, l14_m9) ∧ S_ = ⟨mkTm [(0, (ai a0)), (4, (.box (oi 0 1) 0)), (8, (.own (oi 1 1) (.slice .int) 0 l14_m8.length)), (9, (.own (oi 3 1) .int 0 l14_m9.length)), (30, (.tree (.slice .int) a2)), (31, (ai ((a2.length : Nat) : Int))), (32, (ai ((l14_m32 : Nat) : Int)))], mkOb (someL [((oi 0 1), .cells 29 [(ai a1_0), (ai a1_1), (ai a1_2), (ai a1_3), (.tree (.pair .int (.pair .int (.pair .int (.pair .int .int)))) a1_4)]), ((oi 1 1), .mat 33 (oi 2 1) .int l14_m8), ((oi 2 1), .pool 3 .int l14_m8), ((oi 3 1), .arr 3 .int l14_m9)]), 2⟩) ⟨_, (weak_ren [((oi 1 1), (oi 26 2)), ((oi 2 1), (oi 9000 8)), ((oi 3 1), (oi 464 5))]), ⟨0, ([] : List (List Int)), y11, rfl, rfl⟩⟩ ?_
    rintro n_ _ _ c_ ⟨l14_m32, l14_m8, l14_m9, rfl, rfl⟩ h hn14
    (try dsimp only at h)
    unfold L_impl_RunProgram_l1 at h
    unfold m_impl_RunProgram_l1
    refine seqR ?_
    refine awp_seqv_ ?_
    rcases cond_some h with ⟨q17, h⟩ | ⟨q17, h⟩
    · have q17_ := of_decide_eq_true q17
      refine awp_condT_ q17 ?_
      refine awp_skip_ (tn_ ?_)
      refine ⟨_, Weak.refl _, ?_⟩
      refine awp_seqv_ ?_
      refine awp_block_ ?_
      refine awp_seqv_ ?_
      obtain ⟨x20, e20, h⟩ := ob_some h
      refine awp_region_ 6 ?_
      refine rs0 (.telt (.slice .int) x20 0) (s_idxT (t := (.slice .int)) (xs := a2) (k := .i64) (m := ((l14_m32 : Nat) : Int)) (by kernel_rfl) (by kernel_rfl) rfl (nat_nn _) rfl e20) ?_
      refine rsB 2 ?_
      refine rnil (tn_ ?_)
      refine ⟨_, Weak.refl _, ?_⟩
      refine awp_seqv_ ?_
      obtain ⟨y22, h22, h⟩ := ob_some h
      refine awp_region_ 16 ?_
      refine rsl (.agg [(ai a1_0), (ai a1_1), (ai a1_2), (ai a1_3), (.tree (.pair .int (.pair .int (.pair .int (.pair .int .int)))) a1_4)]) (by kernel_rfl) ?_
      refine rs0 (ai a0) (by kernel_rfl) ?_
      refine rs0 (.own (oi 3 1) .int 0 l14_m9.length) (by kernel_rfl) ?_
      refine rs0 (.tree .int x20) (by kernel_rfl) ?_
      refine rcall (.tup [(.own (oi 656 10) .int 0 y22.1.length), (.own (oi 657 10) .int 0 y22.2.length)]) [((oi 656 10), some (.arr 3 .int y22.1)), ((oi 657 10), some (.arr 3 .int y22.2))] [(.agg [(ai a1_0), (ai a1_1), (ai a1_2), (ai a1_3), (.tree (.pair .int (.pair .int (.pair .int (.pair .int .int)))) a1_4)]), (ai a0), (.own (oi 3 1) .int 0 l14_m9.length), (.tree .int x20)] _ (caps := []) (args0 := [(.agg [(ai a1_0), (ai a1_1), (ai a1_2), (ai a1_3), (.tree (.pair .int (.pair .int (.pair .int (.pair .int .int)))) a1_4)]), (ai a0), (.tree .int l14_m9), (.tree .int x20)]) trivial (gm_cons (by kernel_rfl) (gm_cons (by kernel_rfl) (gm_cons (gd_own (e := 3) (by kernel_rfl) rfl) (gm_cons (by kernel_rfl) gm_nil)))) (ok_impl_Program_step h22) hb_impl_Program_step ?_
      refine rsB 5 ?_
      refine rnil (tn_ ?_)
      refine ⟨_, Weak.refl _, ?_⟩
      refine seqR ?_
      obtain ⟨g24, h⟩ := og_some h
      refine awp_region_ 23 ?_
      refine rs0 (.own (oi 1 1) (.slice .int) 0 l14_m8.length) (by kernel_rfl) ?_
      refine rs0 (.own (oi 657 10) .int 0 y22.2.length) (by kernel_rfl) ?_
      refine rmkV (.own (oi 47 20) (.slice .int) 0 1) (oi 47 20) (.vec 33 1 1 ([(.own (oi 657 10) .int 0 y22.2.length)])) trivial (s_mkV (by kernel_rfl)) ?_
      refine rs2 (.own (oi 1 21) (.slice .int) 0 (l14_m8.length + 1)) (oi 1 1) (oi 1 21) (.vec 33 1 (l14_m8.length + 1) (hdL (oi 2 1) .int l14_m8 ++ [(.own (oi 657 10) .int 0 y22.2.length)])) (s_appVO (u := .int) (t' := (.slice .int)) (t2 := (.slice .int)) (o := (oi 1 1)) (q := (oi 47 20)) (e2 := 33) (p := (oi 2 1)) (xss := l14_m8) (cs := [(.own (oi 657 10) .int 0 y22.2.length)]) (len := l14_m8.length) (by kernel_rfl) (by kernel_rfl) rfl (by kernel_rfl) (by kernel_rfl) rfl g24) ?_
      refine rsB 1 ?_
      refine rnil (bn_ (tn_ ?_))
      refine ⟨_, weak_app_ (e1 := 33) (e := 3) (u := .int) (n := l14_m8.length + 1) (len := y22.2.length) (row := y22.2) (ys := y22.2) (xss := l14_m8) 9000 (oi 1 21) (oi 2 1) (oi 657 10) (by kernel_rfl) (by kernel_rfl) rfl (by kernel_rfl) (by kernel_rfl) (tw_le rfl) (tw_eq rfl) (by kernel_rfl) (by kernel_rfl) (by kernel_rfl), ?_⟩
      obtain ⟨g25, h⟩ := og_some h
      refine awp_region_ 26 ?_
      refine rs0 (ai ((l14_m32 + 1 : Nat) : Int)) (s_add1 (j := l14_m32) (by kernel_rfl) (by kernel_rfl) g25) ?_
      refine rsB 1 ?_
      refine rnil (tn_ ?_)
      obtain rfl := Option.some.inj h
      exact ⟨(l14_m32 + 1, l14_m8 ++ [y22.2], y22.1), _, ((weak_tm_ 8 (.own (oi 1 21) (.slice .int) 0 (l14_m8.length + 1)) (.own (oi 1 21) (.slice .int) 0 ((l14_m8 ++ [y22.2]).length)) (by kernel_rfl) (congrArg (fun z_ => ((.own (oi 1 21) (.slice .int) 0 z_) : AV)) ((by simp) : l14_m8.length + 1 = (l14_m8 ++ [y22.2]).length))).trans (weak_ren [((oi 1 1), (oi 1 21)), ((oi 2 1), (oi 9000 23)), ((oi 3 1), (oi 656 10))])), ⟨l14_m32 + 1, l14_m8 ++ [y22.2], y22.1, rfl, rfl⟩, hn14⟩
    have q17_ := of_decide_eq_false q17
    refine awp_condF_ q17 ?_
    refine awp_exit_ (te_ (te_ (be_ (tn_ ?_))))
    obtain rfl := Option.some.inj h
    have h := hn14
    (try dsimp only at h)
    obtain rfl := Option.some.inj h
    exact ⟨_, (weak_ren [((oi 0 1), (oi 1 1)), ((oi 1 1), (oi 2 1))]), rfl⟩
  rintro l12_m8 _ rfl h
  (try dsimp only at h)
  refine seqR ?_
  refine awp_ret_ ?_
  obtain rfl := Option.some.inj h
  exact retM_ [(.own (oi 0 1) (.slice .int) 0 l12_m8.length), (.bool true)] (weak_ren (tl := [(6, (.own (oi 0 1) (.slice .int) 0 l12_m8.length)), (7, (.bool true))]) (g := 2) [])
def m_laws_FnExactRunProgram : AC :=
  (.seq (rg [xo 4 (.i (.box 24 (tm 1))), xo 6 (qm (cb false))])
  (.seq (rg [xo 7 (qm (ci 1048576))])
  (.seq (rg [xo 19 (.i (.ld false 5 (tm 4))), xo 20 (qm (tm 7)), ⟨(some 21), none, (qc 8 [(tm 19), (tm 20)] [[none, none, none, none, (some (.pair .int (.pair .int (.pair .int (.pair .int .int)))))], []])⟩, xo 7 (qm (tm 21))])
  (.seq (.seq (rg [xo 22 (qm (tm 7)), xo 23 (qb .lss (tm 22) (ci 0))])
  (.cond (tm 23)
    (.seq (rg [xo 6 (qm (cb true))])
    .ret)
    .skip))
  (.seq (rg [xo 24 (qm (tm 2)), xo 25 (qm (tm 7)), xo 26 (qc 25 [(tm 24), (tm 25)] [[(some (.slice .int))], []]), xo 7 (qm (tm 26))])
  (.seq (.seq (rg [xo 27 (qm (tm 7)), xo 28 (qb .lss (tm 27) (ci 0))])
  (.cond (tm 28)
    (.seq (rg [xo 6 (qm (cb true))])
    .ret)
    .skip))
  (.seq (rg [xo 30 (qm (tm 0)), xo 31 (.i (.ld false 5 (tm 4))), ⟨(some 32), none, (qc 10 [(tm 31)] [[none, none, none, none, (some (.pair .int (.pair .int (.pair .int (.pair .int .int)))))]])⟩, xo 33 (qm (tm 2)), xo 34 (qc 27 [(tm 33)] [[(some (.slice .int))]]), ⟨(some 35), none, (qc 26 [(tm 30), (tm 32), (tm 34)] [[], [none, none, none, none, (some (.pair .int (.pair .int (.pair .int (.pair .int .int)))))], [(some (.slice .int))]])⟩, xo 29 (qm (tm 35)), xo 36 (.i (.extr 0 (tm 29))), xo 37 (.i (.extr 1 (tm 29))), xo 8 (qm (tm 36)), xo 9 (qm (tm 37))])
  (.seq (rg [xo 38 (.i (.ld false 5 (tm 4))), ⟨(some 39), none, (qc 10 [(tm 38)] [[none, none, none, none, (some (.pair .int (.pair .int (.pair .int (.pair .int .int)))))]])⟩, xo 10 (.i (.alloc 29 [(.int .i64 0), (.int .i64 0), (.int .i64 0), (.int .i64 0), .nils])), xn (.st false 5 (tm 10) (tm 39))])
  (.seq (rg [xo 40 (qm (tm 2)), xo 41 (qc 27 [(tm 40)] [[(some (.slice .int))]]), xo 11 (qm (tm 41))])
  (.seq (rg [xo 43 (qm (tm 0)), xo 44 (.i (.ld false 5 (tm 10))), xo 45 (qm (tm 11)), ⟨(some 46), none, (qc 28 [(tm 43), (tm 44), (tm 45)] [[], [none, none, none, none, (some (.pair .int (.pair .int (.pair .int (.pair .int .int)))))], [(some (.slice .int))]])⟩, xo 42 (qm (tm 46)), xo 47 (.i (.extr 0 (tm 42))), xo 48 (.i (.extr 1 (tm 42))), xo 12 (qm (tm 47)), xo 13 (qm (tm 48))])
  (.seq (.seq (rg [xo 49 (qm (tm 12)), xo 50 (qm (tm 8)), xo 51 (qc 29 [(tm 49), (tm 50)] [[(some (.slice .int))], [(some (.slice .int))]]), xo 52 (.i (.not (tm 51))), xo 53 (qm (tm 52)), ⟨(some 54), (some (53, false)), (qm (tm 13))⟩, ⟨(some 55), (some (53, false)), (qm (tm 9))⟩, ⟨(some 56), (some (53, false)), (.i (.cmp true 0 (tm 54) (tm 55)))⟩, xo 57 (.i (.pick (tm 53) (cb true) (tm 56)))])
  (.cond (tm 57)
    (.seq (rg [xo 6 (qm (cb false))])
    .ret)
    .skip))
  (.seq (.seq (.region [xo 58 (.i (.ld false 5 (tm 10))), xo 59 (.i (.ld false 5 (tm 4))), ⟨(some 60), none, (qc 10 [(tm 59)] [[none, none, none, none, (some (.pair .int (.pair .int (.pair .int (.pair .int .int)))))]])⟩, ⟨(some 61), none, (qc 12 [(tm 58), (tm 60)] [[none, none, none, none, (some (.pair .int (.pair .int (.pair .int (.pair .int .int)))))], [none, none, none, none, (some (.pair .int (.pair .int (.pair .int (.pair .int .int)))))]])⟩, xo 62 (.i (.not (tm 61)))] true [(0, 2)])
  (.cond (tm 62)
    (.seq (rg [xo 6 (qm (cb false))])
    .ret)
    .skip))
  (.seq (.seq (rg [xo 63 (qm (tm 11)), xo 64 (qm (tm 2)), xo 65 (qc 27 [(tm 64)] [[(some (.slice .int))]]), xo 66 (qc 29 [(tm 63), (tm 65)] [[(some (.slice .int))], [(some (.slice .int))]]), xo 67 (.i (.not (tm 66)))])
  (.cond (tm 67)
    (.seq (rg [xo 6 (qm (cb false))])
    .ret)
    .skip))
  (.seq (rg [xo 14 (qm (ci 1))])
  (.seq (rg [xo 68 (.i (.ld false 5 (tm 10))), xo 69 (qm (tm 14)), ⟨(some 70), none, (qc 16 [(tm 68), (tm 69)] [[none, none, none, none, (some (.pair .int (.pair .int (.pair .int (.pair .int .int)))))], []])⟩, xo 14 (qm (tm 70))])
  (.seq (rg [xo 71 (qm (tm 11)), xo 72 (qm (tm 14)), xo 73 (qc 30 [(tm 71), (tm 72)] [[(some (.slice .int))], []]), xo 14 (qm (tm 73))])
  (.seq (.seq (rg [xo 74 (qm (tm 14)), xo 75 (qb .lss (tm 74) (ci 0)), xo 76 (qm (tm 75)), ⟨(some 77), (some (76, false)), (qm (tm 12))⟩, ⟨(some 78), (some (76, false)), (qm (tm 8))⟩, ⟨(some 79), (some (76, false)), (qc 29 [(tm 77), (tm 78)] [[(some (.slice .int))], [(some (.slice .int))]])⟩, ⟨(some 80), (some (76, false)), (.i (.not (tm 79)))⟩, xo 81 (.i (.pick (tm 76) (cb true) (tm 80))), xo 82 (qm (tm 81)), ⟨(some 83), (some (82, false)), (qm (tm 13))⟩, ⟨(some 84), (some (82, false)), (qm (tm 9))⟩, ⟨(some 85), (some (82, false)), (.i (.cmp true 0 (tm 83) (tm 84)))⟩, xo 86 (.i (.pick (tm 82) (cb true) (tm 85)))])
  (.cond (tm 86)
    (.seq (rg [xo 6 (qm (cb false))])
    .ret)
    .skip))
  (.seq (rg [xo 15 (qm (ci 1))])
  (.seq (rg [xo 87 (qm (tm 12)), xo 88 (qm (tm 15)), xo 89 (qc 30 [(tm 87), (tm 88)] [[(some (.slice .int))], []]), xo 15 (qm (tm 89))])
  (.seq (rg [xo 16 (qm (ci 1))])
  (.seq (rg [xo 90 (qm (tm 12)), xo 91 (qm (tm 16)), xo 92 (qc 31 [(tm 90), (tm 91)] [[(some (.slice .int))], []]), xo 16 (qm (tm 92))])
  (.seq (.seq (rg [xo 93 (qm (tm 16)), xo 94 (qb .lss (tm 93) (ci 0))])
  (.cond (tm 94)
    (.seq (rg [xo 6 (qm (cb false))])
    .ret)
    .skip))
  (.seq (.seq (rg [xo 95 (qm (tm 16)), xo 96 (qm (tm 15)), xo 97 (qb .neq (tm 95) (tm 96))])
  (.cond (tm 97)
    (.seq (rg [xo 6 (qm (cb false))])
    .ret)
    .skip))
  (.seq (rg [xo 99 (qm (tm 0)), xo 100 (.i (.ld false 5 (tm 4))), ⟨(some 101), none, (qc 10 [(tm 100)] [[none, none, none, none, (some (.pair .int (.pair .int (.pair .int (.pair .int .int)))))]])⟩, xo 102 (qm (tm 2)), xo 103 (qc 27 [(tm 102)] [[(some (.slice .int))]]), ⟨(some 104), none, (qc 28 [(tm 99), (tm 101), (tm 103)] [[], [none, none, none, none, (some (.pair .int (.pair .int (.pair .int (.pair .int .int)))))], [(some (.slice .int))]])⟩, xo 98 (qm (tm 104)), xo 105 (.i (.extr 0 (tm 98))), xo 106 (.i (.extr 1 (tm 98))), xo 17 (qm (tm 105)), xo 18 (qm (tm 106))])
  (.seq (.seq (rg [xo 107 (qm (tm 17)), xo 108 (qm (tm 8)), xo 109 (qc 29 [(tm 107), (tm 108)] [[(some (.slice .int))], [(some (.slice .int))]]), xo 110 (.i (.not (tm 109))), xo 111 (qm (tm 110)), ⟨(some 112), (some (111, false)), (qm (tm 18))⟩, ⟨(some 113), (some (111, false)), (qm (tm 9))⟩, ⟨(some 114), (some (111, false)), (.i (.cmp true 0 (tm 112) (tm 113)))⟩, xo 115 (.i (.pick (tm 111) (cb true) (tm 114)))])
  (.cond (tm 115)
    (.seq (rg [xo 6 (qm (cb false))])
    .ret)
    .skip))
  (.seq (rg [xo 16 (qm (ci 1))])
  (.seq (rg [xo 116 (qm (tm 12)), xo 117 (qm (tm 16)), xo 118 (qc 31 [(tm 116), (tm 117)] [[(some (.slice .int))], []]), xo 16 (qm (tm 118))])
  (.seq (.seq (rg [xo 119 (qm (tm 16)), xo 120 (qb .lss (tm 119) (ci 0))])
  (.cond (tm 120)
    (.seq (rg [xo 6 (qm (cb false))])
    .ret)
    .skip))
  (.seq (.seq (rg [xo 121 (qm (tm 16)), xo 122 (qm (tm 15)), xo 123 (qb .neq (tm 121) (tm 122))])
  (.cond (tm 123)
    (.seq (rg [xo 6 (qm (cb false))])
    .ret)
    .skip))
  (.seq (rg [xo 6 (qm (cb true))])
  .ret))))))))))))))))))))))))))))))
def r_laws_FnExactRunProgram : List Res := [.tmp 6]
theorem c_laws_FnExactRunProgram : compiled Tryd.prog Tryd.f7 = some (m_laws_FnExactRunProgram, r_laws_FnExactRunProgram) := by kernel_rfl
theorem hb_laws_FnExactRunProgram : hasBody Tryd.prog 7 = true := by kernel_rfl
def L_laws_FnExactRunProgram (a0 : Int) (a1_0 : Int) (a1_1 : Int) (a1_2 : Int) (a1_3 : Int) (a1_4 : List (Int × Int × Int × Int × Int)) (a2 : List (List Int)) : Option Bool :=
  Option.bind (L_laws_szProgram a1_0 a1_1 a1_2 a1_3 a1_4 1048576) fun y4 =>
cond (decide (y4 < 0))
  (some true)
  (Option.bind (L_laws_szIntSS a2 y4) fun y10 =>
  cond (decide (y10 < 0))
    (some true)
    (Option.bind (L_laws_toProgram a1_0 a1_1 a1_2 a1_3 a1_4) fun y16 =>
    Option.bind (L_laws_toIntSS a2) fun y17 =>
    Option.bind (L_spec_RunProgram a0 y16.1 y16.2.1 y16.2.2.1 y16.2.2.2.1 y16.2.2.2.2 y17) fun y18 =>
    Option.bind (L_laws_toProgram a1_0 a1_1 a1_2 a1_3 a1_4) fun y20 =>
    Option.bind (L_laws_toIntSS a2) fun y22 =>
    Option.bind (L_impl_RunProgram a0 y20.1 y20.2.1 y20.2.2.1 y20.2.2.2.1 y20.2.2.2.2 y22) fun y24 =>
    Option.bind (Option.bind (L_laws_eqIntSS y24.2 y18.2) fun y27 =>
      cond (!y27)
        (some true)
        (some (y24.1 != y18.1))) fun l26_m57 =>
    cond l26_m57
      (some false)
      (Option.bind (L_laws_toProgram a1_0 a1_1 a1_2 a1_3 a1_4) fun y33 =>
      Option.bind (L_laws_eqProgram y20.1 y20.2.1 y20.2.2.1 y20.2.2.2.1 y20.2.2.2.2 y33.1 y33.2.1 y33.2.2.1 y33.2.2.2.1 y33.2.2.2.2) fun y34 =>
      cond (!y34)
        (some false)
        (Option.bind (L_laws_toIntSS a2) fun y39 =>
        Option.bind (L_laws_eqIntSS y22 y39) fun y40 =>
        cond (!y40)
          (some false)
          (Option.bind (L_laws_markProgram y20.1 y20.2.1 y20.2.2.1 y20.2.2.2.1 y20.2.2.2.2 1) fun y45 =>
          og (y45.1.length = y20.2.2.2.2.length) <|
          Option.bind (L_laws_markIntSS y22 y45.2) fun y48 =>
          og (y48.1.length = y22.length) <|
          Option.bind (cond (decide (y48.2 < 0))
              (some true)
              (Option.bind (L_laws_eqIntSS y24.2 y18.2) fun y53 =>
              cond (!y53)
                (some true)
                (some (y24.1 != y18.1)))) fun l51_m86 =>
          cond l51_m86
            (some false)
            (Option.bind (L_laws_markIntSS y24.2 1) fun y59 =>
            og (y59.1.length = y24.2.length) <|
            Option.bind (L_laws_heldIntSS y59.1 1) fun y63 =>
            cond (decide (y63 < 0))
              (some false)
              (cond (y63 != y59.2)
                (some false)
                (Option.bind (L_laws_toProgram a1_0 a1_1 a1_2 a1_3 a1_4) fun y73 =>
                Option.bind (L_laws_toIntSS a2) fun y74 =>
                Option.bind (L_impl_RunProgram a0 y73.1 y73.2.1 y73.2.2.1 y73.2.2.2.1 y73.2.2.2.2 y74) fun y75 =>
                Option.bind (Option.bind (L_laws_eqIntSS y75.2 y18.2) fun y78 =>
                  cond (!y78)
                    (some true)
                    (some (y75.1 != y18.1))) fun l77_m115 =>
                cond l77_m115
                  (some false)
                  (Option.bind (L_laws_heldIntSS y59.1 1) fun y84 =>
                  cond (decide (y84 < 0))
                    (some false)
                    (cond (y84 != y59.2)
                      (some false)
                      (some true)))))))))))
def rv_laws_FnExactRunProgram (r : Bool) : RV := ⟨false, [(false, [.sc (.bool r)])]⟩
theorem ok_laws_FnExactRunProgram {a0 : Int} {a1_0 : Int} {a1_1 : Int} {a1_2 : Int} {a1_3 : Int} {a1_4 : List (Int × Int × Int × Int × Int)} {a2 : List (List Int)} {r : Bool} (h : L_laws_FnExactRunProgram a0 a1_0 a1_1 a1_2 a1_3 a1_4 a2 = some r) : CallOK Tryd.prog Tab 7 [(ai a0), (.agg [(ai a1_0), (ai a1_1), (ai a1_2), (ai a1_3), (.tree (.pair .int (.pair .int (.pair .int (.pair .int .int)))) a1_4)]), (.tree (.slice .int) a2)] (rv_laws_FnExactRunProgram r) := by
  refine call_of_ (by kernel_rfl) Tryd.func7 c_laws_FnExactRunProgram (n := 124) (by kernel_rfl) (by simp) (tl := [(0, (ai a0)), (1, (.agg [(ai a1_0), (ai a1_1), (ai a1_2), (ai a1_3), (.tree (.pair .int (.pair .int (.pair .int (.pair .int .int)))) a1_4)])), (2, (.tree (.slice .int) a2))]) rfl ?_
  unfold m_laws_FnExactRunProgram
  unfold L_laws_FnExactRunProgram at h
  refine seqR ?_
  refine seqR ?_
  refine awp_seqv_ ?_
  obtain ⟨y4, h4, h⟩ := ob_some h
  refine awp_region_ 8 ?_
  refine rsl (.agg [(ai a1_0), (ai a1_1), (ai a1_2), (ai a1_3), (.tree (.pair .int (.pair .int (.pair .int (.pair .int .int)))) a1_4)]) (by kernel_rfl) ?_
  refine rs0 (ai 1048576) (by kernel_rfl) ?_
  refine rcall (ai y4) [] [(.agg [(ai a1_0), (ai a1_1), (ai a1_2), (ai a1_3), (.tree (.pair .int (.pair .int (.pair .int (.pair .int .int)))) a1_4)]), (ai 1048576)] _ (caps := []) (args0 := [(.agg [(ai a1_0), (ai a1_1), (ai a1_2), (ai a1_3), (.tree (.pair .int (.pair .int (.pair .int (.pair .int .int)))) a1_4)]), (ai 1048576)]) trivial (by kernel_rfl) (ok_laws_szProgram h4) hb_laws_szProgram ?_
  refine rsB 1 ?_
  refine rnil (tn_ ?_)
  refine ⟨_, Weak.refl _, ?_⟩
  refine awp_seqv_ ?_
  refine seqR ?_
  rcases cond_some h with ⟨q7, h⟩ | ⟨q7, h⟩
  · have q7_ := of_decide_eq_true q7
    refine awp_condT_ q7 ?_
    refine seqR ?_
    refine awp_ret_ (tr_ ?_)
    obtain rfl := Option.some.inj h
    exact ret_ [(.bool true)] (p_one rfl (l_sc (by kernel_rfl)) p_nil)
  have q7_ := of_decide_eq_false q7
  refine awp_condF_ q7 ?_
  refine awp_skip_ (tn_ ?_)
  refine ⟨_, Weak.refl _, ?_⟩
  refine awp_seqv_ ?_
  obtain ⟨y10, h10, h⟩ := ob_some h
  refine awp_region_ 14 ?_
  refine rs0 (.tree (.slice .int) a2) (by kernel_rfl) ?_
  refine rs0 (ai y4) (by kernel_rfl) ?_
  refine rcall (ai y10) [] [(.tree (.slice .int) a2), (ai y4)] _ (caps := []) (args0 := [(.tree (.slice .int) a2), (ai y4)]) trivial (by kernel_rfl) (ok_laws_szIntSS h10) hb_laws_szIntSS ?_
  refine rsB 1 ?_
  refine rnil (tn_ ?_)
  refine ⟨_, Weak.refl _, ?_⟩
  refine awp_seqv_ ?_
  refine seqR ?_
  rcases cond_some h with ⟨q13, h⟩ | ⟨q13, h⟩
  · have q13_ := of_decide_eq_true q13
    refine awp_condT_ q13 ?_
    refine seqR ?_
    refine awp_ret_ (tr_ ?_)
    obtain rfl := Option.some.inj h
    exact ret_ [(.bool true)] (p_one rfl (l_sc (by kernel_rfl)) p_nil)
  have q13_ := of_decide_eq_false q13
  refine awp_condF_ q13 ?_
  refine awp_skip_ (tn_ ?_)
  refine ⟨_, Weak.refl _, ?_⟩
  refine awp_seqv_ ?_
  obtain ⟨y16, h16, h⟩ := ob_some h
  obtain ⟨y17, h17, h⟩ := ob_some h
  obtain ⟨y18, h18, h⟩ := ob_some h
  refine awp_region_ 27 ?_
  refine rs0 (ai a0) (by kernel_rfl) ?_
  refine rsl (.agg [(ai a1_0), (ai a1_1), (ai a1_2), (ai a1_3), (.tree (.pair .int (.pair .int (.pair .int (.pair .int .int)))) a1_4)]) (by kernel_rfl) ?_
  refine rcall (.agg [(ai y16.1), (ai y16.2.1), (ai y16.2.2.1), (ai y16.2.2.2.1), (.own (oi 512 18) (.pair .int (.pair .int (.pair .int (.pair .int .int)))) 0 y16.2.2.2.2.length)]) [((oi 512 18), some (.arr 69 (.pair .int (.pair .int (.pair .int (.pair .int .int)))) y16.2.2.2.2))] [(.agg [(ai a1_0), (ai a1_1), (ai a1_2), (ai a1_3), (.tree (.pair .int (.pair .int (.pair .int (.pair .int .int)))) a1_4)])] _ (caps := []) (args0 := [(.agg [(ai a1_0), (ai a1_1), (ai a1_2), (ai a1_3), (.tree (.pair .int (.pair .int (.pair .int (.pair .int .int)))) a1_4)])]) trivial (by kernel_rfl) (ok_laws_toProgram h16) hb_laws_toProgram ?_
  refine rs0 (.tree (.slice .int) a2) (by kernel_rfl) ?_
  refine rcallM (.own (oi 544 20) (.slice .int) 0 y17.length) [((oi 544 20), some (.mat 33 (oi 545 20) .int y17)), ((oi 545 20), some (.pool 3 .int y17))] [] [(.tree (.slice .int) a2)] (caps := []) trivial (ok_laws_toIntSS h17) hb_laws_toIntSS trivial (.cons (.ren (by kernel_rfl)) .nil) (reachL_mem (by kernel_rfl) (by kernel_rfl) trivial) ?_
  refine rcallM (.tup [(.own (oi 560 21) (.slice .int) 0 y18.2.length), (.bool y18.1)]) [((oi 560 21), some (.mat 33 (oi 561 21) .int y18.2)), ((oi 561 21), some (.pool 3 .int y18.2))] [] [(ai a0), (.agg [(ai y16.1), (ai y16.2.1), (ai y16.2.2.1), (ai y16.2.2.2.1), (.own (oi 512 18) (.pair .int (.pair .int (.pair .int (.pair .int .int)))) 0 y16.2.2.2.2.length)]), (.own (oi 544 20) (.slice .int) 0 y17.length)] (caps := []) trivial (ok_spec_RunProgram h18) hb_spec_RunProgram trivial (.cons (.ren (by kernel_rfl)) (.cons (.agg (.cons (.ren (by kernel_rfl)) (.cons (.ren (by kernel_rfl)) (.cons (.ren (by kernel_rfl)) (.cons (.ren (by kernel_rfl)) (.cons (.gnd (by kernel_rfl) (gd_own (e := 69) ((less_at (by kernel_rfl) (by kernel_rfl) (by kernel_rfl)).trans (by kernel_rfl)) rfl)) .nil)))))) (.cons (.gnd (by kernel_rfl) (gd_mat (p := (oi 545 20)) (e1 := 33) (e := 3) (u := .int) (xss := y17) ((less_at (by kernel_rfl) (by kernel_rfl) (by kernel_rfl)).trans (by kernel_rfl)) (less_pool (by kernel_rfl) (by kernel_rfl) (pool_rows (by kernel_rfl)) (by kernel_rfl)) rfl)) .nil))) (reachL_mem (by kernel_rfl) (by kernel_rfl) trivial) ?_
  refine rsB 5 ?_
  refine rnil (tn_ ?_)
  refine ⟨_, Weak.refl _, ?_⟩
  refine awp_seqv_ ?_
  obtain ⟨y20, h20, h⟩ := ob_some h
  refine awp_region_ 31 ?_
  refine rsl (.agg [(ai a1_0), (ai a1_1), (ai a1_2), (ai a1_3), (.tree (.pair .int (.pair .int (.pair .int (.pair .int .int)))) a1_4)]) (by kernel_rfl) ?_
  refine rcall (.agg [(ai y20.1), (ai y20.2.1), (ai y20.2.2.1), (ai y20.2.2.2.1), (.own (oi 624 28) (.pair .int (.pair .int (.pair .int (.pair .int .int)))) 0 y20.2.2.2.2.length)]) [((oi 624 28), some (.arr 69 (.pair .int (.pair .int (.pair .int (.pair .int .int)))) y20.2.2.2.2))] [(.agg [(ai a1_0), (ai a1_1), (ai a1_2), (ai a1_3), (.tree (.pair .int (.pair .int (.pair .int (.pair .int .int)))) a1_4)])] _ (caps := []) (args0 := [(.agg [(ai a1_0), (ai a1_1), (ai a1_2), (ai a1_3), (.tree (.pair .int (.pair .int (.pair .int (.pair .int .int)))) a1_4)])]) trivial (by kernel_rfl) (ok_laws_toProgram h20) hb_laws_toProgram ?_
  refine rsB 2 ?_
  refine rnil (tn_ ?_)
  refine ⟨_, Weak.refl _, ?_⟩
  refine awp_seqv_ ?_
  obtain ⟨y22, h22, h⟩ := ob_some h
  refine awp_region_ 34 ?_
  refine rs0 (.tree (.slice .int) a2) (by kernel_rfl) ?_
  refine rcallM (.own (oi 656 32) (.slice .int) 0 y22.length) [((oi 656 32), some (.mat 33 (oi 657 32) .int y22)), ((oi 657 32), some (.pool 3 .int y22))] [] [(.tree (.slice .int) a2)] (caps := []) trivial (ok_laws_toIntSS h22) hb_laws_toIntSS trivial (.cons (.ren (by kernel_rfl)) .nil) (reachL_mem (by kernel_rfl) (by kernel_rfl) trivial) ?_
  refine rsB 1 ?_
  refine rnil (tn_ ?_)
  refine ⟨_, Weak.refl _, ?_⟩
  refine awp_seqv_ ?_
  obtain ⟨y24, h24, h⟩ := ob_some h
  refine awp_region_ 43 ?_
  refine rs0 (ai a0) (by kernel_rfl) ?_
  refine rsl (.agg [(ai y20.1), (ai y20.2.1), (ai y20.2.2.1), (ai y20.2.2.2.1), (.own (oi 624 28) (.pair .int (.pair .int (.pair .int (.pair .int .int)))) 0 y20.2.2.2.2.length)]) (by kernel_rfl) ?_
  refine rs0 (.own (oi 656 32) (.slice .int) 0 y22.length) (by kernel_rfl) ?_
  refine rcallM (.tup [(.own (oi 736 37) (.slice .int) 0 y24.2.length), (.bool y24.1)]) [((oi 736 37), some (.mat 33 (oi 737 37) .int y24.2)), ((oi 737 37), some (.pool 3 .int y24.2))] [] [(ai a0), (.agg [(ai y20.1), (ai y20.2.1), (ai y20.2.2.1), (ai y20.2.2.2.1), (.own (oi 624 28) (.pair .int (.pair .int (.pair .int (.pair .int .int)))) 0 y20.2.2.2.2.length)]), (.own (oi 656 32) (.slice .int) 0 y22.length)] (caps := []) trivial (ok_impl_RunProgram h24) hb_impl_RunProgram trivial (.cons (.ren (by kernel_rfl)) (.cons (.agg (.cons (.ren (by kernel_rfl)) (.cons (.ren (by kernel_rfl)) (.cons (.ren (by kernel_rfl)) (.cons (.ren (by kernel_rfl)) (.cons (.gnd (by kernel_rfl) (gd_own (e := 69) ((less_at (by kernel_rfl) (by kernel_rfl) (by kernel_rfl)).trans (by kernel_rfl)) rfl)) .nil)))))) (.cons (.gnd (by kernel_rfl) (gd_mat (p := (oi 657 32)) (e1 := 33) (e := 3) (u := .int) (xss := y22) ((less_at (by kernel_rfl) (by kernel_rfl) (by kernel_rfl)).trans (by kernel_rfl)) (less_pool (by kernel_rfl) (by kernel_rfl) (pool_rows (by kernel_rfl)) (by kernel_rfl)) rfl)) .nil))) (reachL_mem (by kernel_rfl) (by kernel_rfl) trivial) ?_
  refine rsB 5 ?_
  refine rnil (tn_ ?_)
  refine ⟨_, Weak.refl _, ?_⟩
  refine awp_seqv_ ?_
  refine awp_seqB h (fun (l26_m57 : Bool) S_ => S_ = ⟨mkTm [(0, (ai a0)), (2, (.tree (.slice .int) a2)), (4, (.box (oi 0 1) 0)), (8, (.own (oi 1 1) (.slice .int) 0 y18.2.length)), (9, (.bool y18.1)), (10, (.box (oi 3 1) 0)), (11, (.own (oi 4 1) (.slice .int) 0 y22.length)), (12, (.own (oi 6 1) (.slice .int) 0 y24.2.length)), (13, (.bool y24.1)), (57, (.bool l26_m57))], mkOb (someL [((oi 0 1), .cells 24 [(ai a1_0), (ai a1_1), (ai a1_2), (ai a1_3), (.tree (.pair .int (.pair .int (.pair .int (.pair .int .int)))) a1_4)]), ((oi 1 1), .mat 33 (oi 2 1) .int y18.2), ((oi 2 1), .pool 3 .int y18.2), ((oi 3 1), .cells 29 [(ai y20.1), (ai y20.2.1), (ai y20.2.2.1), (ai y20.2.2.2.1), (.own (oi 8 1) (.pair .int (.pair .int (.pair .int (.pair .int .int)))) 0 y20.2.2.2.2.length)]), ((oi 4 1), .mat 33 (oi 5 1) .int y22), ((oi 5 1), .pool 3 .int y22), ((oi 6 1), .mat 33 (oi 7 1) .int y24.2), ((oi 7 1), .pool 3 .int y24.2), ((oi 8 1), .arr 69 (.pair .int (.pair .int (.pair .int (.pair .int .int)))) y20.2.2.2.2)]), 2⟩) ?_ ?_
  · intro v_ h
    obtain ⟨y27, h27, h⟩ := ob_some h
    rcases cond_some h with ⟨q28, h⟩ | ⟨q28, h⟩
    · refine awp_region_ 52 ?_
      refine rs0 (.own (oi 736 37) (.slice .int) 0 y24.2.length) (by kernel_rfl) ?_
      refine rs0 (.own (oi 560 21) (.slice .int) 0 y18.2.length) (by kernel_rfl) ?_
      refine rcall (.bool y27) [] [(.own (oi 736 37) (.slice .int) 0 y24.2.length), (.own (oi 560 21) (.slice .int) 0 y18.2.length)] _ (caps := []) (args0 := [(.tree (.slice .int) y24.2), (.tree (.slice .int) y18.2)]) trivial (gm_cons (gd_mat (p := (oi 737 37)) (e1 := 33) (e := 3) (u := .int) (xss := y24.2) (by kernel_rfl) (pool_rows (by kernel_rfl)) rfl) (gm_cons (gd_mat (p := (oi 561 21)) (e1 := 33) (e := 3) (u := .int) (xss := y18.2) (by kernel_rfl) (pool_rows (by kernel_rfl)) rfl) gm_nil)) (ok_laws_eqIntSS h27) hb_laws_eqIntSS ?_
      refine rs0 (.bool (!y27)) (by kernel_rfl) ?_
      refine rs0 (.bool (!y27)) (by kernel_rfl) ?_
      refine rs0 (.tup []) (s_skip (by kernel_rfl) q28) ?_
      refine rs0 (.tup []) (s_skip (by kernel_rfl) q28) ?_
      refine rs0 (.tup []) (s_skip (by kernel_rfl) q28) ?_
      refine rs0 (.bool true) (s_pickT (by kernel_rfl) q28) ?_
      refine rnil (tn_ ?_)
      obtain rfl := Option.some.inj h
      exact ⟨_, (weak_ren [((oi 0 1), (oi 4 1)), ((oi 1 1), (oi 560 21)), ((oi 2 1), (oi 561 21)), ((oi 3 1), (oi 10 29)), ((oi 8 1), (oi 624 28)), ((oi 4 1), (oi 656 32)), ((oi 5 1), (oi 657 32)), ((oi 6 1), (oi 736 37)), ((oi 7 1), (oi 737 37))]), rfl⟩
    refine awp_region_ 52 ?_
    refine rs0 (.own (oi 736 37) (.slice .int) 0 y24.2.length) (by kernel_rfl) ?_
    refine rs0 (.own (oi 560 21) (.slice .int) 0 y18.2.length) (by kernel_rfl) ?_
    refine rcall (.bool y27) [] [(.own (oi 736 37) (.slice .int) 0 y24.2.length), (.own (oi 560 21) (.slice .int) 0 y18.2.length)] _ (caps := []) (args0 := [(.tree (.slice .int) y24.2), (.tree (.slice .int) y18.2)]) trivial (gm_cons (gd_mat (p := (oi 737 37)) (e1 := 33) (e := 3) (u := .int) (xss := y24.2) (by kernel_rfl) (pool_rows (by kernel_rfl)) rfl) (gm_cons (gd_mat (p := (oi 561 21)) (e1 := 33) (e := 3) (u := .int) (xss := y18.2) (by kernel_rfl) (pool_rows (by kernel_rfl)) rfl) gm_nil)) (ok_laws_eqIntSS h27) hb_laws_eqIntSS ?_
    refine rs0 (.bool (!y27)) (by kernel_rfl) ?_
    refine rs0 (.bool (!y27)) (by kernel_rfl) ?_
    refine rs0 (.bool y24.1) (s_gd (by kernel_rfl) q28 (by kernel_rfl)) ?_
    refine rs0 (.bool y18.1) (s_gd (by kernel_rfl) q28 (by kernel_rfl)) ?_
    refine rs0 (.bool (y24.1 != y18.1)) (s_gd (by kernel_rfl) q28 (by kernel_rfl)) ?_
    refine rs0 (.bool (y24.1 != y18.1)) (s_pickF (by kernel_rfl) q28) ?_
    refine rnil (tn_ ?_)
    obtain rfl := Option.some.inj h
    exact ⟨_, (weak_ren [((oi 0 1), (oi 4 1)), ((oi 1 1), (oi 560 21)), ((oi 2 1), (oi 561 21)), ((oi 3 1), (oi 10 29)), ((oi 8 1), (oi 624 28)), ((oi 4 1), (oi 656 32)), ((oi 5 1), (oi 657 32)), ((oi 6 1), (oi 736 37)), ((oi 7 1), (oi 737 37))]), rfl⟩
  rintro l26_m57 _ rfl h
  (try dsimp only at h)
  rcases cond_some h with ⟨q29, h⟩ | ⟨q29, h⟩
  · refine awp_condT_ q29 ?_
    refine seqR ?_
    refine awp_ret_ (tr_ ?_)
    obtain rfl := Option.some.inj h
    exact ret_ [(.bool false)] (p_one rfl (l_sc (by kernel_rfl)) p_nil)
  refine awp_condF_ q29 ?_
  refine awp_skip_ (tn_ ?_)
  refine ⟨_, Weak.refl _, ?_⟩
  refine awp_seqv_ ?_
  refine awp_seqv_ ?_
  obtain ⟨y33, h33, h⟩ := ob_some h
  obtain ⟨y34, h34, h⟩ := ob_some h
  refine awp_regionD_ 7 ?_
  refine dsl (.agg [(ai y20.1), (ai y20.2.1), (ai y20.2.2.1), (ai y20.2.2.2.1), (.own (oi 8 1) (.pair .int (.pair .int (.pair .int (.pair .int .int)))) 0 y20.2.2.2.2.length)]) (by kernel_rfl) ?_
  refine dsl (.agg [(ai a1_0), (ai a1_1), (ai a1_2), (ai a1_3), (.tree (.pair .int (.pair .int (.pair .int (.pair .int .int)))) a1_4)]) (by kernel_rfl) ?_
  refine dcall (.agg [(ai y33.1), (ai y33.2.1), (ai y33.2.2.1), (ai y33.2.2.2.1), (.own (oi 960 4) (.pair .int (.pair .int (.pair .int (.pair .int .int)))) 0 y33.2.2.2.2.length)]) [((oi 960 4), some (.arr 69 (.pair .int (.pair .int (.pair .int (.pair .int .int)))) y33.2.2.2.2))] [(.agg [(ai a1_0), (ai a1_1), (ai a1_2), (ai a1_3), (.tree (.pair .int (.pair .int (.pair .int (.pair .int .int)))) a1_4)])] _ (caps := []) (args0 := [(.agg [(ai a1_0), (ai a1_1), (ai a1_2), (ai a1_3), (.tree (.pair .int (.pair .int (.pair .int (.pair .int .int)))) a1_4)])]) trivial (by kernel_rfl) (ok_laws_toProgram h33) hb_laws_toProgram ?_
  refine dcall (.bool y34) [] [(.agg [(ai y20.1), (ai y20.2.1), (ai y20.2.2.1), (ai y20.2.2.2.1), (.own (oi 8 1) (.pair .int (.pair .int (.pair .int (.pair .int .int)))) 0 y20.2.2.2.2.length)]), (.agg [(ai y33.1), (ai y33.2.1), (ai y33.2.2.1), (ai y33.2.2.2.1), (.own (oi 960 4) (.pair .int (.pair .int (.pair .int (.pair .int .int)))) 0 y33.2.2.2.2.length)])] _ (caps := []) (args0 := [(.agg [(ai y20.1), (ai y20.2.1), (ai y20.2.2.1), (ai y20.2.2.2.1), (.tree (.pair .int (.pair .int (.pair .int (.pair .int .int)))) y20.2.2.2.2)]), (.agg [(ai y33.1), (ai y33.2.1), (ai y33.2.2.1), (ai y33.2.2.2.1), (.tree (.pair .int (.pair .int (.pair .int (.pair .int .int)))) y33.2.2.2.2)])]) trivial (gm_cons (gd_agg (gm_cons (by kernel_rfl) (gm_cons (by kernel_rfl) (gm_cons (by kernel_rfl) (gm_cons (by kernel_rfl) (gm_cons (gd_own (e := 69) (by kernel_rfl) rfl) gm_nil)))))) (gm_cons (gd_agg (gm_cons (by kernel_rfl) (gm_cons (by kernel_rfl) (gm_cons (by kernel_rfl) (gm_cons (by kernel_rfl) (gm_cons (gd_own (e := 69) (by kernel_rfl) rfl) gm_nil)))))) gm_nil)) (ok_laws_eqProgram h34) hb_laws_eqProgram ?_
  refine ds0 (.bool (!y34)) (by kernel_rfl) ?_
  refine dnil (badB_spec (by kernel_rfl)) (tn_ ?_)
  refine ⟨_, Weak.refl _, ?_⟩
  rcases cond_some h with ⟨q35, h⟩ | ⟨q35, h⟩
  · refine awp_condT_ q35 ?_
    refine seqR ?_
    refine awp_ret_ (tr_ ?_)
    obtain rfl := Option.some.inj h
    exact ret_ [(.bool false)] (p_one rfl (l_sc (by kernel_rfl)) p_nil)
  refine awp_condF_ q35 ?_
  refine awp_skip_ (tn_ ?_)
  refine ⟨_, Weak.refl _, ?_⟩
  refine awp_seqv_ ?_
  refine awp_seqv_ ?_
  obtain ⟨y39, h39, h⟩ := ob_some h
  obtain ⟨y40, h40, h⟩ := ob_some h
  refine awp_region_ 12 ?_
  refine rs0 (.own (oi 4 1) (.slice .int) 0 y22.length) (by kernel_rfl) ?_
  refine rs0 (.tree (.slice .int) a2) (by kernel_rfl) ?_
  refine rcallM (.own (oi 1040 9) (.slice .int) 0 y39.length) [((oi 1040 9), some (.mat 33 (oi 1041 9) .int y39)), ((oi 1041 9), some (.pool 3 .int y39))] [] [(.tree (.slice .int) a2)] (caps := []) trivial (ok_laws_toIntSS h39) hb_laws_toIntSS trivial (.cons (.ren (by kernel_rfl)) .nil) (reachL_mem (by kernel_rfl) (by kernel_rfl) trivial) ?_
  refine rcall (.bool y40) [] [(.own (oi 4 1) (.slice .int) 0 y22.length), (.own (oi 1040 9) (.slice .int) 0 y39.length)] _ (caps := []) (args0 := [(.tree (.slice .int) y22), (.tree (.slice .int) y39)]) trivial (gm_cons (gd_mat (p := (oi 5 1)) (e1 := 33) (e := 3) (u := .int) (xss := y22) (by kernel_rfl) (pool_rows (by kernel_rfl)) rfl) (gm_cons (gd_mat (p := (oi 1041 9)) (e1 := 33) (e := 3) (u := .int) (xss := y39) (by kernel_rfl) (pool_rows (by kernel_rfl)) rfl) gm_nil)) (ok_laws_eqIntSS h40) hb_laws_eqIntSS ?_
  refine rsB 1 ?_
  refine rnil (tn_ ?_)
  refine ⟨_, Weak.refl _, ?_⟩
  rcases cond_some h with ⟨q41, h⟩ | ⟨q41, h⟩
  · refine awp_condT_ q41 ?_
    refine seqR ?_
    refine awp_ret_ (tr_ ?_)
    obtain rfl := Option.some.inj h
    exact ret_ [(.bool false)] (p_one rfl (l_sc (by kernel_rfl)) p_nil)
  refine awp_condF_ q41 ?_
  refine awp_skip_ (tn_ ?_)
  refine ⟨_, Weak.refl _, ?_⟩
  refine seqR ?_
  refine awp_seqv_ ?_
  obtain ⟨y45, h45, h⟩ := ob_some h
  obtain ⟨g46, h⟩ := og_some h
  refine awp_region_ 17 ?_
  refine rsl (.agg [(ai y20.1), (ai y20.2.1), (ai y20.2.2.1), (ai y20.2.2.2.1), (.own (oi 8 1) (.pair .int (.pair .int (.pair .int (.pair .int .int)))) 0 y20.2.2.2.2.length)]) (by kernel_rfl) ?_
  refine rs0 (ai 1) (by kernel_rfl) ?_
  refine rcallM (ai y45.2) [((oi 8 1), some (.arr 69 (.pair .int (.pair .int (.pair .int (.pair .int .int)))) y45.1)), ((oi 8 1), none)] [((oi 0 0), (oi 8 1))] [(.agg [(ai y20.1), (ai y20.2.1), (ai y20.2.2.1), (ai y20.2.2.2.1), (.own (oi 8 1) (.pair .int (.pair .int (.pair .int (.pair .int .int)))) 0 y20.2.2.2.2.length)]), (ai 1)] (caps := []) trivial (ok_laws_markProgram h45 rfl) hb_laws_markProgram ⟨(by kernel_rfl), trivial⟩ (.cons (.agg (.cons (.ren (by kernel_rfl)) (.cons (.ren (by kernel_rfl)) (.cons (.ren (by kernel_rfl)) (.cons (.ren (by kernel_rfl)) (.cons (.ren (by kernel_rfl)) .nil)))))) (.cons (.ren (by kernel_rfl)) .nil)) (reachL_mem (by kernel_rfl) (by kernel_rfl) ⟨(re_arg (by kernel_rfl)), trivial⟩) ?_
  refine rsB 1 ?_
  refine rnil (tn_ ?_)
  refine ⟨_, Weak.refl _, ?_⟩
  refine awp_seqv_ ?_
  obtain ⟨y48, h48, h⟩ := ob_some h
  obtain ⟨g49, h⟩ := og_some h
  refine awp_region_ 21 ?_
  refine rs0 (.own (oi 4 1) (.slice .int) 0 y22.length) (by kernel_rfl) ?_
  refine rs0 (ai y45.2) (by kernel_rfl) ?_
  refine rcallM (ai y48.2) [((oi 4 1), some (.mat 33 (oi 1168 19) .int y48.1)), ((oi 1168 19), some (.pool 3 .int y48.1)), ((oi 4 1), none), ((oi 5 1), some (.pool 3 .int []))] [((oi 0 0), (oi 4 1)), ((oi 1 0), (oi 5 1))] [(.own (oi 4 1) (.slice .int) 0 y22.length), (ai y45.2)] (caps := []) trivial (ok_laws_markIntSS h48 rfl) hb_laws_markIntSS ⟨(by kernel_rfl), ⟨(by kernel_rfl), trivial⟩⟩ (.cons (.ren (by kernel_rfl)) (.cons (.ren (by kernel_rfl)) .nil)) (reachL_mem (by kernel_rfl) (by kernel_rfl) ⟨(re_arg (by kernel_rfl)), ⟨re_rows (o := (oi 4 1)) (p := (oi 5 1)) (e1 := 33) (m := y22.length) (u := .int) (xss := y22) (re_arg (by kernel_rfl)) (by kernel_rfl), trivial⟩⟩) ?_
  refine rsB 1 ?_
  refine rnil (tn_ ?_)
  refine ⟨_, Weak.refl _, ?_⟩
  refine awp_seqv_ ?_
  refine awp_seqB h (fun (l51_m86 : Bool) S_ => S_ = ⟨mkTm [(0, (ai a0)), (2, (.tree (.slice .int) a2)), (4, (.box (oi 0 1) 0)), (8, (.own (oi 1 1) (.slice .int) 0 y18.2.length)), (9, (.bool y18.1)), (12, (.own (oi 3 1) (.slice .int) 0 y24.2.length)), (86, (.bool l51_m86))], mkOb (someL [((oi 0 1), .cells 24 [(ai a1_0), (ai a1_1), (ai a1_2), (ai a1_3), (.tree (.pair .int (.pair .int (.pair .int (.pair .int .int)))) a1_4)]), ((oi 1 1), .mat 33 (oi 2 1) .int y18.2), ((oi 2 1), .pool 3 .int y18.2), ((oi 3 1), .mat 33 (oi 4 1) .int y24.2), ((oi 4 1), .pool 3 .int y24.2)]), 2⟩) ?_ ?_
  · intro v_ h
    rcases cond_some h with ⟨q52, h⟩ | ⟨q52, h⟩
    · have q52_ := of_decide_eq_true q52
      refine awp_region_ 34 ?_
      refine rs0 (ai y48.2) (by kernel_rfl) ?_
      refine rs0 (.bool (decide (y48.2 < 0))) (by kernel_rfl) ?_
      refine rs0 (.bool (decide (y48.2 < 0))) (by kernel_rfl) ?_
      refine rs0 (.tup []) (s_skip (by kernel_rfl) q52) ?_
      refine rs0 (.tup []) (s_skip (by kernel_rfl) q52) ?_
      refine rs0 (.tup []) (s_skip (by kernel_rfl) q52) ?_
      refine rs0 (.tup []) (s_skip (by kernel_rfl) q52) ?_
      refine rs0 (.bool true) (s_pickT (by kernel_rfl) q52) ?_
      refine rsB 5 ?_
      refine rnil (tn_ ?_)
      obtain rfl := Option.some.inj h
      exact ⟨_, (weak_ren [((oi 3 1), (oi 6 1)), ((oi 4 1), (oi 7 1))]), rfl⟩
    have q52_ := of_decide_eq_false q52
    obtain ⟨y53, h53, h⟩ := ob_some h
    rcases cond_some h with ⟨q54, h⟩ | ⟨q54, h⟩
    · refine awp_region_ 34 ?_
      refine rs0 (ai y48.2) (by kernel_rfl) ?_
      refine rs0 (.bool (decide (y48.2 < 0))) (by kernel_rfl) ?_
      refine rs0 (.bool (decide (y48.2 < 0))) (by kernel_rfl) ?_
      refine rs0 (.own (oi 6 1) (.slice .int) 0 y24.2.length) (s_gd (by kernel_rfl) q52 (by kernel_rfl)) ?_
      refine rs0 (.own (oi 1 1) (.slice .int) 0 y18.2.length) (s_gd (by kernel_rfl) q52 (by kernel_rfl)) ?_
      refine rcall (.bool y53) [] [(.own (oi 6 1) (.slice .int) 0 y24.2.length), (.own (oi 1 1) (.slice .int) 0 y18.2.length)] _ (caps := []) (args0 := [(.tree (.slice .int) y24.2), (.tree (.slice .int) y18.2)]) (gdOK_b (by kernel_rfl) q52) (gm_cons (gd_mat (p := (oi 7 1)) (e1 := 33) (e := 3) (u := .int) (xss := y24.2) (by kernel_rfl) (pool_rows (by kernel_rfl)) rfl) (gm_cons (gd_mat (p := (oi 2 1)) (e1 := 33) (e := 3) (u := .int) (xss := y18.2) (by kernel_rfl) (pool_rows (by kernel_rfl)) rfl) gm_nil)) (ok_laws_eqIntSS h53) hb_laws_eqIntSS ?_
      refine rs0 (.bool (!y53)) (s_gd (by kernel_rfl) q52 (by kernel_rfl)) ?_
      refine rs0 (.bool (!y53)) (s_pickF (by kernel_rfl) q52) ?_
      refine rs0 (.bool (!y53)) (by kernel_rfl) ?_
      refine rs0 (.tup []) (s_skip (by kernel_rfl) q54) ?_
      refine rs0 (.tup []) (s_skip (by kernel_rfl) q54) ?_
      refine rs0 (.tup []) (s_skip (by kernel_rfl) q54) ?_
      refine rs0 (.bool true) (s_pickT (by kernel_rfl) q54) ?_
      refine rnil (tn_ ?_)
      obtain rfl := Option.some.inj h
      exact ⟨_, (weak_ren [((oi 3 1), (oi 6 1)), ((oi 4 1), (oi 7 1))]), rfl⟩
    refine awp_region_ 34 ?_
    refine rs0 (ai y48.2) (by kernel_rfl) ?_
    refine rs0 (.bool (decide (y48.2 < 0))) (by kernel_rfl) ?_
    refine rs0 (.bool (decide (y48.2 < 0))) (by kernel_rfl) ?_
    refine rs0 (.own (oi 6 1) (.slice .int) 0 y24.2.length) (s_gd (by kernel_rfl) q52 (by kernel_rfl)) ?_
    refine rs0 (.own (oi 1 1) (.slice .int) 0 y18.2.length) (s_gd (by kernel_rfl) q52 (by kernel_rfl)) ?_
    refine rcall (.bool y53) [] [(.own (oi 6 1) (.slice .int) 0 y24.2.length), (.own (oi 1 1) (.slice .int) 0 y18.2.length)] _ (caps := []) (args0 := [(.tree (.slice .int) y24.2), (.tree (.slice .int) y18.2)]) (gdOK_b (by kernel_rfl) q52) (gm_cons (gd_mat (p := (oi 7 1)) (e1 := 33) (e := 3) (u := .int) (xss := y24.2) (by kernel_rfl) (pool_rows (by kernel_rfl)) rfl) (gm_cons (gd_mat (p := (oi 2 1)) (e1 := 33) (e := 3) (u := .int) (xss := y18.2) (by kernel_rfl) (pool_rows (by kernel_rfl)) rfl) gm_nil)) (ok_laws_eqIntSS h53) hb_laws_eqIntSS ?_
    refine rs0 (.bool (!y53)) (s_gd (by kernel_rfl) q52 (by kernel_rfl)) ?_
    refine rs0 (.bool (!y53)) (s_pickF (by kernel_rfl) q52) ?_
    refine rs0 (.bool (!y53)) (by kernel_rfl) ?_
    refine rs0 (.bool y24.1) (s_gd (by kernel_rfl) q54 (by kernel_rfl)) ?_
    refine rs0 (.bool y18.1) (s_gd (by kernel_rfl) q54 (by kernel_rfl)) ?_
    refine rs0 (.bool (y24.1 != y18.1)) (s_gd (by kernel_rfl) q54 (by kernel_rfl)) ?_
    refine rs0 (.bool (y24.1 != y18.1)) (s_pickF (by kernel_rfl) q54) ?_
    refine rnil (tn_ ?_)
    obtain rfl := Option.some.inj h
    exact ⟨_, (weak_ren [((oi 3 1), (oi 6 1)), ((oi 4 1), (oi 7 1))]), rfl⟩
  rintro l51_m86 _ rfl h
  (try dsimp only at h)
  rcases cond_some h with ⟨q55, h⟩ | ⟨q55, h⟩
  · refine awp_condT_ q55 ?_
    refine seqR ?_
    refine awp_ret_ (tr_ ?_)
    obtain rfl := Option.some.inj h
    exact ret_ [(.bool false)] (p_one rfl (l_sc (by kernel_rfl)) p_nil)
  refine awp_condF_ q55 ?_
  refine awp_skip_ (tn_ ?_)
  refine ⟨_, Weak.refl _, ?_⟩
  refine seqR ?_
  refine awp_seqv_ ?_
  obtain ⟨y59, h59, h⟩ := ob_some h
  obtain ⟨g60, h⟩ := og_some h
  refine awp_region_ 7 ?_
  refine rs0 (.own (oi 3 1) (.slice .int) 0 y24.2.length) (by kernel_rfl) ?_
  refine rs0 (ai 1) (by kernel_rfl) ?_
  refine rcallM (ai y59.2) [((oi 3 1), some (.mat 33 (oi 1424 5) .int y59.1)), ((oi 1424 5), some (.pool 3 .int y59.1)), ((oi 3 1), none), ((oi 4 1), some (.pool 3 .int []))] [((oi 0 0), (oi 3 1)), ((oi 1 0), (oi 4 1))] [(.own (oi 3 1) (.slice .int) 0 y24.2.length), (ai 1)] (caps := []) trivial (ok_laws_markIntSS h59 rfl) hb_laws_markIntSS ⟨(by kernel_rfl), ⟨(by kernel_rfl), trivial⟩⟩ (.cons (.ren (by kernel_rfl)) (.cons (.ren (by kernel_rfl)) .nil)) (reachL_mem (by kernel_rfl) (by kernel_rfl) ⟨(re_arg (by kernel_rfl)), ⟨re_rows (o := (oi 3 1)) (p := (oi 4 1)) (e1 := 33) (m := y24.2.length) (u := .int) (xss := y24.2) (re_arg (by kernel_rfl)) (by kernel_rfl), trivial⟩⟩) ?_
  refine rsB 1 ?_
  refine rnil (tn_ ?_)
  refine ⟨_, Weak.refl _, ?_⟩
  refine seqR ?_
  refine awp_seqv_ ?_
  obtain ⟨y63, h63, h⟩ := ob_some h
  refine awp_region_ 12 ?_
  refine rs0 (.own (oi 3 1) (.slice .int) 0 y24.2.length) (by kernel_rfl) ?_
  refine rs0 (ai 1) (by kernel_rfl) ?_
  refine rcall (ai y63) [] [(.own (oi 3 1) (.slice .int) 0 y24.2.length), (ai 1)] _ (caps := []) (args0 := [(.tree (.slice .int) y59.1), (ai 1)]) trivial (gm_cons (gd_mat (p := (oi 1424 5)) (e1 := 33) (e := 3) (u := .int) (xss := y59.1) (by kernel_rfl) (pool_rows (by kernel_rfl)) g60.symm) (gm_cons (by kernel_rfl) gm_nil)) (ok_laws_heldIntSS h63) hb_laws_heldIntSS ?_
  refine rsB 1 ?_
  refine rnil (tn_ ?_)
  refine ⟨_, Weak.refl _, ?_⟩
  refine awp_seqv_ ?_
  refine seqR ?_
  rcases cond_some h with ⟨q66, h⟩ | ⟨q66, h⟩
  · have q66_ := of_decide_eq_true q66
    refine awp_condT_ q66 ?_
    refine seqR ?_
    refine awp_ret_ (tr_ ?_)
    obtain rfl := Option.some.inj h
    exact ret_ [(.bool false)] (p_one rfl (l_sc (by kernel_rfl)) p_nil)
  have q66_ := of_decide_eq_false q66
  refine awp_condF_ q66 ?_
  refine awp_skip_ (tn_ ?_)
  refine ⟨_, Weak.refl _, ?_⟩
  refine awp_seqv_ ?_
  refine seqR ?_
  rcases cond_some h with ⟨q70, h⟩ | ⟨q70, h⟩
  · refine awp_condT_ q70 ?_
    refine seqR ?_
    refine awp_ret_ (tr_ ?_)
    obtain rfl := Option.some.inj h
    exact ret_ [(.bool false)] (p_one rfl (l_sc (by kernel_rfl)) p_nil)
  refine awp_condF_ q70 ?_
  refine awp_skip_ (tn_ ?_)
  refine ⟨_, Weak.refl _, ?_⟩
  refine awp_seqv_ ?_
  obtain ⟨y73, h73, h⟩ := ob_some h
  obtain ⟨y74, h74, h⟩ := ob_some h
  obtain ⟨y75, h75, h⟩ := ob_some h
  refine awp_region_ 28 ?_
  refine rs0 (ai a0) (by kernel_rfl) ?_
  refine rsl (.agg [(ai a1_0), (ai a1_1), (ai a1_2), (ai a1_3), (.tree (.pair .int (.pair .int (.pair .int (.pair .int .int)))) a1_4)]) (by kernel_rfl) ?_
  refine rcall (.agg [(ai y73.1), (ai y73.2.1), (ai y73.2.2.1), (ai y73.2.2.2.1), (.own (oi 1616 19) (.pair .int (.pair .int (.pair .int (.pair .int .int)))) 0 y73.2.2.2.2.length)]) [((oi 1616 19), some (.arr 69 (.pair .int (.pair .int (.pair .int (.pair .int .int)))) y73.2.2.2.2))] [(.agg [(ai a1_0), (ai a1_1), (ai a1_2), (ai a1_3), (.tree (.pair .int (.pair .int (.pair .int (.pair .int .int)))) a1_4)])] _ (caps := []) (args0 := [(.agg [(ai a1_0), (ai a1_1), (ai a1_2), (ai a1_3), (.tree (.pair .int (.pair .int (.pair .int (.pair .int .int)))) a1_4)])]) trivial (by kernel_rfl) (ok_laws_toProgram h73) hb_laws_toProgram ?_
  refine rs0 (.tree (.slice .int) a2) (by kernel_rfl) ?_
  refine rcallM (.own (oi 1648 21) (.slice .int) 0 y74.length) [((oi 1648 21), some (.mat 33 (oi 1649 21) .int y74)), ((oi 1649 21), some (.pool 3 .int y74))] [] [(.tree (.slice .int) a2)] (caps := []) trivial (ok_laws_toIntSS h74) hb_laws_toIntSS trivial (.cons (.ren (by kernel_rfl)) .nil) (reachL_mem (by kernel_rfl) (by kernel_rfl) trivial) ?_
  refine rcallM (.tup [(.own (oi 1664 22) (.slice .int) 0 y75.2.length), (.bool y75.1)]) [((oi 1664 22), some (.mat 33 (oi 1665 22) .int y75.2)), ((oi 1665 22), some (.pool 3 .int y75.2))] [] [(ai a0), (.agg [(ai y73.1), (ai y73.2.1), (ai y73.2.2.1), (ai y73.2.2.2.1), (.own (oi 1616 19) (.pair .int (.pair .int (.pair .int (.pair .int .int)))) 0 y73.2.2.2.2.length)]), (.own (oi 1648 21) (.slice .int) 0 y74.length)] (caps := []) trivial (ok_impl_RunProgram h75) hb_impl_RunProgram trivial (.cons (.ren (by kernel_rfl)) (.cons (.agg (.cons (.ren (by kernel_rfl)) (.cons (.ren (by kernel_rfl)) (.cons (.ren (by kernel_rfl)) (.cons (.ren (by kernel_rfl)) (.cons (.gnd (by kernel_rfl) (gd_own (e := 69) ((less_at (by kernel_rfl) (by kernel_rfl) (by kernel_rfl)).trans (by kernel_rfl)) rfl)) .nil)))))) (.cons (.gnd (by kernel_rfl) (gd_mat (p := (oi 1649 21)) (e1 := 33) (e := 3) (u := .int) (xss := y74) ((less_at (by kernel_rfl) (by kernel_rfl) (by kernel_rfl)).trans (by kernel_rfl)) (less_pool (by kernel_rfl) (by kernel_rfl) (pool_rows (by kernel_rfl)) (by kernel_rfl)) rfl)) .nil))) (reachL_mem (by kernel_rfl) (by kernel_rfl) trivial) ?_
  refine rsB 5 ?_
  refine rnil (tn_ ?_)
  refine ⟨_, Weak.refl _, ?_⟩
  refine awp_seqv_ ?_
  refine awp_seqB h (fun (l77_m115 : Bool) S_ => S_ = ⟨mkTm [(12, (.own (oi 0 1) (.slice .int) 0 y59.1.length)), (15, (ai y59.2)), (115, (.bool l77_m115))], mkOb (someL [((oi 0 1), .mat 33 (oi 1 1) .int y59.1), ((oi 1 1), .pool 3 .int y59.1)]), 2⟩) ?_ ?_
  · intro v_ h
    obtain ⟨y78, h78, h⟩ := ob_some h
    rcases cond_some h with ⟨q79, h⟩ | ⟨q79, h⟩
    · refine awp_region_ 37 ?_
      refine rs0 (.own (oi 1664 22) (.slice .int) 0 y75.2.length) (by kernel_rfl) ?_
      refine rs0 (.own (oi 1 1) (.slice .int) 0 y18.2.length) (by kernel_rfl) ?_
      refine rcall (.bool y78) [] [(.own (oi 1664 22) (.slice .int) 0 y75.2.length), (.own (oi 1 1) (.slice .int) 0 y18.2.length)] _ (caps := []) (args0 := [(.tree (.slice .int) y75.2), (.tree (.slice .int) y18.2)]) trivial (gm_cons (gd_mat (p := (oi 1665 22)) (e1 := 33) (e := 3) (u := .int) (xss := y75.2) (by kernel_rfl) (pool_rows (by kernel_rfl)) rfl) (gm_cons (gd_mat (p := (oi 2 1)) (e1 := 33) (e := 3) (u := .int) (xss := y18.2) (by kernel_rfl) (pool_rows (by kernel_rfl)) rfl) gm_nil)) (ok_laws_eqIntSS h78) hb_laws_eqIntSS ?_
      refine rs0 (.bool (!y78)) (by kernel_rfl) ?_
      refine rs0 (.bool (!y78)) (by kernel_rfl) ?_
      refine rs0 (.tup []) (s_skip (by kernel_rfl) q79) ?_
      refine rs0 (.tup []) (s_skip (by kernel_rfl) q79) ?_
      refine rs0 (.tup []) (s_skip (by kernel_rfl) q79) ?_
      refine rs0 (.bool true) (s_pickT (by kernel_rfl) q79) ?_
      refine rnil (tn_ ?_)
      obtain rfl := Option.some.inj h
      exact ⟨_, ((weak_tm_ 12 (.own (oi 3 1) (.slice .int) 0 y24.2.length) (.own (oi 3 1) (.slice .int) 0 y59.1.length) (by kernel_rfl) (congrArg (fun z_ => ((.own (oi 3 1) (.slice .int) 0 z_) : AV)) (g60.symm : y24.2.length = y59.1.length))).trans (weak_ren [((oi 0 1), (oi 3 1)), ((oi 1 1), (oi 1424 5))])), rfl⟩
    refine awp_region_ 37 ?_
    refine rs0 (.own (oi 1664 22) (.slice .int) 0 y75.2.length) (by kernel_rfl) ?_
    refine rs0 (.own (oi 1 1) (.slice .int) 0 y18.2.length) (by kernel_rfl) ?_
    refine rcall (.bool y78) [] [(.own (oi 1664 22) (.slice .int) 0 y75.2.length), (.own (oi 1 1) (.slice .int) 0 y18.2.length)] _ (caps := []) (args0 := [(.tree (.slice .int) y75.2), (.tree (.slice .int) y18.2)]) trivial (gm_cons (gd_mat (p := (oi 1665 22)) (e1 := 33) (e := 3) (u := .int) (xss := y75.2) (by kernel_rfl) (pool_rows (by kernel_rfl)) rfl) (gm_cons (gd_mat (p := (oi 2 1)) (e1 := 33) (e := 3) (u := .int) (xss := y18.2) (by kernel_rfl) (pool_rows (by kernel_rfl)) rfl) gm_nil)) (ok_laws_eqIntSS h78) hb_laws_eqIntSS ?_
    refine rs0 (.bool (!y78)) (by kernel_rfl) ?_
    refine rs0 (.bool (!y78)) (by kernel_rfl) ?_
    refine rs0 (.bool y75.1) (s_gd (by kernel_rfl) q79 (by kernel_rfl)) ?_
    refine rs0 (.bool y18.1) (s_gd (by kernel_rfl) q79 (by kernel_rfl)) ?_
    refine rs0 (.bool (y75.1 != y18.1)) (s_gd (by kernel_rfl) q79 (by kernel_rfl)) ?_
    refine rs0 (.bool (y75.1 != y18.1)) (s_pickF (by kernel_rfl) q79) ?_
    refine rnil (tn_ ?_)
    obtain rfl := Option.some.inj h
    exact ⟨_, ((weak_tm_ 12 (.own (oi 3 1) (.slice .int) 0 y24.2.length) (.own (oi 3 1) (.slice .int) 0 y59.1.length) (by kernel_rfl) (congrArg (fun z_ => ((.own (oi 3 1) (.slice .int) 0 z_) : AV)) (g60.symm : y24.2.length = y59.1.length))).trans (weak_ren [((oi 0 1), (oi 3 1)), ((oi 1 1), (oi 1424 5))])), rfl⟩
  rintro l77_m115 _ rfl h
  (try dsimp only at h)
  rcases cond_some h with ⟨q80, h⟩ | ⟨q80, h⟩
  · refine awp_condT_ q80 ?_
    refine seqR ?_
    refine awp_ret_ (tr_ ?_)
    obtain rfl := Option.some.inj h
    exact ret_ [(.bool false)] (p_one rfl (l_sc (by kernel_rfl)) p_nil)
  refine awp_condF_ q80 ?_
  refine awp_skip_ (tn_ ?_)
  refine ⟨_, Weak.refl _, ?_⟩
  refine seqR ?_
  refine awp_seqv_ ?_
  obtain ⟨y84, h84, h⟩ := ob_some h
  refine awp_region_ 7 ?_
  refine rs0 (.own (oi 0 1) (.slice .int) 0 y59.1.length) (by kernel_rfl) ?_
  refine rs0 (ai 1) (by kernel_rfl) ?_
  refine rcall (ai y84) [] [(.own (oi 0 1) (.slice .int) 0 y59.1.length), (ai 1)] _ (caps := []) (args0 := [(.tree (.slice .int) y59.1), (ai 1)]) trivial (gm_cons (gd_mat (p := (oi 1 1)) (e1 := 33) (e := 3) (u := .int) (xss := y59.1) (by kernel_rfl) (pool_rows (by kernel_rfl)) rfl) (gm_cons (by kernel_rfl) gm_nil)) (ok_laws_heldIntSS h84) hb_laws_heldIntSS ?_
  refine rsB 1 ?_
  refine rnil (tn_ ?_)
  refine ⟨_, Weak.refl _, ?_⟩
  refine awp_seqv_ ?_
  refine seqR ?_
  rcases cond_some h with ⟨q87, h⟩ | ⟨q87, h⟩
  · have q87_ := of_decide_eq_true q87
    refine awp_condT_ q87 ?_
    refine seqR ?_
    refine awp_ret_ (tr_ ?_)
    obtain rfl := Option.some.inj h
    exact ret_ [(.bool false)] (p_one rfl (l_sc (by kernel_rfl)) p_nil)
  have q87_ := of_decide_eq_false q87
  refine awp_condF_ q87 ?_
  refine awp_skip_ (tn_ ?_)
  refine ⟨_, Weak.refl _, ?_⟩
  refine awp_seqv_ ?_
  refine seqR ?_
  rcases cond_some h with ⟨q91, h⟩ | ⟨q91, h⟩
  · refine awp_condT_ q91 ?_
    refine seqR ?_
    refine awp_ret_ (tr_ ?_)
    obtain rfl := Option.some.inj h
    exact ret_ [(.bool false)] (p_one rfl (l_sc (by kernel_rfl)) p_nil)
  refine awp_condF_ q91 ?_
  refine awp_skip_ (tn_ ?_)
  refine ⟨_, Weak.refl _, ?_⟩
  refine seqR ?_
  refine awp_ret_ ?_
  obtain rfl := Option.some.inj h
  exact ret_ [(.bool true)] (p_one rfl (l_sc (by kernel_rfl)) p_nil)
end Go.Proofs.YtomijolkdmaimaaDoor
