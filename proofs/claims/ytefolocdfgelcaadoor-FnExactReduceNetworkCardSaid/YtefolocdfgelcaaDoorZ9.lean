/- Lemmas on the program and on partial functions that stand in place of its code (part 9); no condition beyond those that each one states. -/
import Derived.Test.YtefolocdfgelcaaDoorZ8
import Derived.Deep.RegionHeld3
namespace Go.Proofs.YtefolocdfgelcaaDoor
abbrev Net := Int × List Br × List Int × List Int
def goodT (p : Int) (N : Net) : Prop := GoodN p N.1 N.2.1 N.2.2.1 N.2.2.2
def stepT (p : Int) (N : Net) (v : Nat) : Option Net :=
 if isInn N.1 N.2.2.1 N.2.2.2 v = true then
  if badS p v N.2.1 = false then
   if goodP p (N.1 - 1) (nextB p N.1 v N.2.1) (N.2.2.1.map (toF v)) (N.2.2.2.map (toF v)) = true then some (N.1 - 1, nextB p N.1 v N.2.1, N.2.2.1.map (toF v), N.2.2.2.map (toF v)) else none
  else none
 else none
def findT (p : Int) (N : Net) : Option Net := (List.range N.1.toNat).findSome? (stepT p N)
def redT (p : Int) : Nat → Net → Net
 | 0, N => N
 | f + 1, N => match findT p N with
  | none => N
  | some M => redT p f M
theorem stepT_good {p : Int} {N M : Net} {v : Nat} (h : stepT p N v = some M) : goodT p M ∧ M.1 = N.1 - 1 := by
 unfold stepT at h
 split at h
 ·split at h
  ·split at h
   ·rename_i hg
    obtain rfl := Option.some.inj h
    exact ⟨goodP_iff.1 hg, rfl⟩
   ·cases h
  ·cases h
 ·cases h
theorem findT_good {p : Int} {N M : Net} (h : findT p N = some M) : goodT p M ∧ M.1 = N.1 - 1 := by
 obtain ⟨v, _, hv⟩ := List.exists_of_findSome?_eq_some h
 exact stepT_good hv
theorem redT_good {p : Int} : ∀ (f : Nat) (N : Net), goodT p N → goodT p (redT p f N)
 | 0, _, h => h
 | f + 1, N, h => by
  unfold redT
  split
  ·exact h
  ·rename_i M hM
   exact redT_good f M (findT_good hM).1
theorem loopM_find {τ ρ : Type} {body : Nat → Option (Ctl Nat ρ)} (n : Nat) (q : Nat → Option τ) (no : ρ) (g : τ → ρ) {F : Nat} (hn : n < F) (hs : ∀ i, i < n → body i = some ((q i).elim (.next (i + 1)) fun x => .out (g x))) (he : body n = some (.out no)) :
  loopM body F 0 = some (((List.range n).findSome? q).elim no g) := by
 refine loopM_eq n (fun i s => s = i ∧ (List.range i).findSome? q = none) hn _ ⟨rfl, rfl⟩ ?_ ?_
 ·rintro i s hi ⟨hsi, hq⟩
  subst s
  rw [hs i hi]
  cases hc : q i with
  | none =>
   refine .inl ⟨i + 1, rfl, rfl, ?_⟩
   rw [List.range_succ, List.findSome?_append, hq]
   simp [hc]
  | some x =>
   refine .inr ?_
   have : (List.range n).findSome? q = some x := by
    have e : List.range n = List.range (i + 1) ++ (List.range (n - (i + 1))).map (i + 1 + ·) := by
     rw [← List.range_add]; congr 1; omega
    rw [e, List.findSome?_append, List.range_succ, List.findSome?_append, hq]
    simp [hc]
   rw [this]; rfl
 ·rintro s ⟨hsi, hq⟩
  subst hsi
  rw [he, hq]; rfl
section
variable {p : Int} {N : Net}
theorem P_specInner (G : goodT p N) : loopM (fun s_ : Nat => L_spec_nwReduce_l2 N.1 N.2.1 N.2.2.1 N.2.2.2 p s_) 4611686018427387904 0 = some ((findT p N).elim (Ctl.next (false, N.1, N.2.1, N.2.2.1, N.2.2.2)) fun M => Ctl.next (true, M.1, M.2.1, M.2.2.1, M.2.2.2)) := by
 have n1 := G.n1; have n2 := G.n2; have ll := G.ll; have lr := G.lr
 refine loopM_find (F := 4611686018427387904) N.1.toNat (stepT p N) (Ctl.next (false, N.1, N.2.1, N.2.2.1, N.2.2.2)) (fun M => Ctl.next (true, M.1, M.2.1, M.2.2.1, M.2.2.2)) (by omega) (fun i hi => ?_) ?_
 ·unfold L_spec_nwReduce_l2 stepT
  rw [dec_t (by omega), cond_true, P_nwInner _ (by omega) (by omega) (by omega), Option.bind_some]
  cases hI : isInn N.1 N.2.2.1 N.2.2.2 (i : Int)
  ·simp only [Bool.not_false, cond_true, seqC, Bool.false_eq_true, if_false]
   rw [og_true (by omega)]; rfl
  ·have hnl := nextB_len G (isInn_iff hI).1
   rw [Bool.not_true, cond_false, if_pos rfl, P_specStar G hI, Option.bind_some]
   cases hb : badS p i N.2.1
   ·rw [if_pos rfl]
    by_cases hn : N.1 = 1
    ·have hz : goodP p (N.1 - 1) (nextB p N.1 i N.2.1) (N.2.2.1.map (toF i)) (N.2.2.2.map (toF i)) = false := by
      rw [Bool.eq_false_iff]
      intro h
      have := (goodP_iff.1 h).n1
      omega
     rw [if_pos (.inl hn), hz]
     simp only [cond_false, Option.bind_some, seqC, Bool.false_eq_true, if_false]
     rw [og_true (by omega)]; rfl
    ·rw [if_neg (by simp [hn])]
     dsimp only
     rw [cond_true, P_nwGood _ _ _ _ _ (by omega) (by simp; omega) (by simp; omega), Option.bind_some, Option.bind_some]
     cases hz : goodP p (N.1 - 1) (nextB p N.1 i N.2.1) (N.2.2.1.map (toF i)) (N.2.2.2.map (toF i))
     ·simp only [cond_false, seqC, Bool.false_eq_true, if_false]
      rw [og_true (by omega)]; rfl
     ·rfl
   ·rw [if_pos (.inr rfl)]
    simp only [cond_false, Option.bind_some, seqC, Bool.true_eq_false, if_false]
    rw [og_true (by omega)]; rfl
 ·unfold L_spec_nwReduce_l2
  rw [dec_f (by omega), cond_false]
theorem P_implInner (G : goodT p N) : loopM (fun s_ : Nat => L_impl_ReduceNetwork_l2 N.1 N.2.1 N.2.2.1 N.2.2.2 p s_) 4611686018427387904 0 = some ((findT p N).elim (Ctl.next ()) fun M => Ctl.out (Ctl.next (M.1, M.2.1, M.2.2.1, M.2.2.2))) := by
 have n1 := G.n1; have n2 := G.n2; have ll := G.ll; have lr := G.lr
 refine loopM_find (F := 4611686018427387904) N.1.toNat (stepT p N) (Ctl.next ()) (fun M => Ctl.out (Ctl.next (M.1, M.2.1, M.2.2.1, M.2.2.2))) (by omega) (fun i hi => ?_) ?_
 ·unfold L_impl_ReduceNetwork_l2 stepT
  rw [dec_t (by omega), cond_true, P_isInner _ (by omega) (by omega) (by omega), Option.bind_some]
  cases hI : isInn N.1 N.2.2.1 N.2.2.2 (i : Int)
  ·simp only [Bool.not_false, cond_true, seqC, Bool.false_eq_true, if_false]
   rw [og_true (by omega)]; rfl
  ·rw [Bool.not_true, cond_false, if_pos rfl, P_implStar G hI, Option.bind_some]
   cases hb : badS p i N.2.1
   ·rw [if_pos rfl]
    cases hz : goodP p (N.1 - 1) (nextB p N.1 i N.2.1) (N.2.2.1.map (toF i)) (N.2.2.2.map (toF i))
    ·simp only [Bool.false_eq_true, and_false, if_false, cond_false, seqC]
     rw [og_true (by omega)]; rfl
    ·rfl
   ·simp only [Bool.true_eq_false, false_and, if_false, cond_false, seqC]
    rw [og_true (by omega)]; rfl
 ·unfold L_impl_ReduceNetwork_l2
  rw [dec_f (by omega), cond_false]
end
theorem P_specLoop {p : Int} : ∀ (f : Nat) (N : Net) (F : Nat), goodT p N → N.1.toNat ≤ f → f + 1 < F → loopM (fun s_ : Bool × Int × (List Br) × List Int × List Int => L_spec_nwReduce_l1 p s_.1 s_.2.1 s_.2.2.1 s_.2.2.2.1 s_.2.2.2.2) F (true, N.1, N.2.1, N.2.2.1, N.2.2.2) = some (redT p f N)
 | 0, N, _, G, h, _ => by have := G.n1; omega
 | f + 1, N, F + 2, G, h, hF => by
  have one : L_spec_nwReduce_l1 p true N.1 N.2.1 N.2.2.1 N.2.2.2 = some ((findT p N).elim (Ctl.next (false, N.1, N.2.1, N.2.2.1, N.2.2.2)) fun M => Ctl.next (true, M.1, M.2.1, M.2.2.1, M.2.2.2)) := by
   unfold L_spec_nwReduce_l1
   rw [cond_true, P_specInner G]
  rw [loopM]
  dsimp only
  rw [one, Option.bind_some]
  unfold redT
  cases hM : findT p N with
  | none => rfl
  | some M =>
   obtain ⟨g, e⟩ := findT_good hM
   have := G.n1
   exact P_specLoop f M (F + 1) g (by omega) (by omega)
theorem P_implLoop {p : Int} : ∀ (f : Nat) (N : Net) (F : Nat), goodT p N → N.1.toNat ≤ f → f < F → loopM (fun s_ : Int × (List Br) × List Int × List Int => L_impl_ReduceNetwork_l1 p s_.1 s_.2.1 s_.2.2.1 s_.2.2.2) F (N.1, N.2.1, N.2.2.1, N.2.2.2) = some ((redT p f N).1, (redT p f N).2.1, (redT p f N).2.2.1, (redT p f N).2.2.2, true)
 | 0, N, _, G, h, _ => by have := G.n1; omega
 | f + 1, N, F + 1, G, h, hF => by
  have one : L_impl_ReduceNetwork_l1 p N.1 N.2.1 N.2.2.1 N.2.2.2 = some ((findT p N).elim (Ctl.out (N.1, N.2.1, N.2.2.1, N.2.2.2, true)) fun M => Ctl.next (M.1, M.2.1, M.2.2.1, M.2.2.2)) := by
   unfold L_impl_ReduceNetwork_l1
   rw [P_implInner G]
   cases findT p N <;> rfl
  rw [loopM]
  dsimp only
  rw [one, Option.bind_some]
  unfold redT
  cases hM : findT p N with
  | none => rfl
  | some M =>
   obtain ⟨g, e⟩ := findT_good hM
   have := G.n1
   exact P_implLoop f M F g (by omega) (by omega)
theorem good_mrgN {p n : Int} {bs : List Br} {l r : List Int} (G : GoodN p n bs l r) : MrgN p n bs := by
 have := G.n1; have := G.lb
 exact ⟨isF_bd G.fp, by omega, G.n2, by omega, fun e he => by obtain ⟨a, b, c, d, e⟩ := G.ib e he; exact ⟨a, b, c, by omega, e⟩⟩
theorem merged_good {p n : Int} {bs : List Br} {l r : List Int} (G : GoodN p n bs l r) : GoodN p n (mrgO p n.toNat bs) l r := by
 have hp := isF_bd G.fp
 have hl := mrgO_len (p := p) (n := n.toNat) bs bs.length (Nat.le_refl _)
 rw [List.take_length] at hl
 refine ⟨G.fp, G.n1, G.n2, by have := G.lb; omega, G.ll, G.lr, G.il, G.ir, fun e he => ?_⟩
 obtain ⟨a, b, h1, h2, h3, rfl⟩ := mem_allO _ he
 obtain ⟨e0, q1, q2, q3⟩ := sumAt_ne h3
 have := lohi (good_mrgN G) q1
 have hb := sumAt_bd (p := p) (a := a) (b := b) (by omega) bs
 have h3 : sumAt p bs a b ≠ 0 := h3
 refine ⟨by dsimp only; omega, by dsimp only; omega, by dsimp only; omega, ?_⟩
 show 1 ≤ sumAt p bs a b ∧ sumAt p bs a b < p
 omega
theorem P_redBoth {p n : Int} {b : List Br} {l r : List Int} (h1 : b.length ≤ 1073741824) (h2 : l.length ≤ 1073741824) (h3 : r.length ≤ 1073741824) :
  ∃ V : Int × List Br × List Int × List Int × Bool, L_spec_ReduceNetwork p n b l r = some V ∧ L_impl_ReduceNetwork p n b l r = some V ∧ V.2.1.length ≤ 1073741824 ∧ V.2.2.1.length ≤ 1073741824 ∧ V.2.2.2.1.length ≤ 1073741824 := by
 unfold L_spec_ReduceNetwork L_impl_ReduceNetwork
 rw [P_nwGood p n b l r (by omega) (by omega) (by omega), P_isNetwork p n b l r (by omega) (by omega) (by omega), Option.bind_some, Option.bind_some]
 cases hg : goodP p n b l r
 ·exact ⟨(0, [], [], [], false), rfl, rfl, by simp, by simp, by simp⟩
 have G := goodP_iff.1 hg
 have M := good_mrgN G
 have G' := merged_good G
 have n1 := G.n1; have n2 := G.n2; have ll := G.ll; have lr := G.lr; have hm := G'.lb
 have R := redT_good (p := p) n.toNat (n, mrgO p n.toNat b, l, r) G'
 have r1 := R.lb; have r2 := R.ll; have r3 := R.lr
 refine ⟨((redT p n.toNat (n, mrgO p n.toNat b, l, r)).1, (redT p n.toNat (n, mrgO p n.toNat b, l, r)).2.1, (redT p n.toNat (n, mrgO p n.toNat b, l, r)).2.2.1, (redT p n.toNat (n, mrgO p n.toNat b, l, r)).2.2.2, true), ?_, ?_, by dsimp only; omega, by dsimp only; omega, by dsimp only; omega⟩
 ·unfold L_spec_nwReduce
  rw [Bool.not_true, cond_false, P_specMerge M (by omega) (by omega), Option.bind_some, Option.bind_some]
  dsimp only
  rw [P_nwGood p n _ l r (by omega) (by omega) (by omega), goodP_iff.2 G']
  simp only [Option.bind_some, Bool.not_true, cond_false]
  have := P_specLoop (p := p) n.toNat (n, mrgO p n.toNat b, l, r) 4611686018427387904 G' (Nat.le_refl _) (by omega)
  dsimp only at this
  rw [this, Option.bind_some, Option.bind_some]
 ·rw [Bool.not_true, cond_false, P_implMerged M (by omega) (by omega), Option.bind_some]
  exact P_implLoop (p := p) n.toNat (n, mrgO p n.toNat b, l, r) 4611686018427387904 G' (Nat.le_refl _) (by omega)
theorem P_lawRed {p n : Int} {b : List Br} {l r : List Int} (h1 : b.length ≤ 9223372036854775807) (h2 : l.length ≤ 9223372036854775807) (h3 : r.length ≤ 9223372036854775807) : L_laws_FnExactReduceNetwork p n b l r = some true := by
 unfold L_laws_FnExactReduceNetwork
 rw [P_szNetwork n b l r (by omega) (by omega) (by omega) (by omega), Option.bind_some]
 by_cases e0 : (1048576 : Int) < ((b.length + l.length + r.length : Nat) : Int)
 ·rw [show szV 1048576 (b.length + l.length + r.length) = -1 from if_pos e0]; rfl
 rw [show szV 1048576 (b.length + l.length + r.length) = 1048576 - ((b.length + l.length + r.length : Nat) : Int) from if_neg e0, dec_f (by omega), cond_false]
 have h1 : b.length ≤ 1073741824 := by omega
 have h2 : l.length ≤ 1073741824 := by omega
 have h3 : r.length ≤ 1073741824 := by omega
 obtain ⟨⟨vn, vb, vl, vr, vo⟩, hs, hi, v1, v2, v3⟩ := P_redBoth (p := p) (n := n) h1 h2 h3
 dsimp only at v1 v2 v3
 obtain ⟨b1, l1, r1, u1, c1, d1, m1, x1, y1, z1, k1⟩ := P_markNetwork n b l r (v := 1) (by omega) h1 h2 h3
 obtain ⟨b2, l2, r2, u2, c2, d2, m2, x2, y2, z2, k2⟩ := P_markNetwork vn vb vl vr (v := 1) (by omega) v1 v2 v3
 simp only [P_toNetwork n b l r h1 h2 h3, hs, hi, Option.bind_some, P_eqNetwork vn vb vl vr v1 v2 v3, P_eqNetwork n b l r h1 h2 h3, m1, m2, k1, k2, og_true x1, og_true y1, og_true z1, og_true x2, og_true y2, og_true z2, bne_self_eq_false, Bool.not_true, cond_false, dec_f (show ¬ u1 < 0 by omega), dec_f (show ¬ u2 < 0 by omega)]
end Go.Proofs.YtefolocdfgelcaaDoor
namespace Go.Proofs.YtefolocdfgelcaaDoor
open Go.RowKit Go.Deep
theorem reduceNetwork_walk (p : Int) (nNodes : Int) (nBranches : List (Int × Int × Int)) (A_nBranches : Option Addr) (c_nBranches : Nat) (l_nBranches : List Addr) (nLeft : List (Int)) (A_nLeft : Option Addr) (c_nLeft : Nat) (l_nLeft : List Addr) (nRight : List (Int)) (A_nRight : Option Addr) (c_nRight : Nat) (l_nRight : List Addr) (w : World) (_i_p : -9223372036854775808 ≤ p ∧ p ≤ 9223372036854775807) (_i_nNodes : -9223372036854775808 ≤ nNodes ∧ nNodes ≤ 9223372036854775807) (s_nBranches : Sl (fun _ => True) w (.pair .int (.pair .int .int)) A_nBranches c_nBranches nBranches l_nBranches) (_i_nBranches : Ty.In (.slice (.pair .int (.pair .int .int))) nBranches) (s_nLeft : Sl (fun _ => True) w .int A_nLeft c_nLeft nLeft l_nLeft) (_i_nLeft : Ty.In (.slice .int) nLeft) (s_nRight : Sl (fun _ => True) w .int A_nRight c_nRight nRight l_nRight) (_i_nRight : Ty.In (.slice .int) nRight) (tab : Tab w) :
  Calls Tryd.prog 11 #[.int .i64 p, .agg #[.int .i64 nNodes, .slice A_nBranches nBranches.length c_nBranches, .slice A_nLeft nLeft.length c_nLeft, .slice A_nRight nRight.length c_nRight]] w fun e w' => e = .returned (.bool true) ∧ Below w.heap.size w w' := by
 have hl : L_laws_FnExactReduceNetwork p nNodes nBranches nLeft nRight = some true := P_lawRed (sl_len s_nBranches).2 (sl_len s_nLeft).2 (sl_len s_nRight).2
 refine (ok_laws_FnExactReduceNetwork hl w (fun _ => True) [.int .i64 p, .agg #[.int .i64 nNodes, .slice A_nBranches nBranches.length c_nBranches, .slice A_nLeft nLeft.length c_nLeft, .slice A_nRight nRight.length c_nRight]] (fun w' hb => tab.below hb) ⟨_, _, rfl, rfl, ⟨_, _, rfl, ⟨_, rfl, ⟨_, _, rfl, rfl, ⟨_, _, rfl, ⟨A_nBranches, c_nBranches, l_nBranches, rfl, s_nBranches⟩, ⟨_, _, rfl, ⟨A_nLeft, c_nLeft, l_nLeft, rfl, s_nLeft⟩, ⟨_, _, rfl, ⟨A_nRight, c_nRight, l_nRight, rfl, s_nRight⟩, rfl⟩⟩⟩⟩⟩, rfl⟩⟩).mono ?_
 rintro e w' ⟨u, rfl, hb, us, ls, h1, _, rfl⟩
 obtain ⟨u1, us1, rfl, h2, _, rfl, rfl⟩ := h1
 obtain rfl : u1 = .bool true := h2
 exact ⟨rfl, hb⟩
end Go.Proofs.YtefolocdfgelcaaDoor
