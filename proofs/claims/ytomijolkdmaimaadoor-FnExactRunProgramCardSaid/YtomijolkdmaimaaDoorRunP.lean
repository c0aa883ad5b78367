/- Runs of a program: what the partial functions and the law come to; no condition. -/
import Derived.Test.YtomijolkdmaimaaDoorRPA
import Derived.Test.YtomijolkdmaimaaDoorStpP
import Derived.Test.YtomijolkdmaimaaDoorIntSSP
namespace Go.Proofs.YtomijolkdmaimaaDoor
def vecR (p n : Int) (xs : List Int) : Bool := ((xs.length : Nat) : Int) == n && xs.all fun x => inR x 0 (p - 1)
theorem vecR_iff {p n : Int} {xs : List Int} : vecR p n xs = true ↔ ((xs.length : Nat) : Int) = n ∧ inP p xs := by
  simp only [vecR, Bool.and_eq_true, beq_iff_eq, List.all_eq_true, inR_true, inP]
  constructor
  · rintro ⟨h1, h2⟩; exact ⟨h1, fun x hx => by have := h2 x hx; omega⟩
  · rintro ⟨h1, h2⟩; exact ⟨h1, fun x hx => by have := h2 x hx; omega⟩
def rowsR (p n : Int) (xss : List (List Int)) : Bool := decide (((xss.length : Nat) : Int) ≤ 60) && xss.all (vecR p n)
theorem P_spRows (p n : Int) (xss : List (List Int)) (hp : 2 ≤ p ∧ p ≤ 97) (hn : xss.length ≤ 1048576) (hb : RowsB 1048576 xss) : L_spec_spRows p n xss = some (xss.all (vecR p n)) := by
  unfold L_spec_spRows
  rw [loopM_all xss (vecR p n) (.next ()) (.out false) (by omega) (fun i x h => ?_) ?_, seq_all]
  · unfold L_spec_spRows_l1
    rw [dec_f (by omega), cond_false]
  · have hi := getN_lt h
    have hx : x.length ≤ 1048576 := hb x (List.mem_of_getElem? h)
    unfold L_spec_spRows_l1 vecR
    rw [dec_t (by omega), cond_true, h, Option.bind_some]
    cases hc : ((x.length : Nat) : Int) == n
    · simp [bne, hc]
    · rw [P_fdIn p x hp (by omega), og_true (by omega)]
      cases hd : x.all fun x => inR x 0 (p - 1) <;> simp [bne, hc]
theorem P_crLists (p n : Int) (xss : List (List Int)) (hp : 2 ≤ p ∧ p ≤ 97) (hn : xss.length ≤ 1048576) (hb : RowsB 1048576 xss) : L_spec_crLists p n xss = some (rowsR p n xss) := by
  unfold L_spec_crLists rowsR
  rw [P_spRows p n xss hp hn hb]
  cases decide (((xss.length : Nat) : Int) ≤ 60) <;> simp
theorem P_areVectors (p n : Int) (xss : List (List Int)) (hn : xss.length ≤ 1048576) (hb : RowsB 1048576 xss) : L_impl_areVectors p xss n = some (xss.all (vecR p n)) := by
  unfold L_impl_areVectors
  rw [loopM_all xss (vecR p n) (.next ()) (.out false) (by omega) (fun i x h => ?_) ?_, seq_all]
  · unfold L_impl_areVectors_l1
    rw [dec_f (by omega), cond_false]
  · have hi := getN_lt h
    have hx : x.length ≤ 1048576 := hb x (List.mem_of_getElem? h)
    unfold L_impl_areVectors_l1
    rw [dec_t (by omega), cond_true, h, Option.bind_some, show L_impl_isVector p x n = some (vecR p n x) from P_isVector p x n (by omega), Option.bind_some, og_true (by omega)]
    cases vecR p n x <;> rfl
theorem P_isRun (p n : Int) (xss : List (List Int)) (hn : xss.length ≤ 1048576) (hb : RowsB 1048576 xss) : L_impl_isRun p xss n = some (rowsR p n xss) := by
  unfold L_impl_isRun rowsR
  rw [P_areVectors p n xss hn hb]
  cases decide (((xss.length : Nat) : Int) ≤ 60) <;> simp
section
variable {p i o c g : Int} {code : List (Int × Int × Int × Int × Int)} {xss : List (List Int)}
abbrev RunS := List (List Int) × List Int
def runS (p o g : Int) (code : List (Int × Int × Int × Int × Int)) (s : RunS) (x : List Int) : RunS := (s.1 ++ [(stepV p o g code s.2 x).2], (stepV p o g code s.2 x).1)
def runAt (p o c g : Int) (code : List (Int × Int × Int × Int × Int)) (xss : List (List Int)) (k : Nat) : RunS := (xss.take k).foldl (runS p o g code) ([], List.replicate c.toNat 0)
theorem runAt_succ {k : Nat} {x : List Int} (h : xss[k]? = some x) : runAt p o c g code xss (k + 1) = runS p o g code (runAt p o c g code xss k) x := by
  unfold runAt
  rw [List.take_add_one, h, List.foldl_append]; rfl
structure RunInv (p o c : Int) (k : Nat) (s : RunS) : Prop where
  len : s.1.length = k
  row : ∀ r ∈ s.1, r.length = o.toNat
  c1 : s.2.length = c.toNat
  c2 : inP p s.2
theorem runAt_inv (G : GoodPrg p i o c g code) (hr : ∀ x ∈ xss, vecR p i x = true) : ∀ k, k ≤ xss.length → RunInv p o c k (runAt p o c g code xss k)
  | 0, _ => ⟨rfl, fun r hr => (by cases hr), by simp [runAt], inP_rep (by have := G.hp; omega)⟩
  | k + 1, hk => by
    have hx := List.getElem?_eq_getElem (show k < xss.length by omega)
    have h := runAt_inv G hr k (by omega)
    have hv := vecR_iff.1 (hr _ (List.getElem_mem (show k < xss.length by omega)))
    have b1 := G.hi
    have hl := stepV_len (cs := (runAt p o c g code xss k).2) G (ins := xss[k]) (by omega) hv.2 h.c1 h.c2
    rw [runAt_succ hx]
    refine ⟨by simp [runS, h.len], fun r hr => ?_, hl.1, hl.2.2⟩
    rcases List.mem_append.1 hr with hr | hr
    · exact h.row r hr
    · obtain rfl := List.mem_singleton.1 hr
      exact hl.2.1
def runV (p i o c g : Int) (code : List (Int × Int × Int × Int × Int)) (xss : List (List Int)) : Bool × List (List Int) :=
  if prgP p i o c g code = true ∧ rowsR p i xss = true then (true, (runAt p o c g code xss xss.length).1) else (false, [])
theorem rowsR_iff {n : Int} : rowsR p n xss = true ↔ xss.length ≤ 60 ∧ ∀ x ∈ xss, vecR p n x = true := by
  simp only [rowsR, Bool.and_eq_true, decide_eq_true_eq, List.all_eq_true]
  constructor
  · rintro ⟨h1, h2⟩; exact ⟨by omega, h2⟩
  · rintro ⟨h1, h2⟩; exact ⟨by omega, h2⟩
theorem P_specRun (h1 : code.length ≤ 1073741824) (hn : xss.length ≤ 1048576) (hb : RowsB 1048576 xss) : L_spec_RunProgram p i o c g code xss = some (runV p i o c g code xss) := by
  unfold L_spec_RunProgram runV
  rw [P_cmGood (by omega), Option.bind_some]
  cases hg : prgP p i o c g code
  · simp
  have G := prgP_iff.1 hg
  have b4 := G.hc; have b2 := G.hi
  rw [P_crLists p i xss G.hp hn hb]
  cases hr : rowsR p i xss
  · simp
  obtain ⟨r1, r2⟩ := rowsR_iff.1 hr
  simp only [Bool.not_true, cond_false, Option.bind_some, and_self, if_true]
  rw [og_true (by omega)]
  rw [loopM_det (s0 := (0, List.replicate c.toNat 0, [])) xss.length (fun k => (k, (runAt p o c g code xss k).2, (runAt p o c g code xss k).1)) (by omega) ((runAt p o c g code xss xss.length).1) rfl (fun k hk => ?_) ?_]
  · rfl
  · try dsimp only
    unfold L_spec_RunProgram_l1
    rw [dec_f (by omega), cond_false]
  · have hx := List.getElem?_eq_getElem hk
    have hI := runAt_inv (o := o) (c := c) (g := g) G r2 k (by omega)
    have hv := vecR_iff.1 (r2 _ (List.getElem_mem hk))
    rw [runAt_succ hx]
    have hl := hI.len
    have := P_cmStep (cs := (runAt p o c g code xss k).2) (ins := xss[k]) G (by omega) hv.2 hI.c1 hI.c2
    generalize runAt p o c g code xss k = s at hI this hl
    try dsimp only
    unfold L_spec_RunProgram_l1
    rw [dec_t (by omega), cond_true, hx, Option.bind_some, this, Option.bind_some, og_true (by omega), og_true (by omega)]
    rfl
theorem P_implRun (h1 : code.length ≤ 1073741824) (hn : xss.length ≤ 1048576) (hb : RowsB 1048576 xss) : L_impl_RunProgram p i o c g code xss = some (runV p i o c g code xss) := by
  unfold L_impl_RunProgram runV
  rw [P_isProgram (by omega), Option.bind_some]
  cases hg : prgP p i o c g code
  · simp
  have G := prgP_iff.1 hg
  have b4 := G.hc; have b2 := G.hi
  rw [P_isRun p i xss hn hb]
  cases hr : rowsR p i xss
  · simp
  obtain ⟨r1, r2⟩ := rowsR_iff.1 hr
  simp only [Bool.not_true, cond_false, Option.bind_some, and_self, if_true]
  rw [P_zeros (by omega), Option.bind_some]
  rw [loopM_det (s0 := (0, [], List.replicate c.toNat 0)) xss.length (fun k => (k, (runAt p o c g code xss k).1, (runAt p o c g code xss k).2)) (by omega) ((runAt p o c g code xss xss.length).1) rfl (fun k hk => ?_) ?_]
  · rfl
  · try dsimp only
    unfold L_impl_RunProgram_l1
    rw [dec_f (by omega), cond_false]
  · have hx := List.getElem?_eq_getElem hk
    have hI := runAt_inv (o := o) (c := c) (g := g) G r2 k (by omega)
    have hv := vecR_iff.1 (r2 _ (List.getElem_mem hk))
    rw [runAt_succ hx]
    have hl := hI.len
    have := P_implStep (cs := (runAt p o c g code xss k).2) (ins := xss[k]) G (by omega) hv.2 hI.c1 hI.c2
    generalize runAt p o c g code xss k = s at hI this hl
    try dsimp only
    unfold L_impl_RunProgram_l1
    rw [dec_t (by omega), cond_true, hx, Option.bind_some, this, Option.bind_some, og_true (by omega), og_true (by omega)]
    rfl
theorem runV_bd : (runV p i o c g code xss).2.length ≤ 1048576 ∧ RowsB 1048576 (runV p i o c g code xss).2 := by
  unfold runV
  split
  · rename_i h
    have G := prgP_iff.1 h.1
    obtain ⟨r1, r2⟩ := rowsR_iff.1 h.2
    have hI := runAt_inv (o := o) (c := c) (g := g) G r2 xss.length (Nat.le_refl _)
    have b3 := G.ho
    exact ⟨by rw [show (runAt p o c g code xss xss.length).1.length = xss.length from hI.len]; omega, fun r hr => by rw [hI.row r hr]; omega⟩
  · exact ⟨by simp, fun r hr => by cases hr⟩
end
/-- The law. -/
theorem P_lawRun {p i o c g : Int} {code : List (Int × Int × Int × Int × Int)} {xss : List (List Int)} (h1 : code.length ≤ 9223372036854775807) (h2 : xss.length ≤ 9223372036854775807) (h3 : RowsB 9223372036854775807 xss) : L_laws_FnExactRunProgram p i o c g code xss = some true := by
  unfold L_laws_FnExactRunProgram
  rw [P_szProgram i o c g code (by omega) h1, Option.bind_some]
  by_cases e0 : (1048576 : Int) < ((code.length : Nat) : Int)
  · rw [show szV 1048576 code.length = -1 from if_pos e0]; rfl
  rw [show szV 1048576 code.length = 1048576 - ((code.length : Nat) : Int) from if_neg e0, dec_f (by omega), cond_false, P_szIntSS xss (by omega) h2 h3, Option.bind_some]
  by_cases e1 : szW (1048576 - ((code.length : Nat) : Int)) xss < 0
  · rw [dec_t e1]; rfl
  obtain ⟨t1, hb, t2⟩ := szW_bd (by omega) e1
  rw [dec_f e1, cond_false]
  have h1 : code.length ≤ 1073741824 := by omega
  have hn : xss.length ≤ 1048576 := by omega
  have hs := P_specRun (p := p) (i := i) (o := o) (c := c) (g := g) h1 hn hb
  have hi := P_implRun (p := p) (i := i) (o := o) (c := c) (g := g) h1 hn hb
  have hv := runV_bd (p := p) (i := i) (o := o) (c := c) (g := g) (code := code) (xss := xss)
  generalize runV p i o c g code xss = v at hs hi hv
  obtain ⟨vo, va⟩ := v
  obtain ⟨v1, v2⟩ := hv
  dsimp only at v1 v2
  obtain ⟨b1, u1, c1, d1, m1, x1, k1⟩ := P_markProgram i o c g code (v := 1) (by omega) h1
  obtain ⟨b2, u2, c2, d2, m2, x2, k2⟩ := P_markIntSS xss (v := u1) (by omega) hn hb
  obtain ⟨b3, u3, c3, d3, m3, x3, k3⟩ := P_markIntSS va (v := 1) (by omega) v1 v2
  simp only [P_toProgram i o c g code h1, P_toIntSS xss hn hb, hs, hi, Option.bind_some, P_eqIntSS va v1 v2, P_eqIntSS xss hn hb, P_eqProgram i o c g code h1, m1, m2, m3, k3, og_true x1, og_true x2, og_true x3, bne_self_eq_false, Bool.not_true, cond_false,
    dec_f (show ¬ u2 < 0 by omega), dec_f (show ¬ u3 < 0 by omega)]
end Go.Proofs.YtomijolkdmaimaaDoor
