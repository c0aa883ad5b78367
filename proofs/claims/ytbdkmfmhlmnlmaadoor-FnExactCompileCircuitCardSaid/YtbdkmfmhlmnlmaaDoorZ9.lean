/- Lemmas on the program and on partial functions that stand in place of its code (part 9); no condition beyond those that each one states. -/
import Derived.Test.YtbdkmfmhlmnlmaaDoorZ8
import Derived.Deep.RegionHeld3
namespace Go.Proofs.YtbdkmfmhlmnlmaaDoor
section
variable {p i : Int} {gs : List Gt} {outs : List Int}
theorem gateB_kind {n : Int} {e : Gt} (h : gateB p n i e = true) : 1 <= e.1 ∧ e.1 <= 5 := by
 simp only [gateB, Bool.and_eq_true] at h
 obtain ⟨_, _, h⟩ := h
 by_cases h1 : e.1 = 1
 ·omega
 rw [if_neg h1] at h
 by_cases h2 : e.1 = 2
 ·omega
 rw [if_neg h2] at h
 by_cases h3 : e.1 = 3 ∨ e.1 = 5
 ·omega
 rw [if_neg h3] at h
 by_cases h4 : e.1 = 4
 ·omega
 rw [if_neg h4] at h
 cases h
structure GoodC (p i : Int) (gs : List Gt) (outs : List Int) : Prop where
 fp : isF p = true
 hp : 2 <= p ∧ p <= 97
 hi : 0 <= i ∧ i <= 8
 hn : 1 <= gs.length ∧ gs.length <= 40
 ho : outs.length <= 8
 io : ∀ x ∈ outs, 0 <= x ∧ x < gs.length
 ga : gs.all (gateB p gs.length i) = true
 al : allT (ordR gs).2 = true
theorem circB_iff : circB p i gs outs = true ↔ GoodC p i gs outs := by
 simp only [circB, Bool.and_eq_true, decide_eq_true_eq, inR_true]
 constructor
 ·rintro ⟨h1, h2, h3, h4, h5, h6, h7⟩
  refine ⟨h1, isF_bd h1, h2, by omega, h4, fun x hx => ?_, h6, h7⟩
  have := inR_true.1 (List.all_eq_true.1 h5 x hx)
  omega
 ·rintro ⟨h1, _, h2, h3, h4, h5, h6, h7⟩
  refine ⟨h1, h2, by omega, h4, List.all_eq_true.2 fun x hx => inR_true.2 ?_, h6, h7⟩
  have := h5 x hx
  omega
end
def gtD (l : List Int) (x : Int) : Int := l.getD x.toNat 0
theorem getI_gtD {l : List Int} {x : Int} (h : 0 <= x ∧ x < l.length) : getI l x = some (gtD l x) := by
 have hx : x.toNat < l.length := by omega
 rw [getI_nat h.1, gtD, List.getD_eq_getElem?_getD, List.getElem?_eq_getElem hx]; rfl
section
variable {p i : Int} {gs : List Gt} {outs : List Int}
theorem gateB_input {n : Int} {e : Gt} (h : gateB p n i e = true) (h1 : e.1 = 1) : 0 <= e.2.2.2 ∧ e.2.2.2 < i := by
 simp only [gateB, Bool.and_eq_true] at h
 obtain ⟨_, _, h⟩ := h
 rw [if_pos h1, Bool.and_eq_true, inR_true] at h
 omega
def gtG (gs : List Gt) (x : Int) : Gt := gs.getD x.toNat (0, 0, 0, 0)
theorem getI_gtG {x : Int} (h : 0 <= x ∧ x < gs.length) : getI gs x = some (gtG gs x) := by
 have hx : x.toNat < gs.length := by omega
 rw [getI_nat h.1, gtG, List.getD_eq_getElem?_getD, List.getElem?_eq_getElem hx]; rfl
theorem gtG_mem {x : Int} (h : 0 <= x ∧ x < gs.length) : gtG gs x ∈ gs := by
 have hx : x.toNat < gs.length := by omega
 rw [gtG, List.getD_eq_getElem?_getD, List.getElem?_eq_getElem hx]
 exact List.getElem_mem hx
theorem gateB_ops {n : Int} {e : Gt} (h : gateB p n i e = true) : (∀ x ∈ opG e, 0 <= x ∧ x < n) ∧ (e.1 ≠ 3 -> e.2.2.1 = 0) ∧ (e.1 = 4 -> 0 <= e.2.2.2 ∧ e.2.2.2 < p) := by
 simp only [gateB, Bool.and_eq_true, List.all_eq_true, inR_true, Bool.or_eq_true, beq_iff_eq] at h
 obtain ⟨h1, h2, h3⟩ := h
 refine ⟨fun x hx => by have := h1 x hx; omega, fun h => by omega, fun h4 => ?_⟩
 rw [if_neg (by omega), if_neg (by omega), if_neg (by omega), if_pos h4, inR_true] at h3
 omega
end
end Go.Proofs.YtbdkmfmhlmnlmaaDoor
namespace Go.Proofs.YtbdkmfmhlmnlmaaDoor
section
variable {p i : Int} {gs : List Gt} {outs : List Int}
theorem gtG_nat {k : Nat} {e : Gt} (h : gs[k]? = some e) : gtG gs (k : Int) = e := by
 rw [gtG, Int.toNat_natCast, List.getD_eq_getElem?_getD, h]; rfl
def dlL (gs : List Gt) (k : Nat) : List Int := ((List.range k).map fun t : Nat => (t : Int)).filter fun x => (gtG gs x).1 == 5
def dl (gs : List Gt) : List Int := dlL gs gs.length
theorem dlL_succ (k : Nat) : dlL gs (k + 1) = dlL gs k ++ (if (gtG gs (k : Int)).1 == 5 then [(k : Int)] else []) := by
 unfold dlL
 rw [List.range_succ, List.map_append, List.filter_append]
 congr 1
 simp only [List.map_cons, List.map_nil, List.filter_cons, List.filter_nil]
theorem dlL_len (k : Nat) : (dlL gs k).length <= k := by
 refine Nat.le_trans (List.length_filter_le _ _) ?_
 simp
theorem dl_mem {x : Int} (h : x ∈ dl gs) : (0 <= x ∧ x < gs.length) ∧ (gtG gs x).1 = 5 := by
 unfold dl dlL at h
 obtain ⟨h1, h2⟩ := List.mem_filter.1 h
 obtain ⟨t, ht, rfl⟩ := List.mem_map.1 h1
 have := List.mem_range.1 ht
 exact ⟨by omega, by simpa using h2⟩
theorem P_crDelays (hn : gs.length <= 40) : L_spec_crDelays i gs outs = some (dl gs) := by
 unfold L_spec_crDelays
 rw [loopM_det (s0 := (0, [])) gs.length (fun k => (k, dlL gs k)) (by omega) (dl gs) rfl (fun k hk => ?_) ?_]
 ·rfl
 ·try dsimp only
  unfold L_spec_crDelays_l1
  rw [dec_f (by omega), cond_false]; rfl
 ·have hx := List.getElem?_eq_getElem hk
  have hg := gtG_nat hx
  have hl := dlL_len (gs := gs) k
  have ho : (dlL gs k).length + 1 <= 1073741824 ∧ ((dlL gs k).length + 1) * 8 <= 140737488355328 := by omega
  try dsimp only
  unfold L_spec_crDelays_l1
  rw [dec_t (by omega), cond_true, hx, Option.bind_some, dlL_succ, hg]
  cases hb : gs[k].1 == 5
  ·simp [og_true (show k + 1 < 4611686018427387904 by omega)]
  ·simp only [cond_true, if_true]
   rw [og_true ho, Option.bind_some, og_true (by omega)]
theorem P_delays (hn : gs.length <= 40) : L_impl_Circuit_delays i gs outs = some (dl gs) := P_crDelays (i := i) (outs := outs) hn
def okO (gs : List Gt) (os : List Int) : Prop := ∀ x ∈ os, (0 <= x ∧ x < gs.length) ∧ cmG (gtG gs x) = true
theorem run_ok : ∀ (m : Nat) (dn : List Bool), dn.length = gs.length -> (∀ (k : Nat) (e : Gt), gs[k]? = some e -> dn.getD k true = false -> cmG e = true) -> okO gs (run gs m dn).1
 | 0, _, _, _ => fun x hx => by cases hx
 | m + 1, dn, hl, hc => by
  unfold run
  cases hx : nxt gs dn with
  | none => exact fun x hx => by cases hx
  | some j =>
   obtain ⟨h1, h2⟩ := nxt_some hx
   have hd := rdy_dn h2 hl
   intro x hx
   rcases List.mem_cons.1 hx with rfl | hx
   ·have he := List.getElem?_eq_getElem h1
    refine ⟨by omega, ?_⟩
    rw [gtG_nat he]
    exact hc j _ he (by rw [List.getD_eq_getElem?_getD, hd]; rfl)
   ·refine run_ok m (dn.set j true) (by simp [hl]) (fun k e hk hdk => ?_) x hx
    rw [getD_set (by omega)] at hdk
    by_cases e' : k = j
    ·rw [if_pos e'] at hdk; cases hdk
    ·rw [if_neg e'] at hdk; exact hc k e hk hdk
theorem ord_ok : okO gs (ordR gs).1 := run_ok gs.length (dn0 gs) (by simp [dn0]) fun k e hk hd => by
 have : (dn0 gs).getD k true = !cmG e := by simp [dn0, List.getD_eq_getElem?_getD, hk]
 rw [this] at hd
 simpa using hd
theorem ord_len (hn : gs.length <= 40) : (ordR gs).1.length <= 40 := by
 have := run_len (gs := gs) (m := gs.length) (dn := dn0 gs) (by simp [dn0]) (Nat.le_trans List.count_le_length (by simp [dn0]))
 unfold ordR; omega
end
end Go.Proofs.YtbdkmfmhlmnlmaaDoor
namespace Go.Proofs.YtbdkmfmhlmnlmaaDoor
def insB (p i o c g : Int) (e : Int × Int × Int × Int × Int) : Bool :=
 inR e.2.1 0 (g - 1) &&
 (if e.1 = 1 then inR e.2.2.1 0 (i - 1) && (e.2.2.2.1 == 0 && e.2.2.2.2 == 0) else
  if e.1 = 2 then e.2.2.1 == 0 && (e.2.2.2.1 == 0 && e.2.2.2.2 == 0) else
  if e.1 = 3 then inR e.2.2.1 0 (g - 1) && (inR e.2.2.2.1 0 (g - 1) && e.2.2.2.2 == 0) else
  if e.1 = 4 then inR e.2.2.1 0 (g - 1) && (e.2.2.2.1 == 0 && inR e.2.2.2.2 0 (p - 1)) else
  if e.1 = 5 ∨ e.1 = 6 then inR e.2.2.1 0 (c - 1) && (e.2.2.2.1 == 0 && e.2.2.2.2 == 0) else
  if e.1 = 7 then inR e.2.2.1 0 (o - 1) && (e.2.2.2.1 == 0 && e.2.2.2.2 == 0) else false)
section
variable {p i o c g : Int} {code : List (Int × Int × Int × Int × Int)}
theorem P_cmInstr (hp : 2 <= p ∧ p <= 97) (hi : 0 <= i ∧ i <= 8) (ho : 0 <= o ∧ o <= 8) (hc : 0 <= c ∧ c <= 40) (hg : 0 <= g ∧ g <= 16) (e1 e2 e3 e4 e5 : Int) : L_spec_cmInstr p i o c g code e1 e2 e3 e4 e5 = some (insB p i o c g (e1, e2, e3, e4, e5)) := by
 unfold L_spec_cmInstr insB
 rw [i64_lt (n := g - 1) (by omega) (by omega), i64_lt (n := i - 1) (by omega) (by omega), i64_lt (n := o - 1) (by omega) (by omega), i64_lt (n := c - 1) (by omega) (by omega), i64_lt (n := p - 1) (by omega) (by omega)]
 simp only [P_l1In, Option.bind_some]
 by_cases h1 : e1 = 1
 ·subst h1; cases inR e2 0 (g - 1) <;> cases inR e3 0 (i - 1) <;> cases e4 == 0 <;> rfl
 by_cases h2 : e1 = 2
 ·subst h2; cases inR e2 0 (g - 1) <;> cases e3 == 0 <;> cases e4 == 0 <;> rfl
 by_cases h3 : e1 = 3
 ·subst h3; cases inR e2 0 (g - 1) <;> cases inR e3 0 (g - 1) <;> cases inR e4 0 (g - 1) <;> rfl
 by_cases h4 : e1 = 4
 ·subst h4; cases inR e2 0 (g - 1) <;> cases inR e3 0 (g - 1) <;> cases e4 == 0 <;> rfl
 by_cases h5 : e1 = 5
 ·subst h5; cases inR e2 0 (g - 1) <;> cases inR e3 0 (c - 1) <;> cases e4 == 0 <;> rfl
 by_cases h6 : e1 = 6
 ·subst h6; cases inR e2 0 (g - 1) <;> cases inR e3 0 (c - 1) <;> cases e4 == 0 <;> rfl
 by_cases h7 : e1 = 7
 ·subst h7; cases inR e2 0 (g - 1) <;> cases inR e3 0 (o - 1) <;> cases e4 == 0 <;> rfl
 have b1 := beq_eq_false_iff_ne.2 h1
 have b2 := beq_eq_false_iff_ne.2 h2
 have b3 := beq_eq_false_iff_ne.2 h3
 have b4 := beq_eq_false_iff_ne.2 h4
 have b5 := beq_eq_false_iff_ne.2 h5
 have b6 := beq_eq_false_iff_ne.2 h6
 have b7 := beq_eq_false_iff_ne.2 h7
 simp [h1, h2, h3, h4, h5, h6, h7, b1, b2, b3, b4, b5, b6, b7]
def prgP (p i o c g : Int) (code : List (Int × Int × Int × Int × Int)) : Bool :=
 isF p && (inR i 0 8 && (inR o 0 8 && (inR c 0 40 && (inR g 0 16 && (decide (code.length <= 120) && code.all (insB p i o c g))))))
structure GoodPrg (p i o c g : Int) (code : List (Int × Int × Int × Int × Int)) : Prop where
 fp : isF p = true
 hp : 2 <= p ∧ p <= 97
 hi : 0 <= i ∧ i <= 8
 ho : 0 <= o ∧ o <= 8
 hc : 0 <= c ∧ c <= 40
 hg : 0 <= g ∧ g <= 16
 hl : code.length <= 120
 all : ∀ e ∈ code, insB p i o c g e = true
theorem prgP_iff : prgP p i o c g code = true ↔ GoodPrg p i o c g code := by
 simp only [prgP, Bool.and_eq_true, decide_eq_true_eq, List.all_eq_true, inR_true]
 constructor
 ·rintro ⟨h1, h2, h3, h4, h5, h6, h7⟩
  exact ⟨h1, isF_bd h1, h2, h3, h4, h5, h6, h7⟩
 ·rintro ⟨h1, _, h2, h3, h4, h5, h6, h7⟩
  exact ⟨h1, h2, h3, h4, h5, h6, h7⟩
theorem P_cmGood (hl : code.length <= 1099511627776) : L_spec_cmGood p i o c g code = some (prgP p i o c g code) := by
 unfold L_spec_cmGood prgP
 simp only [P_fdGood, P_l1In, Option.bind_some]
 cases hp : isF p
 ·rfl
 cases hi : inR i 0 8
 ·rfl
 cases ho : inR o 0 8
 ·rfl
 cases hc : inR c 0 40
 ·rfl
 cases hg : inR g 0 16
 ·rfl
 by_cases hn : 120 < code.length
 ·simp only [Bool.not_true, cond_false, Option.bind_some, dec_t (show (120 : Int) < ((code.length : Nat) : Int) by omega), cond_true, dec_f (show ¬ code.length <= 120 by omega), Bool.and_false, Bool.false_and]
 simp only [Bool.not_true, cond_false, Option.bind_some, dec_f (show ¬ (120 : Int) < ((code.length : Nat) : Int) by omega), dec_t (show code.length <= 120 by omega), Bool.true_and]
 rw [loopM_all code (insB p i o c g) (.next ()) (.out false) (by omega) (fun i x h => ?_) ?_, seq_all]
 ·unfold L_spec_cmGood_l1
  rw [dec_f (by omega), cond_false]
 ·have := getN_lt h
  unfold L_spec_cmGood_l1
  rw [dec_t (by omega), cond_true, h, Option.bind_some, P_cmInstr (isF_bd hp) (inR_true.1 hi) (inR_true.1 ho) (inR_true.1 hc) (inR_true.1 hg), Option.bind_some, og_true (by omega)]
  cases insB p _ o c g x <;> rfl
end
end Go.Proofs.YtbdkmfmhlmnlmaaDoor
namespace Go.Proofs.YtbdkmfmhlmnlmaaDoor
abbrev Ins := Int × Int × Int × Int × Int
theorem nodup_len : ∀ (n : Nat) (l : List Int), l.Nodup -> (∀ x ∈ l, 0 <= x ∧ x < n) -> l.length <= n
 | 0, [], _, _ => Nat.le_refl _
 | 0, x :: l, _, h => by have := h x (by simp); omega
 | n + 1, l, hd, h => by
  have h1 := nodup_len n (l.erase (n : Int)) (hd.erase _) fun x hx => by
   have := (hd.mem_erase_iff).1 hx
   have := h x this.2; omega
  have := List.length_erase (a := (n : Int)) (l := l)
  split at this <;> omega
section
variable {p i : Int} {gs : List Gt} {outs : List Int}
def addU (out : List Int) (k : Int) : List Int := if k ∈ out then out else out ++ [k]
def addP (gs : List Gt) (out : List Int) (a : Int) : List Int := if cmG (gtG gs a) then out else addU out a
def addO (gs : List Gt) (out : List Int) (g : Int) : List Int := addU ((opG (gtG gs g)).foldl (addP gs) out) g
def lstO (gs : List Gt) : List Int := (ordR gs).1.foldl (addO gs) []
def lstD (gs : List Gt) : List Int := (dl gs).foldl (fun o d => addU o (gtG gs d).2.1) (lstO gs)
def lst (gs : List Gt) (outs : List Int) : List Int := outs.foldl addU (lstD gs)
theorem addU_mem {out : List Int} {k x : Int} : x ∈ addU out k ↔ x ∈ out ∨ x = k := by
 unfold addU
 split
 ·rename_i h
  exact ⟨fun a => .inl a, fun a => a.elim id fun e => e ▸ h⟩
 ·simp
theorem addU_nd {out : List Int} {k : Int} (h : out.Nodup) : (addU out k).Nodup := by
 unfold addU
 split
 ·exact h
 ·rename_i hk
  rw [List.nodup_append]
  refine ⟨h, by simp, fun a ha b hb e => ?_⟩
  obtain rfl := List.mem_singleton.1 hb
  exact hk (e ▸ ha)
def Cl (gs : List Gt) (l : List Int) : Prop := l.Nodup ∧ (∀ x ∈ l, 0 <= x ∧ x < gs.length) ∧ ∀ (t : Nat) (x : Int), l[t]? = some x -> cmG (gtG gs x) = true -> ∀ y ∈ opG (gtG gs x), y ∈ l.take t
theorem Cl.add {l : List Int} {k : Int} (h : Cl gs l) (hk : 0 <= k ∧ k < gs.length) (ho : cmG (gtG gs k) = true -> ∀ y ∈ opG (gtG gs k), y ∈ l) : Cl gs (addU l k) := by
 refine ⟨addU_nd h.1, fun x hx => (addU_mem.1 hx).elim (h.2.1 x) fun e => e ▸ hk, ?_⟩
 unfold addU
 split
 ·exact h.2.2
 ·intro t x hx hc y hy
  rcases Nat.lt_or_ge t l.length with ht | ht
  ·rw [List.getElem?_append_left ht] at hx
   rw [List.take_append_of_le_length (by omega)]
   exact h.2.2 t x hx hc y hy
  ·rw [List.getElem?_append_right ht] at hx
   have e0 : t - l.length = 0 := by
    rcases Nat.eq_zero_or_pos (t - l.length) with e | e
    ·exact e
    ·rw [List.getElem?_eq_none (by simp; omega)] at hx; cases hx
   rw [e0] at hx
   obtain rfl : k = x := by simpa using hx
   rw [List.take_append]
   exact List.mem_append_left _ (by rw [List.take_of_length_le ht]; exact ho hc y hy)
theorem addP_sub {l : List Int} {a x : Int} (h : x ∈ l) : x ∈ addP gs l a := by
 unfold addP; split
 ·exact h
 ·exact addU_mem.2 (.inl h)
theorem foldP_sub : ∀ (ys : List Int) {l : List Int} {x : Int}, x ∈ l -> x ∈ ys.foldl (addP gs) l
 | [], _, _, h => h
 | _ :: ys, _, _, h => foldP_sub ys (addP_sub h)
theorem foldP_new : ∀ (ys : List Int) {l : List Int} {x : Int}, x ∈ ys.foldl (addP gs) l -> x ∈ l ∨ (x ∈ ys ∧ cmG (gtG gs x) = false)
 | [], _, _, h => .inl h
 | y :: ys, l, x, h => by
  rcases foldP_new ys h with h | ⟨h1, h2⟩
  ·unfold addP at h
   split at h
   ·exact .inl h
   ·rename_i hc
    rcases addU_mem.1 h with h | rfl
    ·exact .inl h
    ·exact .inr ⟨by simp, by simpa using hc⟩
  ·exact .inr ⟨by simp [h1], h2⟩
theorem foldP_all : ∀ (ys : List Int) {l : List Int} {x : Int}, x ∈ ys -> cmG (gtG gs x) = false -> x ∈ ys.foldl (addP gs) l
 | y :: ys, l, x, h, hc => by
  rcases List.mem_cons.1 h with rfl | h
  ·refine foldP_sub ys ?_
   unfold addP
   rw [if_neg (by simp [hc])]
   exact addU_mem.2 (.inr rfl)
  ·exact foldP_all ys h hc
theorem foldP_cl : ∀ (ys : List Int) {l : List Int}, Cl gs l -> (∀ y ∈ ys, 0 <= y ∧ y < gs.length) -> Cl gs (ys.foldl (addP gs) l)
 | [], _, h, _ => h
 | y :: ys, l, h, hy => by
  refine foldP_cl ys ?_ fun z hz => hy z (by simp [hz])
  unfold addP
  split
  ·exact h
  ·rename_i hc
   exact h.add (hy y (by simp)) fun hc' => absurd hc' hc
theorem op_nn (hg : okG gs) {x y : Int} (h : y ∈ opG (gtG gs x)) : 0 <= y := by
 unfold gtG at h
 rw [List.getD_eq_getElem?_getD] at h
 cases he : gs[x.toNat]? with
 | none => rw [he] at h; simp [opG] at h
 | some e => rw [he] at h; exact (hg e (List.mem_of_getElem? he) y h).1
def Ord (gs : List Gt) (os : List Int) : Prop := os.Nodup ∧ ∀ (t : Nat) (x : Int), os[t]? = some x -> ∀ y ∈ opG (gtG gs x), cmG (gtG gs y) = true -> y ∈ os.take t
theorem run_ord (hg : okG gs) : ∀ (m : Nat) (dn : List Bool), dn.length = gs.length -> (run gs m dn).1.Nodup ∧ (∀ x ∈ (run gs m dn).1, dn.getD x.toNat true = false) ∧ ∀ (t : Nat) (x : Int), (run gs m dn).1[t]? = some x -> ∀ y ∈ opG (gtG gs x), dn.getD y.toNat false = true ∨ y ∈ (run gs m dn).1.take t
 | 0, dn, _ => ⟨by simp [run], by simp [run], by simp [run]⟩
 | m + 1, dn, hl => by
  unfold run
  cases hx : nxt gs dn with
  | none => exact ⟨by simp, by simp, by simp⟩
  | some j =>
   obtain ⟨h1, h2⟩ := nxt_some hx
   have hd := rdy_dn h2 hl
   obtain ⟨a, b, c⟩ := run_ord hg m (dn.set j true) (by simp [hl])
   dsimp only
   have hj : dn.getD j true = false := by rw [List.getD_eq_getElem?_getD, hd]; rfl
   have hb : ∀ x ∈ (run gs m (dn.set j true)).1, x.toNat ≠ j ∧ dn.getD x.toNat true = false := fun x hx => by
    have := b x hx
    rw [getD_set (by omega)] at this
    by_cases e : x.toNat = j
    ·rw [if_pos e] at this; cases this
    ·rw [if_neg e] at this; exact ⟨e, this⟩
   refine ⟨List.nodup_cons.2 ⟨fun hm => (hb _ hm).1 (by simp), a⟩, fun x hx => ?_, fun t x hx y hy => ?_⟩
   ·rcases List.mem_cons.1 hx with rfl | hx
    ·simpa using hj
    ·exact (hb x hx).2
   ·cases t with
    | zero =>
     obtain rfl : (j : Int) = x := by simpa using hx
     have he := List.getElem?_eq_getElem h1
     unfold rdy at h2
     rw [he] at h2
     simp only [Bool.and_eq_true, List.all_eq_true] at h2
     rw [gtG_nat he] at hy
     exact .inl (h2.2 y hy)
    | succ t =>
     rw [List.getElem?_cons_succ] at hx
     rcases c t x hx y hy with h | h
     ·rw [List.take_succ_cons]
      by_cases e : y.toNat = j
      ·have hr := op_nn hg hy
       exact .inr (List.mem_cons.2 (.inl (by omega)))
      ·refine .inl ?_
       rw [List.getD_eq_getElem?_getD, List.getElem?_set_ne (fun h => e h.symm)] at h
       rw [List.getD_eq_getElem?_getD]; exact h
     ·exact .inr (by rw [List.take_succ_cons]; exact List.mem_cons_of_mem _ h)
theorem ord_ord (hg : okG gs) : Ord gs (ordR gs).1 := by
 obtain ⟨a, b, c⟩ := run_ord hg gs.length (dn0 gs) (by simp [dn0])
 refine ⟨a, fun t x hx y hy hc => ?_⟩
 rcases c t x hx y hy with h | h
 ·exfalso
  rw [List.getD_eq_getElem?_getD, dn0, List.getElem?_map] at h
  cases he : gs[y.toNat]? with
  | none => rw [he] at h; simp at h
  | some e =>
   rw [he] at h
   have hy0 := op_nn hg hy
   rw [gtG, List.getD_eq_getElem?_getD, he] at hc
   simp only [Option.getD_some] at hc
   simp [hc] at h
 ·exact h
theorem run_all : ∀ (m : Nat) (dn : List Bool), dn.length = gs.length -> ∀ k : Nat, k < gs.length -> (run gs m dn).2.getD k false = true -> dn.getD k false = true ∨ (k : Int) ∈ (run gs m dn).1
 | 0, dn, _, k, _, h => .inl (by simpa [run] using h)
 | m + 1, dn, hl, k, hk, h => by
  unfold run at h ⊢
  cases hx : nxt gs dn with
  | none => rw [hx] at h; exact .inl h
  | some j =>
   rw [hx] at h
   dsimp only at h ⊢
   rcases run_all m (dn.set j true) (by simp [hl]) k hk h with h | h
   ·by_cases e : k = j
    ·exact .inr (by simp [e])
    ·rw [List.getD_eq_getElem?_getD, List.getElem?_set_ne (fun h => e h.symm)] at h
     exact .inl (by rw [List.getD_eq_getElem?_getD]; exact h)
   ·exact .inr (List.mem_cons_of_mem _ h)
theorem ord_all (G : GoodC p i gs outs) {x : Int} (hx : 0 <= x ∧ x < gs.length) (hc : cmG (gtG gs x) = true) : x ∈ (ordR gs).1 := by
 have hk : x.toNat < gs.length := by omega
 have hl : ∀ (m : Nat) (dn : List Bool), dn.length = gs.length -> (run gs m dn).2.length = gs.length := by
  intro m
  induction m with
  | zero => intro dn h; simpa [run] using h
  | succ m ih =>
   intro dn h
   unfold run
   cases nxt gs dn with
   | none => exact h
   | some j => exact ih _ (by simp [h])
 have ha : (ordR gs).2.getD x.toNat false = true := by
  have h1 := hl gs.length (dn0 gs) (by simp [dn0])
  have h2 : x.toNat < (ordR gs).2.length := by unfold ordR; omega
  rw [List.getD_eq_getElem?_getD, List.getElem?_eq_getElem h2]
  exact List.all_eq_true.1 G.al _ (List.getElem_mem h2)
 rcases run_all gs.length (dn0 gs) (by simp [dn0]) x.toNat hk ha with h | h
 ·exfalso
  rw [List.getD_eq_getElem?_getD, dn0, List.getElem?_map, List.getElem?_eq_getElem hk] at h
  rw [gtG, List.getD_eq_getElem?_getD, List.getElem?_eq_getElem hk] at hc
  simp only [Option.getD_some] at hc
  simp [hc] at h
 ·rw [show ((x.toNat : Nat) : Int) = x by omega] at h; exact h
theorem ok_of (G : GoodC p i gs outs) : okG gs := okG_of G.ga
theorem op_in (G : GoodC p i gs outs) {x y : Int} (hx : 0 <= x ∧ x < gs.length) (h : y ∈ opG (gtG gs x)) : 0 <= y ∧ y < gs.length := ok_of G _ (gtG_mem hx) y h
theorem lstO_step (G : GoodC p i gs outs) : ∀ k, k <= (ordR gs).1.length -> Cl gs (((ordR gs).1.take k).foldl (addO gs) []) ∧ (∀ x ∈ (ordR gs).1.take k, x ∈ ((ordR gs).1.take k).foldl (addO gs) []) ∧ ∀ x ∈ ((ordR gs).1.take k).foldl (addO gs) [], cmG (gtG gs x) = true -> x ∈ (ordR gs).1.take k
 | 0, _ => ⟨⟨by simp, by simp, by simp⟩, by simp, by simp⟩
 | k + 1, hk => by
  obtain ⟨a, b, c⟩ := lstO_step G k (by omega)
  have hO := ord_ord (ok_of G)
  have hx : (ordR gs).1[k]? = some (ordR gs).1[k] := List.getElem?_eq_getElem (by omega)
  have hin := ord_ok (gs := gs) _ (List.getElem_mem (show k < (ordR gs).1.length by omega))
  rw [List.take_add_one, hx, Option.toList_some, List.foldl_append, List.foldl_cons, List.foldl_nil]
  generalize ((ordR gs).1.take k).foldl (addO gs) [] = out at a b c
  have hcl := foldP_cl (opG (gtG gs (ordR gs).1[k])) a fun y hy => op_in G hin.1 hy
  refine ⟨hcl.add hin.1 fun _ y hy => ?_, fun x h => ?_, fun x h hc => ?_⟩
  ·cases hc : cmG (gtG gs y) with
   | true => exact foldP_sub _ (b y (hO.2 k _ hx y hy hc))
   | false => exact foldP_all _ hy hc
  ·unfold addO
   rcases List.mem_append.1 h with h | h
   ·exact addU_mem.2 (.inl (foldP_sub _ (b x h)))
   ·exact addU_mem.2 (.inr (by simpa using h))
  ·unfold addO at h
   rcases addU_mem.1 h with h | rfl
   ·rcases foldP_new _ h with h | ⟨_, h⟩
    ·exact List.mem_append_left _ (c x h hc)
    ·rw [hc] at h; cases h
   ·exact List.mem_append_right _ (List.mem_singleton.2 rfl)
theorem lstO_new (G : GoodC p i gs outs) {k : Nat} (hk : k < (ordR gs).1.length) : (ordR gs).1[k] ∉ (opG (gtG gs (ordR gs).1[k])).foldl (addP gs) (((ordR gs).1.take k).foldl (addO gs) []) := by
 intro h
 obtain ⟨_, _, c⟩ := lstO_step G k (by omega)
 have hin := ord_ok (gs := gs) _ (List.getElem_mem hk)
 rcases foldP_new _ h with h | ⟨_, h⟩
 ·have h1 := c _ h hin.2
  obtain ⟨t, ht, he⟩ := List.getElem_of_mem h1
  rw [List.length_take] at ht
  rw [List.getElem_take] at he
  exact (List.pairwise_iff_getElem.1 (ord_ord (ok_of G)).1) t k (by omega) hk (by omega) he
 ·rw [hin.2] at h; cases h
theorem foldU_cl (G : GoodC p i gs outs) (f : Int -> Int) : ∀ (ys : List Int) {l : List Int}, Cl gs l -> (∀ x ∈ (ordR gs).1, x ∈ l) -> (∀ y ∈ ys, 0 <= f y ∧ f y < gs.length) -> Cl gs (ys.foldl (fun o d => addU o (f d)) l) ∧ (∀ x ∈ l, x ∈ ys.foldl (fun o d => addU o (f d)) l) ∧ ∀ y ∈ ys, f y ∈ ys.foldl (fun o d => addU o (f d)) l
 | [], l, h, _, _ => ⟨h, fun _ h => h, by simp⟩
 | y :: ys, l, h, ho, hy => by
  have hc : Cl gs (addU l (f y)) := by
   by_cases hm : f y ∈ l
   ·unfold addU; rw [if_pos hm]; exact h
   ·refine h.add (hy y (by simp)) fun hc => absurd (ho _ (ord_all G (hy y (by simp)) hc)) hm
  obtain ⟨a, b, c⟩ := foldU_cl G f ys hc (fun x hx => addU_mem.2 (.inl (ho x hx))) fun z hz => hy z (by simp [hz])
  refine ⟨a, fun x hx => b x (addU_mem.2 (.inl hx)), fun z hz => ?_⟩
  rcases List.mem_cons.1 hz with rfl | hz
  ·exact b _ (addU_mem.2 (.inr rfl))
  ·exact c z hz
theorem lstO_cl (G : GoodC p i gs outs) : Cl gs (lstO gs) ∧ ∀ x ∈ (ordR gs).1, x ∈ lstO gs := by
 have h := lstO_step G (ordR gs).1.length (Nat.le_refl _)
 rw [List.take_length] at h
 exact ⟨h.1, h.2.1⟩
theorem dlA_in (G : GoodC p i gs outs) {d : Int} (h : d ∈ dl gs) : 0 <= (gtG gs d).2.1 ∧ (gtG gs d).2.1 < gs.length := by
 obtain ⟨h1, h2⟩ := dl_mem h
 exact op_in G h1 (by simp [opG, h2])
theorem lst_cl (G : GoodC p i gs outs) : Cl gs (lst gs outs) ∧ (∀ d ∈ dl gs, (gtG gs d).2.1 ∈ lst gs outs) ∧ ∀ k ∈ outs, k ∈ lst gs outs := by
 obtain ⟨a, b⟩ := lstO_cl G
 obtain ⟨c, d, e⟩ := foldU_cl G (fun d => (gtG gs d).2.1) (dl gs) a b fun y hy => dlA_in G hy
 obtain ⟨q, r, s⟩ := foldU_cl G (fun k => k) outs c (fun x hx => d x (b x hx)) fun y hy => G.io y hy
 exact ⟨q, fun x hx => r _ (e x hx), s⟩
theorem cl_len (G : GoodC p i gs outs) {l : List Int} (h : Cl gs l) : l.length <= 40 := Nat.le_trans (nodup_len gs.length l h.1 h.2.1) G.hn.2
end
end Go.Proofs.YtbdkmfmhlmnlmaaDoor
namespace Go.Proofs.YtbdkmfmhlmnlmaaDoor
theorem loopM_idx {ρ : Type} {body : Nat -> Option (Ctl Nat ρ)} (xs : List Int) (q : Int -> Bool) (nn : ρ) (g : Nat -> ρ) (hn : xs.length < 4611686018427387904) (hs : ∀ i x, xs[i]? = some x -> body i = some (if q x then .out (g i) else .next (i + 1))) (he : body xs.length = some (.out nn)) :
  loopM body 4611686018427387904 0 = some (if xs.findIdx q < xs.length then g (xs.findIdx q) else nn) := by
 refine loopM_eq xs.length (fun i s => s = i ∧ i <= xs.findIdx q) hn _ ⟨rfl, Nat.zero_le _⟩ ?_ ?_
 ·rintro i s hi ⟨rfl, hq⟩
  have hx := List.getElem?_eq_getElem hi
  rw [hs _ _ hx]
  by_cases hlt : s < xs.findIdx q
  ·have := List.not_of_lt_findIdx hlt
   exact .inl ⟨_, by rw [this]; rfl, rfl, hlt⟩
  ·have e : s = xs.findIdx q := by omega
   have hw : xs.findIdx q < xs.length := by omega
   have := List.findIdx_getElem (w := hw)
   refine .inr ?_
   subst e
   rw [this, if_pos rfl, if_pos hw]
 ·rintro s ⟨rfl, hq⟩
  rw [he, if_neg (by omega)]
theorem P_Index (xs : List Int) (k : Int) (hl : xs.length <= 1099511627776) : L_slices_Index_int_int xs k = some (if xs.findIdx (fun x => k == x) < xs.length then ((xs.findIdx (fun x => k == x) : Nat) : Int) else -1) := by
 unfold L_slices_Index_int_int
 rw [loopM_idx xs (fun x => k == x) (.next ()) (fun i => .out (i : Int)) (by omega) (fun i x h => ?_) ?_]
 ·split <;> rfl
 ·unfold L_slices_Index_int_int_l1
  rw [dec_f (by omega), cond_false]
 ·have := getN_lt h
  unfold L_slices_Index_int_int_l1
  rw [dec_t (by omega), cond_true, h, Option.bind_some, og_true (by omega)]
  cases k == x <;> rfl
theorem idx_mem {xs : List Int} {k : Int} : xs.findIdx (fun x => k == x) < xs.length ↔ k ∈ xs := by
 rw [List.findIdx_lt_length]
 constructor
 ·rintro ⟨x, hx, e⟩
  rw [eq_of_beq e]; exact hx
 ·exact fun h => ⟨k, h, beq_self_eq_true k⟩
theorem P_Contains (xs : List Int) (k : Int) (hl : xs.length <= 1099511627776) : L_slices_Contains_int_int xs k = some (decide (k ∈ xs)) := by
 unfold L_slices_Contains_int_int
 rw [P_Index xs k hl, Option.bind_some]
 by_cases h : k ∈ xs
 ·rw [if_pos (idx_mem.2 h), dec_t (by omega), dec_t h]
 ·rw [if_neg (fun e => h (idx_mem.1 e)), dec_f (by omega), dec_f h]
theorem any_mem {xs : List Int} {k : Int} : (xs.any fun x => x == k) = decide (k ∈ xs) := by
 rw [Bool.eq_iff_iff, List.any_eq_true, decide_eq_true_iff]
 constructor
 ·rintro ⟨x, hx, e⟩
  rw [← eq_of_beq e]; exact hx
 ·exact fun h => ⟨k, h, beq_self_eq_true k⟩
section
variable {p i : Int} {gs : List Gt} {outs : List Int}
theorem addS {out : List Int} {k : Int} (hl : out.length <= 1000) : cond (!decide (k ∈ out)) (og (out.length + 1 <= 1073741824 ∧ (out.length + 1) * 8 <= 140737488355328) (some (out ++ [k]))) (some out) = some (addU out k) := by
 unfold addU
 by_cases h : k ∈ out
 ·rw [dec_t h, if_pos h]; rfl
 ·rw [dec_f h, if_neg h, Bool.not_false, cond_true, og_true (by omega)]
theorem P_add (out : List Int) (k : Int) (hl : out.length <= 1000) : L_impl_Circuit_listed_1 k out = some (addU out k) := by
 unfold L_impl_Circuit_listed_1
 rw [P_Contains out k (by omega), Option.bind_some, addS hl]
theorem addU_len {out : List Int} {k : Int} : (addU out k).length <= out.length + 1 := by
 unfold addU; split <;> simp
theorem foldP_len : ∀ (ys : List Int) {l : List Int}, (ys.foldl (addP gs) l).length <= l.length + ys.length
 | [], l => by simp
 | y :: ys, l => by
  have h1 := foldP_len ys (l := addP gs l y)
  have h2 : (addP gs l y).length <= l.length + 1 := by
   unfold addP; split
   ·omega
   ·exact addU_len
  simp only [List.foldl_cons, List.length_cons]; omega
theorem foldU_len (f : Int -> Int) : ∀ (ys : List Int) {l : List Int}, (ys.foldl (fun o d => addU o (f d)) l).length <= l.length + ys.length
 | [], l => by simp
 | y :: ys, l => by
  have h1 := foldU_len f ys (l := addU l (f y))
  have h2 : (addU l (f y)).length <= l.length + 1 := addU_len
  simp only [List.foldl_cons, List.length_cons]; omega
theorem P_sl2 {ys out : List Int} (hy : ∀ y ∈ ys, 0 <= y ∧ y < gs.length) (h2 : ys.length <= 2) (ho : out.length <= 500) : loopM (fun s_ : Nat × List Int => L_spec_cmListed_l2 ys gs s_.1 s_.2) 4611686018427387904 (0, out) = some (ys.foldl (addP gs) out) := by
 refine loopM_det ys.length (fun t => (t, (ys.take t).foldl (addP gs) out)) (by omega) _ rfl (fun t ht => ?_) ?_
 ·have hx := List.getElem?_eq_getElem ht
  have hl := foldP_len (gs := gs) (ys.take t) (l := out)
  rw [List.length_take] at hl
  try dsimp only
  unfold L_spec_cmListed_l2
  rw [dec_t (by omega), cond_true, hx, Option.bind_some, getI_gtG (hy _ (List.getElem_mem ht)), Option.bind_some, P_crCombines, Option.bind_some, List.take_add_one, hx, Option.toList_some, List.foldl_append, List.foldl_cons, List.foldl_nil]
  generalize (ys.take t).foldl (addP gs) out = o at hl
  unfold addP
  cases cmG (gtG gs ys[t])
  ·rw [Bool.not_false, cond_true, P_l1Has o _ (by omega), Option.bind_some, Option.bind_some, any_mem, addS (by omega), Option.bind_some, og_true (by omega)]; rfl
  ·rw [Bool.not_true, cond_false, Option.bind_some, cond_false, Option.bind_some, og_true (by omega)]; rfl
 ·try dsimp only
  unfold L_spec_cmListed_l2
  rw [dec_f (by omega), cond_false, List.take_length]
theorem P_il2 {ys out : List Int} (hy : ∀ y ∈ ys, 0 <= y ∧ y < gs.length) (h2 : ys.length <= 2) (ho : out.length <= 500) : loopM (fun s_ : Nat × List Int => L_impl_Circuit_listed_l2 ys gs s_.1 s_.2) 4611686018427387904 (0, out) = some (ys.foldl (addP gs) out) := by
 refine loopM_det ys.length (fun t => (t, (ys.take t).foldl (addP gs) out)) (by omega) _ rfl (fun t ht => ?_) ?_
 ·have hx := List.getElem?_eq_getElem ht
  have hl := foldP_len (gs := gs) (ys.take t) (l := out)
  rw [List.length_take] at hl
  try dsimp only
  unfold L_impl_Circuit_listed_l2
  rw [dec_t (by omega), cond_true, hx, Option.bind_some, getI_gtG (hy _ (List.getElem_mem ht)), Option.bind_some, List.take_add_one, hx, Option.toList_some, List.foldl_append, List.foldl_cons, List.foldl_nil]
  generalize (ys.take t).foldl (addP gs) out = o at hl
  have hc : cond ((gtG gs ys[t]).1 != 3) (some ((gtG gs ys[t]).1 != 4)) (some false) = some (!cmG (gtG gs ys[t])) := by
   unfold cmG bne
   cases (gtG gs ys[t]).1 == 3 <;> rfl
  rw [hc, Option.bind_some]
  unfold addP
  cases cmG (gtG gs ys[t])
  ·rw [Bool.not_false, cond_true, P_add o _ (by omega), Option.bind_some, Option.bind_some, og_true (by omega)]; rfl
  ·rw [Bool.not_true, cond_false, Option.bind_some, og_true (by omega)]; rfl
 ·try dsimp only
  unfold L_impl_Circuit_listed_l2
  rw [dec_f (by omega), cond_false, List.take_length]
theorem ord_at (G : GoodC p i gs outs) {k : Nat} (hk : k < (ordR gs).1.length) : (0 <= (ordR gs).1[k] ∧ (ordR gs).1[k] < gs.length) ∧ (opG (gtG gs (ordR gs).1[k])).length <= 2 ∧ (∀ y ∈ opG (gtG gs (ordR gs).1[k]), 0 <= y ∧ y < gs.length) ∧ (((ordR gs).1.take k).foldl (addO gs) []).length <= 40 := by
 have h := (ord_ok (gs := gs) _ (List.getElem_mem hk)).1
 exact ⟨h, opG_len _, fun y hy => op_in G h hy, cl_len G (lstO_step G k (by omega)).1⟩
theorem P_sl1 (G : GoodC p i gs outs) : loopM (fun s_ : Nat × List Int => L_spec_cmListed_l1 (ordR gs).1 gs s_.1 s_.2) 4611686018427387904 (0, []) = some (lstO gs) := by
 have hO := ord_len (gs := gs) G.hn.2
 refine loopM_det (ordR gs).1.length (fun k => (k, ((ordR gs).1.take k).foldl (addO gs) [])) (by omega) _ rfl (fun k hk => ?_) ?_
 ·have hx := List.getElem?_eq_getElem hk
  obtain ⟨a, b, c, d⟩ := ord_at G hk
  have hnew := lstO_new G hk
  try dsimp only
  unfold L_spec_cmListed_l1
  rw [dec_t (by omega), cond_true, hx, Option.bind_some, getI_gtG a, Option.bind_some, P_crOperands, Option.bind_some, P_sl2 c b (by omega), Option.bind_some, List.take_add_one, hx, Option.toList_some, List.foldl_append, List.foldl_cons, List.foldl_nil]
  generalize ((ordR gs).1.take k).foldl (addO gs) [] = o at d hnew
  have hl := foldP_len (gs := gs) (opG (gtG gs (ordR gs).1[k])) (l := o)
  rw [og_true (by omega), Option.bind_some, og_true (by omega)]
  unfold addO addU
  rw [if_neg hnew]
 ·try dsimp only
  unfold L_spec_cmListed_l1
  rw [dec_f (by omega), cond_false, List.take_length]; rfl
theorem P_il1 (G : GoodC p i gs outs) {b : Bool} : loopM (fun s_ : Nat × List Int => L_impl_Circuit_listed_l1 ((ordR gs).1, b) gs s_.1 s_.2) 4611686018427387904 (0, []) = some (lstO gs) := by
 have hO := ord_len (gs := gs) G.hn.2
 refine loopM_det (ordR gs).1.length (fun k => (k, ((ordR gs).1.take k).foldl (addO gs) [])) (by omega) _ rfl (fun k hk => ?_) ?_
 ·have hx := List.getElem?_eq_getElem hk
  obtain ⟨a, b, c, d⟩ := ord_at G hk
  try dsimp only
  unfold L_impl_Circuit_listed_l1
  try dsimp only
  rw [dec_t (by omega), cond_true, hx, Option.bind_some, getI_gtG a, Option.bind_some, P_operands, Option.bind_some, P_il2 c b (by omega), Option.bind_some, List.take_add_one, hx, Option.toList_some, List.foldl_append, List.foldl_cons, List.foldl_nil]
  generalize ((ordR gs).1.take k).foldl (addO gs) [] = o at d
  have hl := foldP_len (gs := gs) (opG (gtG gs (ordR gs).1[k])) (l := o)
  rw [P_add _ _ (by omega), Option.bind_some, Option.bind_some, og_true (by omega)]
  rfl
 ·try dsimp only
  unfold L_impl_Circuit_listed_l1
  rw [dec_f (by try dsimp only; omega), cond_false, List.take_length]; rfl
theorem P_listD (G : GoodC p i gs outs) : loopM (fun s_ : Nat × List Int => L_spec_cmListed_l3 (dl gs) gs s_.1 s_.2) 4611686018427387904 (0, lstO gs) = some (lstD gs) ∧ loopM (fun s_ : Nat × List Int => L_impl_Circuit_listed_l3 (dl gs) gs s_.1 s_.2) 4611686018427387904 (0, lstO gs) = some (lstD gs) := by
 have hd : (dl gs).length <= gs.length := dlL_len (gs := gs) gs.length
 have hn := G.hn
 have h0 := cl_len G (lstO_cl G).1
 have hb : ∀ t, (((dl gs).take t).foldl (fun o d => addU o (gtG gs d).2.1) (lstO gs)).length <= 80 := fun t => by
  have := foldU_len (fun d => (gtG gs d).2.1) ((dl gs).take t) (l := lstO gs)
  rw [List.length_take] at this; omega
 constructor
 ·refine loopM_det (dl gs).length (fun t => (t, ((dl gs).take t).foldl (fun o d => addU o (gtG gs d).2.1) (lstO gs))) (by omega) _ rfl (fun t ht => ?_) ?_
  ·have hx := List.getElem?_eq_getElem ht
   have hb := hb t
   try dsimp only
   unfold L_spec_cmListed_l3
   rw [dec_t (by omega), cond_true, hx, Option.bind_some, getI_gtG (dl_mem (List.getElem_mem ht)).1, Option.bind_some, P_l1Has _ _ (by omega), Option.bind_some, any_mem, addS (by omega), Option.bind_some, og_true (by omega), List.take_add_one, hx, Option.toList_some, List.foldl_append]; rfl
  ·try dsimp only
   unfold L_spec_cmListed_l3
   rw [dec_f (by omega), cond_false, List.take_length]; rfl
 ·refine loopM_det (dl gs).length (fun t => (t, ((dl gs).take t).foldl (fun o d => addU o (gtG gs d).2.1) (lstO gs))) (by omega) _ rfl (fun t ht => ?_) ?_
  ·have hx := List.getElem?_eq_getElem ht
   have hb := hb t
   try dsimp only
   unfold L_impl_Circuit_listed_l3
   rw [dec_t (by omega), cond_true, hx, Option.bind_some, getI_gtG (dl_mem (List.getElem_mem ht)).1, Option.bind_some, P_add _ _ (by omega), Option.bind_some, og_true (by omega), List.take_add_one, hx, Option.toList_some, List.foldl_append]; rfl
  ·try dsimp only
   unfold L_impl_Circuit_listed_l3
   rw [dec_f (by omega), cond_false, List.take_length]; rfl
theorem P_listE (G : GoodC p i gs outs) : loopM (fun s_ : Nat × List Int => L_spec_cmListed_l4 outs s_.1 s_.2) 4611686018427387904 (0, lstD gs) = some (lst gs outs) ∧ loopM (fun s_ : Nat × List Int => L_impl_Circuit_listed_l4 outs s_.1 s_.2) 4611686018427387904 (0, lstD gs) = some (lst gs outs) := by
 have hd : (dl gs).length <= gs.length := dlL_len (gs := gs) gs.length
 have hn := G.hn
 have ho := G.ho
 have h0 := cl_len G (lstO_cl G).1
 have h1 := foldU_len (fun d => (gtG gs d).2.1) (dl gs) (l := lstO gs)
 have hb : ∀ t, ((outs.take t).foldl addU (lstD gs)).length <= 100 := fun t => by
  have : ((outs.take t).foldl addU (lstD gs)).length <= _ := foldU_len (fun d => d) (outs.take t) (l := lstD gs)
  rw [List.length_take] at this
  unfold lstD at this ⊢; omega
 constructor
 ·refine loopM_det outs.length (fun t => (t, (outs.take t).foldl addU (lstD gs))) (by omega) _ rfl (fun t ht => ?_) ?_
  ·have hx := List.getElem?_eq_getElem ht
   have hb := hb t
   try dsimp only
   unfold L_spec_cmListed_l4
   rw [dec_t (by omega), cond_true, hx, Option.bind_some, P_l1Has _ _ (by omega), Option.bind_some, any_mem, addS (by omega), Option.bind_some, og_true (by omega), List.take_add_one, hx, Option.toList_some, List.foldl_append]; rfl
  ·try dsimp only
   unfold L_spec_cmListed_l4
   rw [dec_f (by omega), cond_false, List.take_length]; rfl
 ·refine loopM_det outs.length (fun t => (t, (outs.take t).foldl addU (lstD gs))) (by omega) _ rfl (fun t ht => ?_) ?_
  ·have hx := List.getElem?_eq_getElem ht
   have hb := hb t
   try dsimp only
   unfold L_impl_Circuit_listed_l4
   rw [dec_t (by omega), cond_true, hx, Option.bind_some, P_add _ _ (by omega), Option.bind_some, og_true (by omega), List.take_add_one, hx, Option.toList_some, List.foldl_append]; rfl
  ·try dsimp only
   unfold L_impl_Circuit_listed_l4
   rw [dec_f (by omega), cond_false, List.take_length]; rfl
theorem P_specListed (G : GoodC p i gs outs) : L_spec_cmListed i gs outs = some (lst gs outs) := by
 unfold L_spec_cmListed
 rw [P_crOrder (ok_of G) G.hn.2, Option.bind_some, P_sl1 G, Option.bind_some, P_crDelays G.hn.2, Option.bind_some, (P_listD G).1, Option.bind_some, (P_listE G).1]; rfl
theorem P_implListed (G : GoodC p i gs outs) : L_impl_Circuit_listed i gs outs = some (lst gs outs) := by
 unfold L_impl_Circuit_listed
 rw [P_schedule (ok_of G) G.hn.2, G.al, if_pos rfl, Option.bind_some, P_il1 G, Option.bind_some, P_delays G.hn.2, Option.bind_some, (P_listD G).2, Option.bind_some, (P_listE G).2]; rfl
end
end Go.Proofs.YtbdkmfmhlmnlmaaDoor
namespace Go.Proofs.YtbdkmfmhlmnlmaaDoor
def nd (e : Gt) : List Int := if cmG e then opG e else []
def lastS (t : Int) (v : List Int) (ys : List Int) : List Int := ys.foldl (fun v a => v.set a.toNat t) v
def lastU : List (List Int) -> Nat -> List Int -> List Int
 | [], _, v => v
 | l :: U, t, v => lastU U (t + 1) (lastS t v l)
def later (U : List (List Int)) (k : Nat) (g : Int) : Bool := (U.drop (k + 1)).any fun l => l.any fun x => x == g
theorem lastS_len (t : Int) : ∀ (ys v : List Int), (lastS t v ys).length = v.length
 | [], _ => rfl
 | y :: ys, v => by
  have := lastS_len t ys (v.set y.toNat t)
  rw [List.length_set] at this
  exact this
theorem lastU_len : ∀ (U : List (List Int)) (t : Nat) (v : List Int), (lastU U t v).length = v.length
 | [], _, _ => rfl
 | l :: U, t, v => by
  have := lastU_len U (t + 1) (lastS t v l)
  rw [lastS_len] at this
  exact this
theorem lastU_app : ∀ (U W : List (List Int)) (t : Nat) (v : List Int), lastU (U ++ W) t v = lastU W (t + U.length) (lastU U t v)
 | [], _, _, _ => rfl
 | l :: U, W, t, v => by
  have := lastU_app U W (t + 1) (lastS t v l)
  rw [show t + 1 + U.length = t + (l :: U).length by simp; omega] at this
  exact this
theorem gtD_set {v : List Int} {a x t : Int} (ha : 0 <= a ∧ a < v.length) (hx : 0 <= x ∧ x < v.length) : gtD (v.set x.toNat t) a = if a = x then t else gtD v a := by
 unfold gtD
 rw [List.getD_eq_getElem?_getD, List.getD_eq_getElem?_getD, List.getElem?_set]
 by_cases h : a = x
 ·subst h
  rw [if_pos rfl, if_pos (by omega), if_pos rfl]; rfl
 ·rw [if_neg (by omega), if_neg h]
theorem gtD_lastS {a t : Int} : ∀ (ys v : List Int), (0 <= a ∧ a < v.length) -> (∀ x ∈ ys, 0 <= x ∧ x < v.length) -> gtD (lastS t v ys) a = if a ∈ ys then t else gtD v a
 | [], _, _, _ => by simp [lastS]
 | y :: ys, v, ha, hy => by
  have h1 := gtD_lastS (a := a) (t := t) ys (v.set y.toNat t) (by rw [List.length_set]; exact ha) (fun x hx => by rw [List.length_set]; exact hy x (by simp [hx]))
  have h2 := gtD_set (t := t) ha (hy y (by simp))
  show gtD (lastS t (v.set y.toNat t) ys) a = _
  rw [h1, h2]
  by_cases hm : a ∈ ys
  ·rw [if_pos hm, if_pos (List.mem_cons_of_mem _ hm)]
  ·rw [if_neg hm]
   by_cases he : a = y
   ·rw [if_pos he, if_pos (by simp [he])]
   ·rw [if_neg he, if_neg (by simp [he, hm])]
theorem lastU_iff {a m : Int} : ∀ (U : List (List Int)) (t : Nat) (v : List Int), (0 <= a ∧ a < v.length) -> (∀ l ∈ U, ∀ x ∈ l, 0 <= x ∧ x < v.length) -> gtD v a < t -> (gtD (lastU U t v) a <= m ↔ gtD v a <= m ∧ ∀ (j : Nat) (l : List Int), U[j]? = some l -> a ∈ l -> ((t + j : Nat) : Int) <= m)
 | [], _, _, _, _, _ => by simp [lastU]
 | l :: U, t, v, ha, hU, ht => by
  have hs := gtD_lastS (a := a) (t := t) l v ha (hU l (by simp))
  have ih := lastU_iff (a := a) (m := m) U (t + 1) (lastS t v l) (by rw [lastS_len]; exact ha) (fun l' h x hx => by rw [lastS_len]; exact hU l' (by simp [h]) x hx) (by rw [hs]; split <;> omega)
  show gtD (lastU U (t + 1) (lastS t v l)) a <= m ↔ _
  rw [ih, hs]
  by_cases hm : a ∈ l
  ·rw [if_pos hm]
   constructor
   ·rintro ⟨h1, h2⟩
    refine ⟨by omega, fun j l' hj hl' => ?_⟩
    cases j with
    | zero => simpa using h1
    | succ j => have := h2 j l' (by simpa using hj) hl'; rw [show t + (j + 1) = t + 1 + j by omega]; exact this
   ·rintro ⟨h1, h2⟩
    refine ⟨by simpa using h2 0 l rfl hm, fun j l' hj hl' => ?_⟩
    have := h2 (j + 1) l' (by simpa using hj) hl'
    rw [show t + 1 + j = t + (j + 1) by omega]; exact this
  ·rw [if_neg hm]
   constructor
   ·rintro ⟨h1, h2⟩
    refine ⟨h1, fun j l' hj hl' => ?_⟩
    cases j with
    | zero => obtain rfl : l = l' := by simpa using hj
              exact absurd hl' hm
    | succ j => have := h2 j l' (by simpa using hj) hl'; rw [show t + (j + 1) = t + 1 + j by omega]; exact this
   ·rintro ⟨h1, h2⟩
    refine ⟨h1, fun j l' hj hl' => ?_⟩
    have := h2 (j + 1) l' (by simpa using hj) hl'
    rw [show t + 1 + j = t + (j + 1) by omega]; exact this
theorem gtD_rep {n : Nat} {c a : Int} (h : 0 <= a ∧ a < n) : gtD (List.replicate n c) a = c := by
 unfold gtD
 rw [List.getD_eq_getElem?_getD, List.getElem?_replicate, if_pos (by omega)]; rfl
theorem last_later {U : List (List Int)} {n k : Nat} {a : Int} (ha : 0 <= a ∧ a < n) (hU : ∀ l ∈ U, ∀ x ∈ l, 0 <= x ∧ x < n) : decide (gtD (lastU U 0 (List.replicate n (-1))) a <= (k : Int)) = !later U k a := by
 have h := lastU_iff (a := a) (m := (k : Int)) U 0 (List.replicate n (-1)) (by rw [List.length_replicate]; exact ha) (by rw [List.length_replicate]; exact hU) (by rw [gtD_rep ha]; omega)
 rw [gtD_rep ha] at h
 cases hl : later U k a
 ·refine decide_eq_true (h.2 ⟨by omega, fun j l hj hm => ?_⟩)
  rcases Nat.lt_or_ge k j with hk | hk
  ·exfalso
   have : later U k a = true := by
    refine List.any_eq_true.2 ⟨l, List.mem_of_getElem? (i := j - (k + 1)) (by rw [List.getElem?_drop, show k + 1 + (j - (k + 1)) = j by omega]; exact hj), List.any_eq_true.2 ⟨a, hm, beq_self_eq_true a⟩⟩
   rw [hl] at this; cases this
  ·omega
 ·refine decide_eq_false fun hle => ?_
  obtain ⟨_, h2⟩ := h.1 hle
  obtain ⟨l, hm, hq⟩ := List.any_eq_true.1 hl
  obtain ⟨x, hx, e⟩ := List.any_eq_true.1 hq
  obtain rfl := eq_of_beq e
  obtain ⟨j, hj, e⟩ := List.getElem_of_mem hm
  have hj' : (U.drop (k + 1))[j]? = some l := by rw [List.getElem?_eq_getElem hj, e]
  rw [List.getElem?_drop] at hj'
  have := h2 _ _ hj' hx
  omega
section
variable {p i : Int} {gs : List Gt} {outs : List Int}
def usL (gs : List Gt) (outs l : List Int) : List (List Int) := (l.map fun g => nd (gtG gs g)) ++ ((dl gs).map fun d => [(gtG gs d).2.1]) ++ outs.map fun k => [k]
theorem nd_in (G : GoodC p i gs outs) {x y : Int} (hx : 0 <= x ∧ x < gs.length) (h : y ∈ nd (gtG gs x)) : 0 <= y ∧ y < gs.length := by
 unfold nd at h
 split at h
 ·exact op_in G hx h
 ·cases h
theorem usL_in (G : GoodC p i gs outs) {l : List Int} (hl : ∀ x ∈ l, 0 <= x ∧ x < gs.length) : ∀ u ∈ usL gs outs l, ∀ x ∈ u, 0 <= x ∧ x < gs.length := fun u hu x hx => by
 unfold usL at hu
 rcases List.mem_append.1 hu with hu | hu
 ·rcases List.mem_append.1 hu with hu | hu
  ·obtain ⟨g, hg, rfl⟩ := List.mem_map.1 hu
   exact nd_in G (hl g hg) hx
  ·obtain ⟨d, hd, rfl⟩ := List.mem_map.1 hu
   obtain rfl := List.mem_singleton.1 hx
   exact dlA_in G hd
 ·obtain ⟨k, hk, rfl⟩ := List.mem_map.1 hu
  obtain rfl := List.mem_singleton.1 hx
  exact G.io _ hk
theorem P_specUses (G : GoodC p i gs outs) {l : List Int} (hl : ∀ x ∈ l, 0 <= x ∧ x < gs.length) (h40 : l.length <= 40) : L_spec_cmUses i gs outs l = some (usL gs outs l) := by
 have hd : (dl gs).length <= gs.length := dlL_len (gs := gs) gs.length
 have hn := G.hn
 have ho := G.ho
 have e1 : loopM (fun s_ : Nat × List (List Int) => L_spec_cmUses_l1 l gs s_.1 s_.2) 4611686018427387904 (0, ([] : List (List Int))) = some (l.map fun g => nd (gtG gs g)) := by
  refine loopM_app l (fun g => nd (gtG gs g)) [] (by omega) _ (fun k x hx => ?_) ?_
  ·have hk := getN_lt hx
   try dsimp only
   unfold L_spec_cmUses_l1
   rw [List.nil_append, dec_t (by omega), cond_true, hx, Option.bind_some, getI_gtG (hl _ (List.mem_of_getElem? hx)), Option.bind_some, P_crCombines, Option.bind_some]
   have hb : ((l.take k).map fun g => nd (gtG gs g)).length <= 40 := by rw [List.length_map, List.length_take]; omega
   unfold nd at hb ⊢
   cases cmG (gtG gs x)
   ·rw [cond_false, og_true (by omega), Option.bind_some, og_true (by omega)]; rfl
   ·rw [cond_true, P_crOperands, Option.bind_some, og_true (by omega), Option.bind_some, og_true (by omega)]; rfl
  ·try dsimp only
   unfold L_spec_cmUses_l1
   rw [dec_f (by omega), cond_false]; rfl
 have e2 : loopM (fun s_ : Nat × List (List Int) => L_spec_cmUses_l2 (dl gs) gs s_.1 s_.2) 4611686018427387904 (0, l.map fun g => nd (gtG gs g)) = some ((l.map fun g => nd (gtG gs g)) ++ (dl gs).map fun d => [(gtG gs d).2.1]) := by
  refine loopM_app (dl gs) (fun d => [(gtG gs d).2.1]) _ (by omega) _ (fun k x hx => ?_) ?_
  ·have hk := getN_lt hx
   try dsimp only
   unfold L_spec_cmUses_l2
   have hb : ((l.map fun g => nd (gtG gs g)) ++ ((dl gs).take k).map fun d => [(gtG gs d).2.1]).length <= 80 := by rw [List.length_append, List.length_map, List.length_map, List.length_take]; omega
   rw [dec_t (by omega), cond_true, hx, Option.bind_some, getI_gtG (dl_mem (List.mem_of_getElem? hx)).1, Option.bind_some, og_true (by omega), og_true (by omega)]
  ·try dsimp only
   unfold L_spec_cmUses_l2
   rw [dec_f (by omega), cond_false]
 have e3 : loopM (fun s_ : Nat × List (List Int) => L_spec_cmUses_l3 outs s_.1 s_.2) 4611686018427387904 (0, (l.map fun g => nd (gtG gs g)) ++ (dl gs).map fun d => [(gtG gs d).2.1]) = some (usL gs outs l) := by
  refine loopM_app outs (fun k => [k]) _ (by omega) _ (fun k x hx => ?_) ?_
  ·have hk := getN_lt hx
   try dsimp only
   unfold L_spec_cmUses_l3
   have hb : (((l.map fun g => nd (gtG gs g)) ++ (dl gs).map fun d => [(gtG gs d).2.1]) ++ (outs.take k).map fun k => [k]).length <= 100 := by rw [List.length_append, List.length_append, List.length_map, List.length_map, List.length_map, List.length_take]; omega
   rw [dec_t (by omega), cond_true, hx, Option.bind_some, og_true (by omega), og_true (by omega)]
  ·try dsimp only
   unfold L_spec_cmUses_l3
   rw [dec_f (by omega), cond_false]; rfl
 unfold L_spec_cmUses
 rw [e1, Option.bind_some, P_crDelays G.hn.2, Option.bind_some, e2, Option.bind_some, e3]; rfl
theorem P_repeated {a n : Int} (h : 0 <= n ∧ n <= 1000) : L_impl_repeated a n = some (List.replicate n.toNat a) := by
 unfold L_impl_repeated
 rw [P_zeros (by omega), Option.bind_some]
 have hl : (List.replicate n.toNat a).length = n.toNat := List.length_replicate
 have e : loopM (fun s_ : Nat × List Int => L_impl_repeated_l1 (List.replicate n.toNat 0) a s_.1 s_.2) 4611686018427387904 (0, List.replicate n.toNat 0) = some (List.replicate n.toNat a) := by
  refine loopM_det (List.replicate n.toNat a).length (fun k => (k, (List.replicate n.toNat a).take k ++ List.replicate ((List.replicate n.toNat a).length - k) 0)) (by omega) _ (by simp) (fun k hk => ?_) ?_
  ·have hx : (List.replicate n.toNat a)[k]? = some a := by rw [List.getElem?_replicate, if_pos (by omega)]
   try dsimp only
   unfold L_impl_repeated_l1
   rw [dec_t (by simp only [List.length_replicate] at hk ⊢; omega), cond_true, pfill_get hk, Option.bind_some, og_true (by omega), pfill_set hx]
  ·try dsimp only
   unfold L_impl_repeated_l1
   rw [dec_f (by simp only [List.length_replicate]; omega), cond_false, List.take_length, Nat.sub_self]; simp
 rw [e]; rfl
theorem P_cnNone {n : Int} (h : 0 <= n ∧ n <= 1000) : L_spec_cnNone n = some (List.replicate n.toNat (-1)) := by
 unfold L_spec_cnNone
 rw [og_true (by omega)]
 have hl : (List.replicate n.toNat (-1 : Int)).length = n.toNat := List.length_replicate
 have e : loopM (fun s_ : Nat × List Int => L_spec_cnNone_l1 n s_.1 s_.2) 4611686018427387904 (0, List.replicate n.toNat (0 : Int)) = some (List.replicate n.toNat (-1)) := by
  refine loopM_det (List.replicate n.toNat (-1 : Int)).length (fun k => (k, (List.replicate n.toNat (-1 : Int)).take k ++ List.replicate ((List.replicate n.toNat (-1 : Int)).length - k) 0)) (by omega) _ (by simp) (fun k hk => ?_) ?_
  ·have hx : (List.replicate n.toNat (-1 : Int))[k]? = some (-1) := by rw [List.getElem?_replicate, if_pos (by omega)]
   try dsimp only
   unfold L_spec_cnNone_l1
   rw [dec_t (by omega), cond_true, pfill_get hk, Option.bind_some, og_true (by omega), pfill_set hx]
  ·try dsimp only
   unfold L_spec_cnNone_l1
   rw [dec_f (by omega), cond_false, List.take_length, Nat.sub_self]; simp
 rw [e]; rfl
theorem P_ll2 {ys v : List Int} {t : Nat} (hy : ∀ y ∈ ys, 0 <= y ∧ y < v.length) (h2 : ys.length <= 2) : loopM (fun s_ : Nat × List Int => L_impl_Circuit_lastUses_l2 ys t s_.1 s_.2) 4611686018427387904 (0, v) = some (lastS t v ys) := by
 refine loopM_det ys.length (fun j => (j, lastS t v (ys.take j))) (by omega) _ rfl (fun j hj => ?_) ?_
 ·have hx := List.getElem?_eq_getElem hj
  try dsimp only
  unfold L_impl_Circuit_lastUses_l2
  rw [dec_t (by omega), cond_true, hx, Option.bind_some, getI_gtD (by rw [lastS_len]; exact hy _ (List.getElem_mem hj)), Option.bind_some, og_true (by omega), List.take_add_one, hx, Option.toList_some, lastS, lastS, List.foldl_append]; rfl
 ·try dsimp only
  unfold L_impl_Circuit_lastUses_l2
  rw [dec_f (by omega), cond_false, List.take_length]
theorem P_needs2 (e : Gt) : L_impl_Gate_needs e.1 e.2.1 e.2.2.1 e.2.2.2 = some (nd e) := P_needs e
theorem P_lastUses (G : GoodC p i gs outs) {l : List Int} (hl : ∀ x ∈ l, 0 <= x ∧ x < gs.length) (h40 : l.length <= 40) : L_impl_Circuit_lastUses i gs outs l = some (lastU (usL gs outs l) 0 (List.replicate gs.length (-1))) := by
 have hd : (dl gs).length <= gs.length := dlL_len (gs := gs) gs.length
 have hn := G.hn
 have ho := G.ho
 have e1 : ∀ v : List Int, v.length = gs.length -> loopM (fun s_ : Nat × List Int => L_impl_Circuit_lastUses_l1 l gs s_.1 s_.2) 4611686018427387904 (0, v) = some (l.length, lastU (l.map fun g => nd (gtG gs g)) 0 v) := fun v hv => by
  refine loopM_det l.length (fun k => (k, lastU ((l.take k).map fun g => nd (gtG gs g)) 0 v)) (by omega) _ rfl (fun k hk => ?_) ?_
  ·have hx := List.getElem?_eq_getElem hk
   have hin := hl _ (List.getElem_mem hk)
   have hlen := lastU_len ((l.take k).map fun g => nd (gtG gs g)) 0 v
   try dsimp only
   unfold L_impl_Circuit_lastUses_l1
   rw [dec_t (by omega), cond_true, hx, Option.bind_some, getI_gtG hin, Option.bind_some, P_needs2, Option.bind_some, P_ll2 (fun y hy => by rw [hlen, hv]; exact nd_in G hin hy) (by unfold nd; split; exact opG_len _; simp), Option.bind_some, og_true (by omega), List.take_add_one, hx, Option.toList_some, List.map_append, lastU_app, List.length_map, List.length_take, Nat.zero_add, show min k l.length = k by omega]; rfl
  ·try dsimp only
   unfold L_impl_Circuit_lastUses_l1
   rw [dec_f (by omega), cond_false, List.take_length]
 have e2 : ∀ (v : List Int) (t : Nat), t <= 40 -> v.length = gs.length -> loopM (fun s_ : Nat × Nat × List Int => L_impl_Circuit_lastUses_l3 (dl gs) gs s_.1 s_.2.1 s_.2.2) 4611686018427387904 (t, 0, v) = some (t + (dl gs).length, lastU ((dl gs).map fun d => [(gtG gs d).2.1]) t v) := fun v t ht hv => by
  refine loopM_det (dl gs).length (fun k => (t + k, k, lastU (((dl gs).take k).map fun d => [(gtG gs d).2.1]) t v)) (by omega) _ rfl (fun k hk => ?_) ?_
  ·have hx := List.getElem?_eq_getElem hk
   have hlen := lastU_len (((dl gs).take k).map fun d => [(gtG gs d).2.1]) t v
   have hin := dlA_in G (List.getElem_mem hk)
   try dsimp only
   unfold L_impl_Circuit_lastUses_l3
   rw [dec_t (by omega), cond_true, hx, Option.bind_some, getI_gtG (dl_mem (List.getElem_mem hk)).1, Option.bind_some, getI_gtD (by rw [hlen, hv]; exact hin), Option.bind_some, og_true (by omega), og_true (by omega), List.take_add_one, hx, Option.toList_some, List.map_append, lastU_app, List.length_map, List.length_take, show min k (dl gs).length = k by omega]; rfl
  ·try dsimp only
   unfold L_impl_Circuit_lastUses_l3
   rw [dec_f (by omega), cond_false, List.take_length]
 have e3 : ∀ (v : List Int) (t : Nat), t <= 80 -> v.length = gs.length -> loopM (fun s_ : Nat × Nat × List Int => L_impl_Circuit_lastUses_l4 outs s_.1 s_.2.1 s_.2.2) 4611686018427387904 (t, 0, v) = some (lastU (outs.map fun k => [k]) t v) := fun v t ht hv => by
  refine loopM_det outs.length (fun k => (t + k, k, lastU ((outs.take k).map fun k => [k]) t v)) (by omega) _ rfl (fun k hk => ?_) ?_
  ·have hx := List.getElem?_eq_getElem hk
   have hlen := lastU_len ((outs.take k).map fun k => [k]) t v
   have hin := G.io _ (List.getElem_mem hk)
   try dsimp only
   unfold L_impl_Circuit_lastUses_l4
   rw [dec_t (by omega), cond_true, hx, Option.bind_some, getI_gtD (by rw [hlen, hv]; exact hin), Option.bind_some, og_true (by omega), og_true (by omega), List.take_add_one, hx, Option.toList_some, List.map_append, lastU_app, List.length_map, List.length_take, show min k outs.length = k by omega]; rfl
  ·try dsimp only
   unfold L_impl_Circuit_lastUses_l4
   rw [dec_f (by omega), cond_false, List.take_length]
 unfold L_impl_Circuit_lastUses
 rw [P_repeated (by omega), Option.bind_some, e1 _ (by simp), Option.bind_some]
 dsimp only
 rw [P_delays G.hn.2, Option.bind_some, e2 _ _ h40 (by rw [lastU_len]; simp), Option.bind_some]
 dsimp only
 rw [e3 _ _ (by omega) (by rw [lastU_len, lastU_len]; simp), Option.bind_some, usL, lastU_app, lastU_app, List.length_append, List.length_map, List.length_map, Int.toNat_natCast]
 simp only [Nat.zero_add]
end
end Go.Proofs.YtbdkmfmhlmnlmaaDoor
namespace Go.Proofs.YtbdkmfmhlmnlmaaDoor
def freeQ (U : List (List Int)) (k : Nat) (g : Int) : Bool := !(decide (0 <= g) && later U k g)
def frR (U : List (List Int)) (k : Nat) (holds : List Int) : Nat := holds.findIdx (freeQ U k)
theorem frR_le {U : List (List Int)} {k : Nat} {holds : List Int} : frR U k holds <= holds.length := List.findIdx_le_length
def kndT (gs : List Gt) (reg : List Int) (g : Int) : Nat × Int × Int × Int :=
 if (gtG gs g).1 = 1 then (1, (gtG gs g).2.2.2, 0, 0) else
 if (gtG gs g).1 = 2 then (2, 0, 0, 0) else
 if (gtG gs g).1 = 3 then (3, gtD reg (gtG gs g).2.1, gtD reg (gtG gs g).2.2.1, 0) else
 if (gtG gs g).1 = 4 then (4, gtD reg (gtG gs g).2.1, 0, (gtG gs g).2.2.2) else
 (5, (((dl gs).findIdx fun x => g == x : Nat) : Int), 0, 0)
def insT (gs : List Gt) (reg : List Int) (g : Int) (r : Nat) : Ins := (((kndT gs reg g).1 : Int), (r : Int), (kndT gs reg g).2.1, (kndT gs reg g).2.2.1, (kndT gs reg g).2.2.2)
abbrev CS := List Int × List Int × List Ins
def holdC (holds : List Int) (r : Nat) (g : Int) : List Int := if r < holds.length then holds.set r g else holds ++ [g]
def stepC (gs : List Gt) (U : List (List Int)) (s : CS) (k : Nat) (g : Int) : CS :=
 (s.1.set g.toNat (frR U k s.2.1 : Int), holdC s.2.1 (frR U k s.2.1) g, s.2.2 ++ [insT gs s.1 g (frR U k s.2.1)])
def stC (gs : List Gt) (U : List (List Int)) (l : List Int) : Nat -> CS
 | 0 => (List.replicate gs.length (-1), [], [])
 | k + 1 => match l[k]? with
  | some g => stepC gs U (stC gs U l k) k g
  | none => stC gs U l k
theorem holdC_len {holds : List Int} {r : Nat} {g : Int} (h : r <= holds.length) : holds.length <= (holdC holds r g).length ∧ r < (holdC holds r g).length ∧ (holdC holds r g).length <= holds.length + 1 ∧ ((holdC holds r g).length = holds.length ∨ r = holds.length) := by
 unfold holdC
 split
 ·rw [List.length_set]; omega
 ·rw [List.length_append, List.length_singleton]; omega
section
variable {p i : Int} {gs : List Gt} {outs : List Int}
theorem stC_succ {U : List (List Int)} {l : List Int} {k : Nat} {g : Int} (h : l[k]? = some g) : stC gs U l (k + 1) = stepC gs U (stC gs U l k) k g := by
 show (match l[k]? with | some g => stepC gs U (stC gs U l k) k g | none => stC gs U l k) = _
 rw [h]
theorem dl_in {x : Int} (hx : 0 <= x ∧ x < gs.length) (h : (gtG gs x).1 = 5) : x ∈ dl gs := by
 refine List.mem_filter.2 ⟨List.mem_map.2 ⟨x.toNat, List.mem_range.2 (by omega), by omega⟩, by simp [h]⟩
theorem dl_nd : (dl gs).Nodup := List.Pairwise.filter _ (List.pairwise_map.2 (List.Pairwise.imp (fun h e => h (by omega)) List.nodup_range))
theorem insT_ok (G : GoodC p i gs outs) {reg : List Int} {g H : Int} {r : Nat} (hg : 0 <= g ∧ g < gs.length) (hr : (r : Int) < H) (hp : cmG (gtG gs g) = true -> ∀ y ∈ opG (gtG gs g), 0 <= gtD reg y ∧ gtD reg y < H) : insB p i outs.length (dl gs).length H (insT gs reg g r) = true := by
 have hb := List.all_eq_true.1 G.ga _ (gtG_mem hg)
 have hk := gateB_kind hb
 have h0 : inR (r : Int) 0 (H - 1) = true := inR_true.2 (by omega)
 refine Bool.and_eq_true_iff.2 ⟨h0, ?_⟩
 unfold insT kndT
 by_cases h1 : (gtG gs g).1 = 1
 ·have := gateB_input hb h1
  rw [if_pos h1]
  show (inR (gtG gs g).2.2.2 0 (i - 1) && (true && true)) = true
  rw [inR_true.2 (by omega)]; rfl
 rw [if_neg h1]
 by_cases h2 : (gtG gs g).1 = 2
 ·rw [if_pos h2]; rfl
 rw [if_neg h2]
 by_cases h3 : (gtG gs g).1 = 3
 ·have hc : cmG (gtG gs g) = true := by simp [cmG, h3]
  have a1 := hp hc (gtG gs g).2.1 (by simp [opG, h3])
  have a2 := hp hc (gtG gs g).2.2.1 (by simp [opG, h3])
  rw [if_pos h3]
  show (inR (gtD reg (gtG gs g).2.1) 0 (H - 1) && (inR (gtD reg (gtG gs g).2.2.1) 0 (H - 1) && true)) = true
  rw [inR_true.2 (by omega), inR_true.2 (by omega)]; rfl
 rw [if_neg h3]
 by_cases h4 : (gtG gs g).1 = 4
 ·have hc : cmG (gtG gs g) = true := by simp [cmG, h4]
  have a1 := hp hc (gtG gs g).2.1 (by simp [opG, h4])
  have a2 := (gateB_ops hb).2.2 h4
  rw [if_pos h4]
  show (inR (gtD reg (gtG gs g).2.1) 0 (H - 1) && (true && inR (gtG gs g).2.2.2 0 (p - 1))) = true
  rw [inR_true.2 (by omega), inR_true.2 (by omega)]; rfl
 rw [if_neg h4]
 have h5 := idx_mem.2 (dl_in hg (by omega))
 show (inR (((dl gs).findIdx fun x => g == x : Nat) : Int) 0 (((dl gs).length : Nat) - 1 : Int) && (true && true)) = true
 rw [inR_true.2 (by omega)]; rfl
structure InvC (p i : Int) (gs : List Gt) (outs l : List Int) (k : Nat) (s : CS) : Prop where
 rl : s.1.length = gs.length
 hl : s.2.1.length <= k
 hr : ∀ h ∈ s.2.1, 0 <= h ∧ h < gs.length
 pl : ∀ x ∈ l.take k, 0 <= gtD s.1 x ∧ gtD s.1 x < s.2.1.length
 cl : s.2.2.length = k
 ok : ∀ e ∈ s.2.2, ∀ H : Int, (s.2.1.length : Int) <= H -> insB p i outs.length (dl gs).length H e = true
theorem invC (G : GoodC p i gs outs) (U : List (List Int)) {l : List Int} (C : Cl gs l) : ∀ k, k <= l.length -> InvC p i gs outs l k (stC gs U l k)
 | 0, _ => ⟨by simp [stC], by simp [stC], by simp [stC], by simp, by simp [stC], by simp [stC]⟩
 | k + 1, hk => by
  have I := invC G U C k (by omega)
  have hx : l[k]? = some l[k] := List.getElem?_eq_getElem (by omega)
  have hg := C.2.1 _ (List.getElem_mem (show k < l.length by omega))
  have hop := C.2.2 k _ hx
  rw [stC_succ hx]
  generalize stC gs U l k = s at I
  generalize l[k] = g at hx hg hop
  obtain ⟨reg, holds, code⟩ := s
  obtain ⟨rl, hl, hr, pl, cl, ok⟩ := I
  dsimp only at rl hl hr pl cl ok
  have hf : frR U k holds <= holds.length := frR_le
  obtain ⟨c1, c2, c3, _⟩ := holdC_len (g := g) hf
  have es : stepC gs U (reg, holds, code) k g = (reg.set g.toNat (frR U k holds : Int), holdC holds (frR U k holds) g, code ++ [insT gs reg g (frR U k holds)]) := rfl
  rw [es]
  refine ⟨by dsimp only; rw [List.length_set]; exact rl, by dsimp only; omega, fun h hh => ?_, fun x hx' => ?_, by dsimp only; rw [List.length_append, cl]; rfl, fun e he H hH => ?_⟩
  ·dsimp only at hh
   unfold holdC at hh
   split at hh
   ·rcases List.mem_or_eq_of_mem_set hh with h1 | rfl
    ·exact hr h h1
    ·exact hg
   ·rcases List.mem_append.1 hh with h1 | h1
    ·exact hr h h1
    ·obtain rfl := List.mem_singleton.1 h1; exact hg
  ·dsimp only
   rw [List.take_add_one, hx] at hx'
   have hin : 0 <= x ∧ x < gs.length := by
    rcases List.mem_append.1 hx' with h1 | h1
    ·exact C.2.1 x (List.mem_of_mem_take h1)
    ·obtain rfl := List.mem_singleton.1 h1; exact hg
   rw [gtD_set (by rw [rl]; exact hin) (by rw [rl]; exact hg)]
   by_cases e : x = g
   ·rw [if_pos e]; omega
   ·rw [if_neg e]
    rcases List.mem_append.1 hx' with h1 | h1
    ·have := pl x h1; omega
    ·exact absurd (List.mem_singleton.1 h1) e
  ·dsimp only at he hH
   rcases List.mem_append.1 he with h1 | h1
   ·exact ok e h1 H (by omega)
   ·obtain rfl := List.mem_singleton.1 h1
    exact insT_ok G hg (by show ((frR U k holds : Nat) : Int) < H; omega) fun hc y hy => by
     have := pl y (hop hc y hy)
     show 0 <= gtD reg y ∧ gtD reg y < H
     omega
theorem P_cmLater {U : List (List Int)} {k : Nat} {x : Int} (hk : k + 1 <= U.length) (hu : U.length <= 1000) (h2 : ∀ u ∈ U, u.length <= 2) : L_spec_cmLater U (k : Int) x = some (later U k x) := by
 unfold L_spec_cmLater
 have e0 : IntKind.i64.wrap ((k : Int) + 1) = (k : Int) + 1 := i64_lt (by omega) (by omega)
 have e1 : (IntKind.i64.wrap ((k : Int) + 1)).toNat = k + 1 := by omega
 rw [og_true (by omega), loopM_has (U.drop (k + 1)) (fun u => u.any fun y => y == x) (by rw [List.length_drop]; omega) (fun j u h => ?_) ?_]
 ·rfl
 ·unfold L_spec_cmLater_l1
  rw [e1, dec_f (by omega), cond_false]
 ·have hj := getN_lt h
  unfold L_spec_cmLater_l1
  rw [e1, dec_t (by omega), cond_true, h, Option.bind_some, P_l1Has u x (by have := h2 u (List.mem_of_mem_drop (List.mem_of_getElem? h)); omega), Option.bind_some, og_true (by rw [List.length_drop] at hj; omega)]
  cases u.any fun y => y == x <;> rfl
theorem P_frR {U : List (List Int)} {k : Nat} {holds : List Int} (hk : k + 1 <= U.length) (hu : U.length <= 1000) (h2 : ∀ u ∈ U, u.length <= 2) (hh : holds.length <= 1000) : loopM (fun s_ : Nat => L_spec_cmCompile_l2 holds U k s_) 4611686018427387904 0 = some (frR U k holds) := by
 rw [loopM_idx holds (freeQ U k) holds.length (fun j => j) (by omega) (fun j x h => ?_) ?_]
 ·have := frR_le (U := U) (k := k) (holds := holds)
  unfold frR at this ⊢
  split
  ·rfl
  ·congr 1; omega
 ·unfold L_spec_cmCompile_l2
  rw [dec_f (by omega), cond_false, Option.bind_some, cond_false]
 ·have hj := getN_lt h
  unfold L_spec_cmCompile_l2 freeQ
  rw [dec_t (by omega), cond_true, h, Option.bind_some, P_cmLater hk hu h2]
  cases decide (0 <= x)
  ·rfl
  ·rw [cond_true, Option.bind_some, Option.bind_some]
   cases later U k x
   ·rfl
   ·rw [cond_true, og_true (by omega)]; rfl
theorem P_idxD {g : Int} (hg : g ∈ dl gs) (hn : (dl gs).length <= 40) : loopM (fun s_ : Nat × Nat => L_spec_cmCompile_l3 (dl gs) g s_.1 s_.2) 4611686018427387904 (0, 0) = some (5, (((dl gs).findIdx fun x => g == x : Nat) : Int), 0, 0) := by
 have hF := idx_mem.2 hg
 refine loopM_eq (dl gs).length (fun t s => s.1 = t ∧ (t <= ((dl gs).findIdx fun x => g == x) -> s.2 = 0) ∧ (((dl gs).findIdx fun x => g == x) < t -> s.2 = (dl gs).findIdx fun x => g == x)) (by omega) _ ⟨rfl, fun _ => rfl, fun h => by omega⟩ ?_ ?_
 ·rintro t ⟨s1, s2⟩ ht ⟨rfl, h1, h2⟩
  dsimp only at ht h1 h2 ⊢
  have hx := List.getElem?_eq_getElem ht
  have hm : ((dl gs)[s1] == g) = decide (s1 = (dl gs).findIdx fun x => g == x) := by
   have hq := List.findIdx_getElem (w := hF)
   have hq' := eq_of_beq hq
   rcases Nat.lt_trichotomy s1 ((dl gs).findIdx fun x => g == x) with h | h | h
   ·have := List.not_of_lt_findIdx h
    rw [dec_f (by omega)]
    exact beq_eq_false_iff_ne.2 fun e => by rw [e] at this; simp at this
   ·rw [dec_t h]
    subst h
    exact beq_iff_eq.2 hq'.symm
   ·rw [dec_f (by omega)]
    exact beq_eq_false_iff_ne.2 fun e => (List.pairwise_iff_getElem.1 (dl_nd (gs := gs))) _ _ hF ht h (by rw [← hq', e])
  refine .inl ?_
  unfold L_spec_cmCompile_l3
  rw [dec_t (by omega), cond_true, hx, Option.bind_some, hm]
  by_cases e : s1 = (dl gs).findIdx fun x => g == x
  ·rw [dec_t e, cond_true, Option.bind_some, og_true (by omega)]
   exact ⟨_, rfl, rfl, fun h => by (try dsimp only at h ⊢); omega, fun _ => e⟩
  ·rw [dec_f e, cond_false, Option.bind_some, og_true (by omega)]
   exact ⟨_, rfl, rfl, fun h => h1 (by (try dsimp only at h); omega), fun h => h2 (by (try dsimp only at h); omega)⟩
 ·rintro ⟨s1, s2⟩ ⟨rfl, h1, h2⟩
  dsimp only at h1 h2 ⊢
  unfold L_spec_cmCompile_l3
  rw [dec_f (by omega), cond_false, h2 hF]
theorem P_knd (G : GoodC p i gs outs) {reg : List Int} {g : Int} (hg : 0 <= g ∧ g < gs.length) (hl : reg.length = gs.length) : cond ((gtG gs g).1 == 1)
  (some (1, (gtG gs g).2.2.2, 0, 0))
  (cond ((gtG gs g).1 == 2)
   (some (2, 0, 0, 0))
   (cond ((gtG gs g).1 == 3)
    (Option.bind (getI reg (gtG gs g).2.1) fun x50 =>
    Option.bind (getI reg (gtG gs g).2.2.1) fun x51 =>
    some (3, x50, x51, 0))
    (cond ((gtG gs g).1 == 4)
     (Option.bind (getI reg (gtG gs g).2.1) fun x56 =>
     some (4, x56, 0, (gtG gs g).2.2.2))
     (loopM (fun s_ : Nat × Nat => L_spec_cmCompile_l3 (dl gs) g s_.1 s_.2) 4611686018427387904 (0, 0))))) = some (kndT gs reg g) := by
 have hb := List.all_eq_true.1 G.ga _ (gtG_mem hg)
 have hk := gateB_kind hb
 have hop := fun y => op_in G hg (y := y)
 have hd : (dl gs).length <= gs.length := dlL_len (gs := gs) gs.length
 have hn := G.hn
 unfold kndT
 by_cases h1 : (gtG gs g).1 = 1
 ·rw [beq_iff_eq.2 h1, cond_true, if_pos h1]
 rw [beq_eq_false_iff_ne.2 h1, cond_false, if_neg h1]
 by_cases h2 : (gtG gs g).1 = 2
 ·rw [beq_iff_eq.2 h2, cond_true, if_pos h2]
 rw [beq_eq_false_iff_ne.2 h2, cond_false, if_neg h2]
 by_cases h3 : (gtG gs g).1 = 3
 ·rw [beq_iff_eq.2 h3, cond_true, if_pos h3, getI_gtD (by rw [hl]; exact hop _ (by simp [opG, h3])), Option.bind_some, getI_gtD (by rw [hl]; exact hop _ (by simp [opG, h3]))]; rfl
 rw [beq_eq_false_iff_ne.2 h3, cond_false, if_neg h3]
 by_cases h4 : (gtG gs g).1 = 4
 ·rw [beq_iff_eq.2 h4, cond_true, if_pos h4, getI_gtD (by rw [hl]; exact hop _ (by simp [opG, h4]))]; rfl
 rw [beq_eq_false_iff_ne.2 h4, cond_false, if_neg h4, P_idxD (dl_in hg (by omega)) (by omega)]
theorem usL_bd (G : GoodC p i gs outs) {l : List Int} (h : l.length <= 40) : l.length <= (usL gs outs l).length ∧ (usL gs outs l).length <= 100 ∧ ∀ u ∈ usL gs outs l, u.length <= 2 := by
 have hd : (dl gs).length <= gs.length := dlL_len (gs := gs) gs.length
 have hn := G.hn
 have ho := G.ho
 unfold usL
 refine ⟨by simp only [List.length_append, List.length_map]; omega, by simp only [List.length_append, List.length_map]; omega, fun u hu => ?_⟩
 rcases List.mem_append.1 hu with hu | hu
 ·rcases List.mem_append.1 hu with hu | hu
  ·obtain ⟨g, _, rfl⟩ := List.mem_map.1 hu
   unfold nd; split
   ·exact opG_len _
   ·simp
  ·obtain ⟨d, _, rfl⟩ := List.mem_map.1 hu
   simp
 ·obtain ⟨d, _, rfl⟩ := List.mem_map.1 hu
  simp
theorem P_scl1 (G : GoodC p i gs outs) {l : List Int} (C : Cl gs l) : loopM (fun s_ : Nat × List Int × List Int × (List (Int × Int × Int × Int × Int)) => L_spec_cmCompile_l1 l gs (usL gs outs l) (dl gs) s_.1 s_.2.1 s_.2.2.1 s_.2.2.2) 4611686018427387904 (0, List.replicate gs.length (-1), [], []) = some (stC gs (usL gs outs l) l l.length) := by
 have h40 := cl_len G C
 obtain ⟨u1, u2, u3⟩ := usL_bd G h40
 refine loopM_det l.length (fun k => (k, stC gs (usL gs outs l) l k)) (by omega) _ rfl (fun k hk => ?_) ?_
 ·have hx := List.getElem?_eq_getElem hk
  have I := invC G (usL gs outs l) C k (by omega)
  have hg := C.2.1 _ (List.getElem_mem hk)
  rw [stC_succ hx]
  generalize stC gs (usL gs outs l) l k = s at I
  obtain ⟨reg, holds, code⟩ := s
  obtain ⟨rl, hl, hr, pl, cl, ok⟩ := I
  dsimp only at rl hl hr pl cl ok ⊢
  have hf : frR (usL gs outs l) k holds <= holds.length := frR_le
  unfold L_spec_cmCompile_l1
  rw [dec_t (by omega), cond_true, hx, Option.bind_some, getI_gtG hg, Option.bind_some, P_frR (by omega) (by omega) u3 (by omega), Option.bind_some, P_knd G hg rl]
  unfold stepC holdC
  dsimp only
  by_cases e : frR (usL gs outs l) k holds = holds.length
  ·rw [beq_iff_eq.2 (show ((frR (usL gs outs l) k holds : Nat) : Int) = (holds.length : Nat) by omega), cond_true, og_true (by omega), Option.bind_some, Option.bind_some]
   try dsimp only
   rw [og_true (by omega), if_neg (by omega), e, List.getElem?_append_right (Nat.le_refl _), Nat.sub_self]
   rw [show ([(-1 : Int)] : List Int)[0]? = some (-1) from rfl, Option.bind_some, getI_gtD (by rw [rl]; exact hg), Option.bind_some, Option.bind_some]
   try dsimp only
   rw [og_true (by omega), List.set_append_right _ _ (Nat.le_refl _), Nat.sub_self]
   unfold insT
   rfl
  ·rw [beq_eq_false_iff_ne.2 (show ¬ ((frR (usL gs outs l) k holds : Nat) : Int) = (holds.length : Nat) by omega), cond_false, Option.bind_some, Option.bind_some]
   try dsimp only
   rw [og_true (by omega), if_pos (by omega), List.getElem?_eq_getElem (show frR (usL gs outs l) k holds < holds.length by omega), Option.bind_some, getI_gtD (by rw [rl]; exact hg), Option.bind_some, Option.bind_some]
   try dsimp only
   rw [og_true (by omega)]
   unfold insT
   rfl
 ·try dsimp only
  unfold L_spec_cmCompile_l1
  rw [dec_f (by omega), cond_false]
end
end Go.Proofs.YtbdkmfmhlmnlmaaDoor
namespace Go.Proofs.YtbdkmfmhlmnlmaaDoor
def szV (v : Int) (n : Nat) : Int := if v < n then -1 else v - n
theorem P_szIntS (xs : List Int) {v : Int} (hv : 0 <= v ∧ v <= 1048576) (hx : xs.length <= 9223372036854775807) : L_laws_szIntS xs v = some (szV v xs.length) := by
 unfold L_laws_szIntS szV
 rw [i64_lt (by omega) (by omega)]
 by_cases h : v < xs.length
 ·rw [dec_t (by omega), if_pos h]; rfl
 ·rw [dec_f (by omega), if_neg h]; rfl
theorem P_toIntS (xs : List Int) (hx : xs.length <= 1073741824) : L_laws_toIntS xs = some xs := by
 unfold L_laws_toIntS
 rw [og_true (by omega)]
 have h : loopM (fun s_ : Nat × List Int => L_laws_toIntS_l1 xs s_.1 s_.2) 4611686018427387904 (0, List.replicate xs.length (0 : Int)) = some xs := by
  refine loopM_det xs.length (fun i => (i, xs.take i ++ List.replicate (xs.length - i) 0)) (by omega) xs (by simp) (fun i hi => ?_) ?_
  ·have hx := List.getElem?_eq_getElem hi
   try dsimp only
   unfold L_laws_toIntS_l1
   rw [dec_t (by omega), cond_true, hx, Option.bind_some, pfill_get hi, Option.bind_some, og_true (by omega), pfill_set hx]
  ·try dsimp only
   unfold L_laws_toIntS_l1
   rw [dec_f (by omega), cond_false]
   simp
 rw [h]; rfl
theorem P_eqIntS (xs : List Int) (hx : xs.length <= 1073741824) : L_laws_eqIntS xs xs = some true := by
 unfold L_laws_eqIntS
 have h : loopM (fun s_ : Nat => L_laws_eqIntS_l1 xs xs s_) 4611686018427387904 0 = some (.next ()) := by
  refine loopM_det xs.length (fun i => i) (by omega) _ rfl (fun i hi => ?_) ?_
  ·have hx := List.getElem?_eq_getElem hi
   try dsimp only
   unfold L_laws_eqIntS_l1
   rw [dec_t (by omega), cond_true, hx, Option.bind_some, Option.bind_some, bne_self_eq_false, cond_false, og_true (by omega)]
  ·try dsimp only
   unfold L_laws_eqIntS_l1
   rw [dec_f (by omega), cond_false]
 rw [h, bne_self_eq_false, cond_false]; rfl
theorem P_markIntS (xs : List Int) {v : Int} (hv : 0 <= v ∧ v <= 1152921504606846976) (hx : xs.length <= 1073741824) :
  ∃ ys, L_laws_markIntS xs v = some (ys, v + xs.length) ∧ ys.length = xs.length := by
 refine ⟨(List.range xs.length).map fun j : Nat => v + (j : Int), ?_, by simp⟩
 ·unfold L_laws_markIntS
  have h : loopM (fun s_ : Int × Nat × List Int => L_laws_markIntS_l1 s_.1 s_.2.1 s_.2.2) 4611686018427387904 (v, 0, xs) = some (v + xs.length, (List.range xs.length).map fun j : Nat => v + (j : Int)) := by
   refine loopM_det xs.length (fun i => (v + i, i, (List.range i).map (fun (j : Nat) => v + (j : Int)) ++ xs.drop i)) (by omega) _ (by simp) (fun i hi => ?_) ?_
   ·have hl : ((List.range i).map fun j : Nat => v + (j : Int)).length = i := by simp
    try dsimp only
    unfold L_laws_markIntS_l1
    rw [dec_t (by rw [List.length_append, hl, List.length_drop]; omega), cond_true, pover_get hi hl, Option.bind_some, og_true (by omega), pover_set hi hl, i64_lt (by omega) (by omega), List.range_succ, List.map_append]
    simp [Int.add_assoc]
   ·try dsimp only
    unfold L_laws_markIntS_l1
    rw [dec_f (by simp), cond_false]
    simp
  rw [h]; rfl
theorem P_szGateS (xs : List (Int × Int × Int × Int)) {v : Int} (hv : 0 <= v ∧ v <= 1048576) (hx : xs.length <= 9223372036854775807) : L_laws_szGateS xs v = some (szV v xs.length) := by
 unfold L_laws_szGateS szV
 rw [i64_lt (by omega) (by omega)]
 by_cases h : v < xs.length
 ·rw [dec_t (by omega), if_pos h]; rfl
 ·rw [dec_f (by omega), if_neg h]; rfl
theorem P_toGateS (xs : List (Int × Int × Int × Int)) (hx : xs.length <= 1073741824) : L_laws_toGateS xs = some xs := by
 unfold L_laws_toGateS
 rw [og_true (by omega)]
 have h : loopM (fun s_ : Nat × List (Int × Int × Int × Int) => L_laws_toGateS_l1 xs s_.1 s_.2) 4611686018427387904 (0, List.replicate xs.length ((0, 0, 0, 0) : Int × Int × Int × Int)) = some xs := by
  refine loopM_det xs.length (fun i => (i, xs.take i ++ List.replicate (xs.length - i) (0, 0, 0, 0))) (by omega) xs (by simp) (fun i hi => ?_) ?_
  ·have hx := List.getElem?_eq_getElem hi
   try dsimp only
   unfold L_laws_toGateS_l1 L_laws_toGate
   rw [dec_t (by omega), cond_true, hx, Option.bind_some, Option.bind_some, pfill_get hi, Option.bind_some, og_true (by omega), pfill_set hx]
  ·try dsimp only
   unfold L_laws_toGateS_l1
   rw [dec_f (by omega), cond_false]
   simp
 rw [h]; rfl
theorem P_eqGateS (xs : List (Int × Int × Int × Int)) (hx : xs.length <= 1073741824) : L_laws_eqGateS xs xs = some true := by
 unfold L_laws_eqGateS
 have h : loopM (fun s_ : Nat => L_laws_eqGateS_l1 xs xs s_) 4611686018427387904 0 = some (.next ()) := by
  refine loopM_det xs.length (fun i => i) (by omega) _ rfl (fun i hi => ?_) ?_
  ·have hx := List.getElem?_eq_getElem hi
   try dsimp only
   unfold L_laws_eqGateS_l1 L_laws_eqGate
   rw [dec_t (by omega), cond_true, hx, Option.bind_some, Option.bind_some]
   simp only [bne_self_eq_false, cond_false, Option.bind_some, Bool.not_true]
   rw [og_true (by omega)]
  ·try dsimp only
   unfold L_laws_eqGateS_l1
   rw [dec_f (by omega), cond_false]
 rw [h, bne_self_eq_false, cond_false]; rfl
theorem P_markGateS (xs : List (Int × Int × Int × Int)) {v : Int} (hv : 0 <= v ∧ v <= 576460752303423488) (hx : xs.length <= 1073741824) :
  ∃ ys, L_laws_markGateS xs v = some (ys, v + 4 * xs.length) ∧ ys.length = xs.length := by
 refine ⟨(List.range xs.length).map fun j : Nat => (v + 4 * (j : Int), v + 4 * (j : Int) + 1, v + 4 * (j : Int) + 1 + 1, v + 4 * (j : Int) + 1 + 1 + 1), ?_, by simp⟩
 ·unfold L_laws_markGateS
  have h : loopM (fun s_ : Int × Nat × List (Int × Int × Int × Int) => L_laws_markGateS_l1 s_.1 s_.2.1 s_.2.2) 4611686018427387904 (v, 0, xs) = some (v + 4 * xs.length, (List.range xs.length).map fun j : Nat => (v + 4 * (j : Int), v + 4 * (j : Int) + 1, v + 4 * (j : Int) + 1 + 1, v + 4 * (j : Int) + 1 + 1 + 1)) := by
   refine loopM_det xs.length (fun i => (v + 4 * i, i, (List.range i).map (fun (j : Nat) => (v + 4 * (j : Int), v + 4 * (j : Int) + 1, v + 4 * (j : Int) + 1 + 1, v + 4 * (j : Int) + 1 + 1 + 1)) ++ xs.drop i)) (by omega) _ (by simp) (fun i hi => ?_) ?_
   ·have hl : ((List.range i).map fun j : Nat => (v + 4 * (j : Int), v + 4 * (j : Int) + 1, v + 4 * (j : Int) + 1 + 1, v + 4 * (j : Int) + 1 + 1 + 1)).length = i := by simp
    try dsimp only
    unfold L_laws_markGateS_l1
    have e1 : IntKind.i64.wrap (v + 4 * i + 1) = v + 4 * i + 1 := i64_lt (by omega) (by omega)
    have e2 : IntKind.i64.wrap (v + 4 * i + 1 + 1) = v + 4 * i + 1 + 1 := i64_lt (by omega) (by omega)
    have e3 : IntKind.i64.wrap (v + 4 * i + 1 + 1 + 1) = v + 4 * i + 1 + 1 + 1 := i64_lt (by omega) (by omega)
    have e4 : IntKind.i64.wrap (v + 4 * i + 1 + 1 + 1 + 1) = v + 4 * i + 1 + 1 + 1 + 1 := i64_lt (by omega) (by omega)
    rw [dec_t (by rw [List.length_append, hl, List.length_drop]; omega), cond_true, pover_get hi hl, Option.bind_some, e1, e2, e3, e4, pover_set hi hl, pover_get' hl, Option.bind_some, pover_set' hl, pover_get' hl, Option.bind_some, pover_set' hl, pover_get' hl, Option.bind_some, pover_set' hl, og_true (by omega), List.range_succ, List.map_append]
    simp [Int.mul_add, Int.add_assoc]
   ·try dsimp only
    unfold L_laws_markGateS_l1
    rw [dec_f (by simp), cond_false]
    simp
  rw [h]; rfl
theorem P_szCircuit (n0 : Int) (s1 : List (Int × Int × Int × Int)) (s2 : List Int) {v : Int} (hv : 0 <= v ∧ v <= 1048576) (hs1 : s1.length <= 9223372036854775807) (hs2 : s2.length <= 9223372036854775807) : L_laws_szCircuit n0 s1 s2 v = some (szV v (s1.length + s2.length)) := by
 unfold L_laws_szCircuit
 rw [P_szGateS s1 (by omega) hs1, Option.bind_some]
 by_cases h0 : v < s1.length
 ·rw [show szV v s1.length = -1 from if_pos h0, show szV v (s1.length + s2.length) = -1 from if_pos (by omega)]; rfl
 rw [show szV v s1.length = v - s1.length from if_neg h0, dec_f (by omega), cond_false]
 rw [P_szIntS s2 (by omega) hs2, Option.bind_some]
 by_cases h1 : v - s1.length < s2.length
 ·rw [show szV (v - s1.length) s2.length = -1 from if_pos h1, show szV v (s1.length + s2.length) = -1 from if_pos (by omega)]; rfl
 rw [show szV (v - s1.length) s2.length = v - s1.length - s2.length from if_neg h1, dec_f (by omega), cond_false, show szV v (s1.length + s2.length) = v - s1.length - s2.length from by unfold szV; rw [if_neg (by omega)]; omega]
theorem P_toCircuit (n0 : Int) (s1 : List (Int × Int × Int × Int)) (s2 : List Int) (hs1 : s1.length <= 1073741824) (hs2 : s2.length <= 1073741824) : L_laws_toCircuit n0 s1 s2 = some (n0, s1, s2) := by
 unfold L_laws_toCircuit
 rw [P_toGateS s1 hs1, P_toIntS s2 hs2]; rfl
theorem P_eqCircuit (n0 : Int) (s1 : List (Int × Int × Int × Int)) (s2 : List Int) (hs1 : s1.length <= 1073741824) (hs2 : s2.length <= 1073741824) : L_laws_eqCircuit n0 s1 s2 n0 s1 s2 = some true := by
 unfold L_laws_eqCircuit
 simp only [P_eqGateS s1 hs1, P_eqIntS s2 hs2, bne_self_eq_false, cond_false, Option.bind_some, Bool.not_true]
theorem P_markCircuit (n0 : Int) (s1 : List (Int × Int × Int × Int)) (s2 : List Int) {v : Int} (hv : 0 <= v ∧ v <= 288230376151711744) (hs1 : s1.length <= 1073741824) (hs2 : s2.length <= 1073741824) :
  ∃ s1' s2', ∃ u : Int, v <= u ∧ u <= v + 5368709120 ∧ L_laws_markCircuit n0 s1 s2 v = some (s1', s2', u) ∧ s1'.length = s1.length ∧ s2'.length = s2.length := by
 obtain ⟨s1', m0, q0⟩ := P_markGateS s1 (v := v) (by omega) hs1
 obtain ⟨s2', m1, q1⟩ := P_markIntS s2 (v := v + 4 * s1.length) (by omega) hs2
 refine ⟨s1', s2', v + 4 * s1.length + s2.length, by omega, by omega, ?_, q0, q1⟩
 ·unfold L_laws_markCircuit
  rw [m0, Option.bind_some, og_true q0, m1, Option.bind_some, og_true q1]
end Go.Proofs.YtbdkmfmhlmnlmaaDoor
namespace Go.Proofs.YtbdkmfmhlmnlmaaDoor
theorem P_eqInstrS (xs : List (Int × Int × Int × Int × Int)) (hx : xs.length <= 1073741824) : L_laws_eqInstrS xs xs = some true := by
 unfold L_laws_eqInstrS
 have h : loopM (fun s_ : Nat => L_laws_eqInstrS_l1 xs xs s_) 4611686018427387904 0 = some (.next ()) := by
  refine loopM_det xs.length (fun i => i) (by omega) _ rfl (fun i hi => ?_) ?_
  ·have hx := List.getElem?_eq_getElem hi
   try dsimp only
   unfold L_laws_eqInstrS_l1 L_laws_eqInstr
   rw [dec_t (by omega), cond_true, hx, Option.bind_some, Option.bind_some]
   simp only [bne_self_eq_false, cond_false, Option.bind_some, Bool.not_true]
   rw [og_true (by omega)]
  ·try dsimp only
   unfold L_laws_eqInstrS_l1
   rw [dec_f (by omega), cond_false]
 rw [h, bne_self_eq_false, cond_false]; rfl
theorem P_markInstrS (xs : List (Int × Int × Int × Int × Int)) {v : Int} (hv : 0 <= v ∧ v <= 576460752303423488) (hx : xs.length <= 1073741824) :
  ∃ ys, L_laws_markInstrS xs v = some (ys, v + 5 * xs.length) ∧ ys.length = xs.length ∧ L_laws_heldInstrS ys v = some (v + 5 * xs.length) := by
 refine ⟨(List.range xs.length).map fun j : Nat => (v + 5 * (j : Int), v + 5 * (j : Int) + 1, v + 5 * (j : Int) + 1 + 1, v + 5 * (j : Int) + 1 + 1 + 1, v + 5 * (j : Int) + 1 + 1 + 1 + 1), ?_, by simp, ?_⟩
 ·unfold L_laws_markInstrS
  have h : loopM (fun s_ : Int × Nat × List (Int × Int × Int × Int × Int) => L_laws_markInstrS_l1 s_.1 s_.2.1 s_.2.2) 4611686018427387904 (v, 0, xs) = some (v + 5 * xs.length, (List.range xs.length).map fun j : Nat => (v + 5 * (j : Int), v + 5 * (j : Int) + 1, v + 5 * (j : Int) + 1 + 1, v + 5 * (j : Int) + 1 + 1 + 1, v + 5 * (j : Int) + 1 + 1 + 1 + 1)) := by
   refine loopM_det xs.length (fun i => (v + 5 * i, i, (List.range i).map (fun (j : Nat) => (v + 5 * (j : Int), v + 5 * (j : Int) + 1, v + 5 * (j : Int) + 1 + 1, v + 5 * (j : Int) + 1 + 1 + 1, v + 5 * (j : Int) + 1 + 1 + 1 + 1)) ++ xs.drop i)) (by omega) _ (by simp) (fun i hi => ?_) ?_
   ·have hl : ((List.range i).map fun j : Nat => (v + 5 * (j : Int), v + 5 * (j : Int) + 1, v + 5 * (j : Int) + 1 + 1, v + 5 * (j : Int) + 1 + 1 + 1, v + 5 * (j : Int) + 1 + 1 + 1 + 1)).length = i := by simp
    try dsimp only
    unfold L_laws_markInstrS_l1
    have e1 : IntKind.i64.wrap (v + 5 * i + 1) = v + 5 * i + 1 := i64_lt (by omega) (by omega)
    have e2 : IntKind.i64.wrap (v + 5 * i + 1 + 1) = v + 5 * i + 1 + 1 := i64_lt (by omega) (by omega)
    have e3 : IntKind.i64.wrap (v + 5 * i + 1 + 1 + 1) = v + 5 * i + 1 + 1 + 1 := i64_lt (by omega) (by omega)
    have e4 : IntKind.i64.wrap (v + 5 * i + 1 + 1 + 1 + 1) = v + 5 * i + 1 + 1 + 1 + 1 := i64_lt (by omega) (by omega)
    have e5 : IntKind.i64.wrap (v + 5 * i + 1 + 1 + 1 + 1 + 1) = v + 5 * i + 1 + 1 + 1 + 1 + 1 := i64_lt (by omega) (by omega)
    rw [dec_t (by rw [List.length_append, hl, List.length_drop]; omega), cond_true, pover_get hi hl, Option.bind_some, e1, e2, e3, e4, e5, pover_set hi hl, pover_get' hl, Option.bind_some, pover_set' hl, pover_get' hl, Option.bind_some, pover_set' hl, pover_get' hl, Option.bind_some, pover_set' hl, pover_get' hl, Option.bind_some, pover_set' hl, og_true (by omega), List.range_succ, List.map_append]
    simp [Int.mul_add, Int.add_assoc]
   ·try dsimp only
    unfold L_laws_markInstrS_l1
    rw [dec_f (by simp), cond_false]
    simp
  rw [h]; rfl
 ·unfold L_laws_heldInstrS
  have h : loopM (fun s_ : Int × Nat => L_laws_heldInstrS_l1 ((List.range xs.length).map fun j : Nat => (v + 5 * (j : Int), v + 5 * (j : Int) + 1, v + 5 * (j : Int) + 1 + 1, v + 5 * (j : Int) + 1 + 1 + 1, v + 5 * (j : Int) + 1 + 1 + 1 + 1)) s_.1 s_.2) 4611686018427387904 (v, 0) = some (.next (v + 5 * xs.length)) := by
   refine loopM_det xs.length (fun i => (v + 5 * i, i)) (by omega) _ (by simp) (fun i hi => ?_) ?_
   ·have hg : ((List.range xs.length).map fun j : Nat => (v + 5 * (j : Int), v + 5 * (j : Int) + 1, v + 5 * (j : Int) + 1 + 1, v + 5 * (j : Int) + 1 + 1 + 1, v + 5 * (j : Int) + 1 + 1 + 1 + 1))[i]? = some (v + 5 * i, v + 5 * i + 1, v + 5 * i + 1 + 1, v + 5 * i + 1 + 1 + 1, v + 5 * i + 1 + 1 + 1 + 1) := by simp [hi]
    try dsimp only
    unfold L_laws_heldInstrS_l1
    have e1 : IntKind.i64.wrap (v + 5 * i + 1) = v + 5 * i + 1 := i64_lt (by omega) (by omega)
    have e2 : IntKind.i64.wrap (v + 5 * i + 1 + 1) = v + 5 * i + 1 + 1 := i64_lt (by omega) (by omega)
    have e3 : IntKind.i64.wrap (v + 5 * i + 1 + 1 + 1) = v + 5 * i + 1 + 1 + 1 := i64_lt (by omega) (by omega)
    have e4 : IntKind.i64.wrap (v + 5 * i + 1 + 1 + 1 + 1) = v + 5 * i + 1 + 1 + 1 + 1 := i64_lt (by omega) (by omega)
    have e5 : IntKind.i64.wrap (v + 5 * i + 1 + 1 + 1 + 1 + 1) = v + 5 * i + 1 + 1 + 1 + 1 + 1 := i64_lt (by omega) (by omega)
    rw [dec_t (by simp; omega), cond_true, hg, Option.bind_some, e1, e2, e3, e4, e5]
    simp only [bne_self_eq_false, cond_false]
    rw [og_true (by omega)]
    simp [Int.mul_add, Int.add_assoc]
   ·try dsimp only
    unfold L_laws_heldInstrS_l1
    rw [dec_f (by simp), cond_false]
  rw [h]; rfl
theorem P_eqProgram (n0 : Int) (n1 : Int) (n2 : Int) (n3 : Int) (s4 : List (Int × Int × Int × Int × Int)) (hs4 : s4.length <= 1073741824) : L_laws_eqProgram n0 n1 n2 n3 s4 n0 n1 n2 n3 s4 = some true := by
 unfold L_laws_eqProgram
 simp only [P_eqInstrS s4 hs4, bne_self_eq_false, cond_false, Option.bind_some, Bool.not_true]
theorem P_markProgram (n0 : Int) (n1 : Int) (n2 : Int) (n3 : Int) (s4 : List (Int × Int × Int × Int × Int)) {v : Int} (hv : 0 <= v ∧ v <= 288230376151711744) (hs4 : s4.length <= 1073741824) :
  ∃ s4', ∃ u : Int, v <= u ∧ u <= v + 5368709120 ∧ L_laws_markProgram n0 n1 n2 n3 s4 v = some (s4', u) ∧ s4'.length = s4.length ∧ L_laws_heldProgram n0 n1 n2 n3 s4' v = some u := by
 obtain ⟨s4', m0, q0, k0⟩ := P_markInstrS s4 (v := v) (by omega) hs4
 refine ⟨s4', v + 5 * s4.length, by omega, by omega, ?_, q0, ?_⟩
 ·unfold L_laws_markProgram
  rw [m0, Option.bind_some, og_true q0]
 ·unfold L_laws_heldProgram
  rw [k0, Option.bind_some, dec_f (by omega), cond_false]
end Go.Proofs.YtbdkmfmhlmnlmaaDoor
namespace Go.Proofs.YtbdkmfmhlmnlmaaDoor
theorem P_free {U : List (List Int)} {n k : Nat} {x : Int} (hx : x < n) (hU : ∀ l ∈ U, ∀ x ∈ l, 0 <= x ∧ x < n) : L_impl_Circuit_compile_1 x (lastU U 0 (List.replicate n (-1))) (k : Int) = some (freeQ U k x) := by
 unfold L_impl_Circuit_compile_1 freeQ
 by_cases h : x < 0
 ·rw [dec_t h, dec_f (show ¬ 0 <= x by omega)]; rfl
 ·rw [dec_f h, dec_t (show 0 <= x by omega), cond_false, getI_gtD (by rw [lastU_len, List.length_replicate]; omega), Option.bind_some, last_later (by omega) hU]; rfl
theorem P_idxF2 {U : List (List Int)} {n k : Nat} {xs : List Int} (hx : ∀ x ∈ xs, x < n) (hl : xs.length <= 1000) (hU : ∀ l ∈ U, ∀ x ∈ l, 0 <= x ∧ x < n) : L_slices_IndexFunc_int_int_for_impl_Circuit_compile_1 xs (lastU U 0 (List.replicate n (-1))) (k : Int) = some (if xs.findIdx (freeQ U k) < xs.length then ((xs.findIdx (freeQ U k) : Nat) : Int) else -1) := by
 unfold L_slices_IndexFunc_int_int_for_impl_Circuit_compile_1
 rw [loopM_idx xs (freeQ U k) (.next ()) (fun i => .out (i : Int)) (by omega) (fun j x h => ?_) ?_]
 ·split <;> rfl
 ·unfold L_slices_IndexFunc_int_int_for_impl_Circuit_compile_1_l1
  rw [dec_f (by omega), cond_false]
 ·have := getN_lt h
  unfold L_slices_IndexFunc_int_int_for_impl_Circuit_compile_1_l1
  rw [dec_t (by omega), cond_true, h, Option.bind_some, P_free (hx _ (List.mem_of_getElem? h)) hU, Option.bind_some, og_true (by omega)]
  cases freeQ U k x <;> rfl
def padH (holds : List Int) : List Int := holds ++ List.replicate (16 - holds.length) (-1)
theorem padH_len {holds : List Int} (h : holds.length <= 16) : (padH holds).length = 16 := by
 unfold padH; rw [List.length_append, List.length_replicate]; omega
theorem pad_idx {U : List (List Int)} {k : Nat} {holds : List Int} : (padH holds).findIdx (freeQ U k) = frR U k holds := by
 have hle := frR_le (U := U) (k := k) (holds := holds)
 unfold padH frR at *
 rw [List.findIdx_append]
 split
 ·rfl
 ·have : (List.replicate (16 - holds.length) (-1 : Int)).findIdx (freeQ U k) = 0 := by
   cases 16 - holds.length with
   | zero => rfl
   | succ m => rw [List.replicate_succ, List.findIdx_cons]; rfl
  omega
theorem pad_set {holds : List Int} {r : Nat} {g : Int} (h1 : r <= holds.length) (h2 : r < 16) : (padH holds).set r g = padH (holdC holds r g) := by
 unfold padH holdC
 by_cases h : r < holds.length
 ·rw [if_pos h, List.set_append_left _ _ h, List.length_set]
 ·have e : r = holds.length := by omega
  subst e
  rw [if_neg h, List.set_append_right _ _ (Nat.le_refl _), Nat.sub_self, List.length_append, List.length_singleton, show 16 - holds.length = (16 - (holds.length + 1)) + 1 by omega, List.replicate_succ, List.set_cons_zero, List.append_assoc]; rfl
section
variable {p i : Int} {gs : List Gt} {outs : List Int}
theorem stC_mono1 {U : List (List Int)} {l : List Int} (k : Nat) : (stC gs U l k).2.1.length <= (stC gs U l (k + 1)).2.1.length := by
 show _ <= (match l[k]? with | some g => stepC gs U (stC gs U l k) k g | none => stC gs U l k).2.1.length
 cases l[k]? with
 | none => exact Nat.le_refl _
 | some g => exact (holdC_len (g := g) frR_le).1
theorem stC_mono {U : List (List Int)} {l : List Int} {k : Nat} : ∀ {m : Nat}, k <= m -> (stC gs U l k).2.1.length <= (stC gs U l m).2.1.length
 | 0, h => by obtain rfl : k = 0 := by omega
              exact Nat.le_refl _
 | m + 1, h => by
  rcases Nat.lt_or_ge m k with h1 | h1
  ·obtain rfl : k = m + 1 := by omega
   exact Nat.le_refl _
  ·exact Nat.le_trans (stC_mono h1) (stC_mono1 m)
def RelC (l : List Int) (k : Nat) (reg : List Int) (m : List (Int × Int)) : Prop := m.length <= k ∧ ∀ x ∈ l.take k, mget m x = some (gtD reg x)
theorem cput_len (es : List (Int × Int)) (k v : Int) : (mput es k v).length <= es.length + 1 := by
 unfold mput mdel
 have := List.length_filter_le (fun e : Int × Int => !(e.1 == k)) es
 simp only [List.length_cons]
 omega
theorem P_kndI (G : GoodC p i gs outs) {reg : List Int} {m : List (Int × Int)} {g : Int} (hg : 0 <= g ∧ g < gs.length) (hm : cmG (gtG gs g) = true -> ∀ y ∈ opG (gtG gs g), mget m y = some (gtD reg y)) : cond ((gtG gs g).1 == 1)
  (some (1, (gtG gs g).2.2.2, 0, 0))
  (cond ((gtG gs g).1 == 2)
   (some (2, 0, 0, 0))
   (cond ((gtG gs g).1 == 3)
    (og (i64R (gtG gs g).2.1) <|
    og (i64R (gtG gs g).2.2.1) <|
    some (3, (mget m (gtG gs g).2.1).getD 0, (mget m (gtG gs g).2.2.1).getD 0, 0))
    (cond ((gtG gs g).1 == 4)
     (og (i64R (gtG gs g).2.1) <|
     some (4, (mget m (gtG gs g).2.1).getD 0, 0, (gtG gs g).2.2.2))
     (cond ((gtG gs g).1 == 5)
      (Option.bind (L_slices_Index_int_int (dl gs) g) fun y43 =>
      some (5, y43, 0, 0))
      (some (0, 0, 0, 0)))))) = some (kndT gs reg g) := by
 have hb := List.all_eq_true.1 G.ga _ (gtG_mem hg)
 have hk := gateB_kind hb
 have hop := fun y => op_in G hg (y := y)
 have hd : (dl gs).length <= gs.length := dlL_len (gs := gs) gs.length
 have hn := G.hn
 unfold kndT
 by_cases h1 : (gtG gs g).1 = 1
 ·rw [beq_iff_eq.2 h1, cond_true, if_pos h1]
 rw [beq_eq_false_iff_ne.2 h1, cond_false, if_neg h1]
 by_cases h2 : (gtG gs g).1 = 2
 ·rw [beq_iff_eq.2 h2, cond_true, if_pos h2]
 rw [beq_eq_false_iff_ne.2 h2, cond_false, if_neg h2]
 by_cases h3 : (gtG gs g).1 = 3
 ·have hc : cmG (gtG gs g) = true := by simp [cmG, h3]
  have a1 := hop (gtG gs g).2.1 (by simp [opG, h3])
  have a2 := hop (gtG gs g).2.2.1 (by simp [opG, h3])
  rw [beq_iff_eq.2 h3, cond_true, if_pos h3, og_true (by unfold i64R; omega), og_true (by unfold i64R; omega), hm hc _ (by simp [opG, h3]), hm hc _ (by simp [opG, h3])]; rfl
 rw [beq_eq_false_iff_ne.2 h3, cond_false, if_neg h3]
 by_cases h4 : (gtG gs g).1 = 4
 ·have hc : cmG (gtG gs g) = true := by simp [cmG, h4]
  have a1 := hop (gtG gs g).2.1 (by simp [opG, h4])
  rw [beq_iff_eq.2 h4, cond_true, if_pos h4, og_true (by unfold i64R; omega), hm hc _ (by simp [opG, h4])]; rfl
 have h5 : (gtG gs g).1 = 5 := by omega
 rw [beq_eq_false_iff_ne.2 h4, cond_false, if_neg h4, beq_iff_eq.2 h5, cond_true, P_Index _ _ (by omega), if_pos (idx_mem.2 (dl_in hg h5))]; rfl
theorem P_icl1 (G : GoodC p i gs outs) {l : List Int} (C : Cl gs l) : ∃ r, loopM (fun s_ : Nat × Int × List Int × (List (Int × Int)) × (List (Int × Int × Int × Int × Int)) => L_impl_Circuit_compile_l1 l gs (lastU (usL gs outs l) 0 (List.replicate gs.length (-1))) (dl gs) s_.1 s_.2.1 s_.2.2.1 s_.2.2.2.1 s_.2.2.2.2) 4611686018427387904 (0, 0, List.replicate 16 (-1), [], []) = some r ∧
  (((stC gs (usL gs outs l) l l.length).2.1.length <= 16 ∧ ∃ m, r = .next ((((stC gs (usL gs outs l) l l.length).2.1.length : Nat) : Int), m, (stC gs (usL gs outs l) l l.length).2.2) ∧ RelC l l.length (stC gs (usL gs outs l) l l.length).1 m) ∨ (16 < (stC gs (usL gs outs l) l l.length).2.1.length ∧ r = .out (0, 0, 0, 0, [], false))) := by
 have h40 := cl_len G C
 obtain ⟨u1, u2, u3⟩ := usL_bd G h40
 have hU := usL_in G (outs := outs) C.2.1
 have hn := G.hn
 refine loopM_post l.length (fun (k : Nat) (s : Nat × Int × List Int × (List (Int × Int)) × (List (Int × Int × Int × Int × Int))) => (stC gs (usL gs outs l) l k).2.1.length <= 16 ∧ ∃ m, s = (k, (((stC gs (usL gs outs l) l k).2.1.length : Nat) : Int), padH (stC gs (usL gs outs l) l k).2.1, m, (stC gs (usL gs outs l) l k).2.2) ∧ RelC l k (stC gs (usL gs outs l) l k).1 m) (F := 4611686018427387904) (by omega) ⟨by simp [stC], [], rfl, by simp, by simp⟩ ?_ ?_
 ·rintro k s hk ⟨h16, m, rfl, m1, m2⟩
  have hx := List.getElem?_eq_getElem hk
  have I := invC G (usL gs outs l) C k (by omega)
  have hg := C.2.1 _ (List.getElem_mem hk)
  have hop := C.2.2 k _ hx
  have hmono := stC_mono (gs := gs) (U := usL gs outs l) (l := l) (show k + 1 <= l.length by omega)
  rw [stC_succ hx] at hmono
  simp only [stC_succ hx]
  generalize stC gs (usL gs outs l) l k = s at I h16 m1 m2 hmono
  generalize stC gs (usL gs outs l) l l.length = fin at hmono
  obtain ⟨reg, holds, code⟩ := s
  obtain ⟨rl, hl, hr, pl, cl, ok⟩ := I
  have es : stepC gs (usL gs outs l) (reg, holds, code) k l[k] = (reg.set l[k].toNat (frR (usL gs outs l) k holds : Int), holdC holds (frR (usL gs outs l) k holds) l[k], code ++ [insT gs reg l[k] (frR (usL gs outs l) k holds)]) := rfl
  rw [es] at hmono ⊢
  dsimp only at rl hl hr pl cl ok h16 m2 hmono ⊢
  have hf : frR (usL gs outs l) k holds <= holds.length := frR_le
  obtain ⟨c1, c2, c3, c4⟩ := holdC_len (g := l[k]) hf
  have hpl := padH_len h16
  have hidx := P_idxF2 (U := usL gs outs l) (n := gs.length) (k := k) (xs := padH holds) (fun x hx => by
   unfold padH at hx
   rcases List.mem_append.1 hx with h | h
   ·exact (hr x h).2
   ·have := (List.mem_replicate.1 h).2; omega) (by omega) hU
  rw [pad_idx, hpl] at hidx
  unfold L_impl_Circuit_compile_l1
  rw [dec_t (by omega), cond_true, hx, Option.bind_some, getI_gtG hg, Option.bind_some, hidx, Option.bind_some]
  by_cases h : frR (usL gs outs l) k holds < 16
  ·have hk1 := P_kndI G (reg := reg) (m := m) hg fun hc y hy => m2 y (hop hc y hy)
   refine .inl ?_
   rw [if_pos h, dec_f (by omega), cond_false, hk1, Option.bind_some]
   dsimp only
   rw [og_true (by omega), getI_gtD (by rw [hpl]; omega), Option.bind_some, og_true ⟨by unfold i64R; omega, by omega, by unfold i64R; omega⟩, og_true (by omega), Int.toNat_natCast, pad_set hf h]
   have e1 : IntKind.i64.wrap ((frR (usL gs outs l) k holds : Int) + 1) = (frR (usL gs outs l) k holds : Int) + 1 := i64_lt (by omega) (by omega)
   have e2 : (if ((holds.length : Nat) : Int) < IntKind.i64.wrap ((frR (usL gs outs l) k holds : Int) + 1) then IntKind.i64.wrap ((frR (usL gs outs l) k holds : Int) + 1) else ((holds.length : Nat) : Int)) = ((holdC holds (frR (usL gs outs l) k holds) l[k]).length : Nat) := by
    rw [e1]; split <;> omega
   rw [e2]
   refine ⟨_, rfl, by omega, _, rfl, ?_, fun x hx' => ?_⟩
   ·have := cput_len m l[k] (frR (usL gs outs l) k holds : Int); omega
   ·rw [List.take_add_one, hx] at hx'
    have hin : 0 <= x ∧ x < gs.length := by
     rcases List.mem_append.1 hx' with h1 | h1
     ·exact C.2.1 x (List.mem_of_mem_take h1)
     ·obtain rfl := List.mem_singleton.1 h1; exact hg
    rw [gtD_set (by rw [rl]; exact hin) (by rw [rl]; exact hg)]
    by_cases e : x = l[k]
    ·rw [if_pos e, e]; exact mget_put_same _ _ _
    ·rw [if_neg e, mget_put_other e]
     rcases List.mem_append.1 hx' with h1 | h1
     ·exact m2 x h1
     ·exact absurd (List.mem_singleton.1 h1) e
  ·refine .inr ⟨_, by rw [if_neg h, dec_t (by omega), cond_true], .inr ⟨by omega, rfl⟩⟩
 ·rintro s ⟨h16, m, rfl, m1, m2⟩
  refine ⟨_, ?_, .inl ⟨h16, m, rfl, m1, m2⟩⟩
  try dsimp only
  unfold L_impl_Circuit_compile_l1
  rw [dec_f (by omega), cond_false]
theorem mapS_succ {α : Type} (f : Nat -> α) (k : Nat) : (List.range (k + 1)).map f = (List.range k).map f ++ [f k] := by rw [List.range_succ, List.map_append]; rfl
def stS (gs : List Gt) (reg : List Int) (n : Nat) : List Ins := (List.range n).map fun t : Nat => (6, gtD reg (gtG gs (gtD (dl gs) (t : Int))).2.1, (t : Int), 0, 0)
def otS (outs reg : List Int) (n : Nat) : List Ins := (List.range n).map fun t : Nat => (7, gtD reg (gtD outs (t : Int)), (t : Int), 0, 0)
theorem gtD_at {l : List Int} {t : Nat} {x : Int} (h : l[t]? = some x) : gtD l (t : Int) = x := by
 rw [gtD, Int.toNat_natCast, List.getD_eq_getElem?_getD, h]; rfl
theorem P_storesS (G : GoodC p i gs outs) {reg : List Int} {code : List Ins} (hl : reg.length = gs.length) (hc : code.length <= 100) : loopM (fun s_ : Nat × (List (Int × Int × Int × Int × Int)) => L_spec_cmCompile_l4 (dl gs) gs reg s_.1 s_.2) 4611686018427387904 (0, code) = some (code ++ stS gs reg (dl gs).length) := by
 have hd : (dl gs).length <= gs.length := dlL_len (gs := gs) gs.length
 have hn := G.hn
 refine loopM_det (dl gs).length (fun t => (t, code ++ stS gs reg t)) (by omega) _ (by simp [stS]) (fun t ht => ?_) ?_
 ·have hx := List.getElem?_eq_getElem ht
  have hb : (code ++ stS gs reg t).length <= 200 := by rw [List.length_append, stS, List.length_map, List.length_range]; omega
  try dsimp only
  unfold L_spec_cmCompile_l4
  rw [dec_t (by omega), cond_true, hx, Option.bind_some, getI_gtG (dl_mem (List.getElem_mem ht)).1, Option.bind_some, getI_gtD (by rw [hl]; exact dlA_in G (List.getElem_mem ht)), Option.bind_some, og_true (by omega), og_true (by omega), List.append_assoc, stS, stS, mapS_succ, gtD_at hx]
 ·try dsimp only
  unfold L_spec_cmCompile_l4
  rw [dec_f (by omega), cond_false]
theorem P_storesI (G : GoodC p i gs outs) {reg : List Int} {m : List (Int × Int)} {code : List Ins} (hm : ∀ d ∈ dl gs, mget m (gtG gs d).2.1 = some (gtD reg (gtG gs d).2.1)) (hc : code.length <= 100) : loopM (fun s_ : Nat × (List (Int × Int × Int × Int × Int)) => L_impl_Circuit_compile_l2 (dl gs) gs m s_.1 s_.2) 4611686018427387904 (0, code) = some (code ++ stS gs reg (dl gs).length) := by
 have hd : (dl gs).length <= gs.length := dlL_len (gs := gs) gs.length
 have hn := G.hn
 refine loopM_det (dl gs).length (fun t => (t, code ++ stS gs reg t)) (by omega) _ (by simp [stS]) (fun t ht => ?_) ?_
 ·have hx := List.getElem?_eq_getElem ht
  have hin := dlA_in G (List.getElem_mem ht)
  have hb : (code ++ stS gs reg t).length <= 200 := by rw [List.length_append, stS, List.length_map, List.length_range]; omega
  try dsimp only
  unfold L_impl_Circuit_compile_l2
  rw [dec_t (by omega), cond_true, hx, Option.bind_some, getI_gtG (dl_mem (List.getElem_mem ht)).1, Option.bind_some, og_true (by unfold i64R; omega), og_true (by omega), og_true (by omega), hm _ (List.getElem_mem ht), List.append_assoc, stS, stS, mapS_succ, gtD_at hx]; rfl
 ·try dsimp only
  unfold L_impl_Circuit_compile_l2
  rw [dec_f (by omega), cond_false]
theorem P_outsS (G : GoodC p i gs outs) {reg : List Int} {code : List Ins} (hl : reg.length = gs.length) (hc : code.length <= 200) : loopM (fun s_ : Nat × (List (Int × Int × Int × Int × Int)) => L_spec_cmCompile_l5 outs reg s_.1 s_.2) 4611686018427387904 (0, code) = some (code ++ otS outs reg outs.length) := by
 have ho := G.ho
 refine loopM_det outs.length (fun t => (t, code ++ otS outs reg t)) (by omega) _ (by simp [otS]) (fun t ht => ?_) ?_
 ·have hx := List.getElem?_eq_getElem ht
  have hb : (code ++ otS outs reg t).length <= 300 := by rw [List.length_append, otS, List.length_map, List.length_range]; omega
  try dsimp only
  unfold L_spec_cmCompile_l5
  rw [dec_t (by omega), cond_true, hx, Option.bind_some, getI_gtD (by rw [hl]; exact G.io _ (List.getElem_mem ht)), Option.bind_some, og_true (by omega), og_true (by omega), List.append_assoc, otS, otS, mapS_succ, gtD_at hx]
 ·try dsimp only
  unfold L_spec_cmCompile_l5
  rw [dec_f (by omega), cond_false]
theorem P_outsI (G : GoodC p i gs outs) {reg : List Int} {m : List (Int × Int)} {code : List Ins} (hm : ∀ k ∈ outs, mget m k = some (gtD reg k)) (hc : code.length <= 200) : loopM (fun s_ : Nat × (List (Int × Int × Int × Int × Int)) => L_impl_Circuit_compile_l3 outs m s_.1 s_.2) 4611686018427387904 (0, code) = some (code ++ otS outs reg outs.length) := by
 have ho := G.ho
 have hn := G.hn
 refine loopM_det outs.length (fun t => (t, code ++ otS outs reg t)) (by omega) _ (by simp [otS]) (fun t ht => ?_) ?_
 ·have hx := List.getElem?_eq_getElem ht
  have hin := G.io _ (List.getElem_mem ht)
  have hb : (code ++ otS outs reg t).length <= 300 := by rw [List.length_append, otS, List.length_map, List.length_range]; omega
  try dsimp only
  unfold L_impl_Circuit_compile_l3
  rw [dec_t (by omega), cond_true, hx, Option.bind_some, og_true (by unfold i64R; omega), og_true (by omega), og_true (by omega), hm _ (List.getElem_mem ht), List.append_assoc, otS, otS, mapS_succ, gtD_at hx]; rfl
 ·try dsimp only
  unfold L_impl_Circuit_compile_l3
  rw [dec_f (by omega), cond_false]
def finC (gs : List Gt) (outs : List Int) : CS := stC gs (usL gs outs (lst gs outs)) (lst gs outs) (lst gs outs).length
def codeC (gs : List Gt) (outs : List Int) : List Ins := ((finC gs outs).2.2 ++ stS gs (finC gs outs).1 (dl gs).length) ++ otS outs (finC gs outs).1 outs.length
theorem P_specCompile (G : GoodC p i gs outs) : L_spec_cmCompile i gs outs = some (i, ((outs.length : Nat) : Int), (((dl gs).length : Nat) : Int), (((finC gs outs).2.1.length : Nat) : Int), codeC gs outs) := by
 have C := (lst_cl G).1
 have h40 := cl_len G C
 have I := invC G (usL gs outs (lst gs outs)) C _ (Nat.le_refl _)
 have hd : (dl gs).length <= gs.length := dlL_len (gs := gs) gs.length
 have hn := G.hn
 have e0 : stC gs (usL gs outs (lst gs outs)) (lst gs outs) (lst gs outs).length = finC gs outs := rfl
 unfold L_spec_cmCompile codeC
 rw [P_specListed G, Option.bind_some, P_specUses G C.2.1 h40, Option.bind_some, P_crDelays G.hn.2, Option.bind_some, P_cnNone (by omega), Option.bind_some, Int.toNat_natCast, P_scl1 G C, Option.bind_some, e0]
 rw [e0] at I
 generalize finC gs outs = s at I
 obtain ⟨reg, holds, code⟩ := s
 obtain ⟨rl, hl, hr, pl, cl, ok⟩ := I
 dsimp only at rl cl ⊢
 rw [P_storesS G rl (by omega), Option.bind_some, P_outsS G rl (by rw [List.length_append, cl, stS, List.length_map, List.length_range]; omega), Option.bind_some]
theorem P_implCompile (G : GoodC p i gs outs) : L_impl_Circuit_compile i gs outs = some (if (finC gs outs).2.1.length <= 16 then (i, ((outs.length : Nat) : Int), (((dl gs).length : Nat) : Int), (((finC gs outs).2.1.length : Nat) : Int), codeC gs outs, true) else (0, 0, 0, 0, [], false)) := by
 obtain ⟨C, ca, cb⟩ := lst_cl G
 have h40 := cl_len G C
 have I := invC G (usL gs outs (lst gs outs)) C _ (Nat.le_refl _)
 have hd : (dl gs).length <= gs.length := dlL_len (gs := gs) gs.length
 have hn := G.hn
 obtain ⟨r, hr, hp⟩ := P_icl1 G C
 unfold L_impl_Circuit_compile
 rw [P_implListed G, Option.bind_some, P_delays G.hn.2, Option.bind_some, P_lastUses G C.2.1 h40, Option.bind_some, P_repeated (by omega), Option.bind_some, show (16 : Int).toNat = 16 from rfl, hr]
 rcases hp with ⟨h16, m, rfl, m1, m2⟩ | ⟨h16, rfl⟩
 ·rw [List.take_length] at m2
  change (finC gs outs).2.1.length <= 16 at h16
  show (Option.bind (loopM _ _ _) _) = _
  rw [P_storesI G (reg := (finC gs outs).1) (fun d hd => m2 _ (ca d hd)) (by have := I.cl; omega), Option.bind_some, P_outsI G (reg := (finC gs outs).1) (fun k hk => m2 k (cb k hk)) (by rw [List.length_append, I.cl, stS, List.length_map, List.length_range]; omega), Option.bind_some, if_pos h16]
  rfl
 ·change 16 < (finC gs outs).2.1.length at h16
  rw [if_neg (by omega)]
  rfl
theorem prg_of (G : GoodC p i gs outs) : prgP p i (outs.length : Nat) ((dl gs).length : Nat) ((finC gs outs).2.1.length : Nat) (codeC gs outs) = decide ((finC gs outs).2.1.length <= 16) := by
 obtain ⟨C, ca, cb⟩ := lst_cl G
 have h40 := cl_len G C
 have I := invC G (usL gs outs (lst gs outs)) C _ (Nat.le_refl _)
 have hd : (dl gs).length <= gs.length := dlL_len (gs := gs) gs.length
 have hn := G.hn
 have ho := G.ho
 have hpl := I.pl
 have hok := I.ok
 have hcl := I.cl
 rw [List.take_length] at hpl
 change ∀ x ∈ lst gs outs, 0 <= gtD (finC gs outs).1 x ∧ gtD (finC gs outs).1 x < (finC gs outs).2.1.length at hpl
 change ∀ e ∈ (finC gs outs).2.2, ∀ H : Int, ((finC gs outs).2.1.length : Nat) <= H -> _ at hok
 change (finC gs outs).2.2.length = _ at hcl
 have hlen : (codeC gs outs).length <= 120 := by
  rw [codeC, List.length_append, List.length_append, stS, otS, List.length_map, List.length_map, List.length_range, List.length_range]; omega
 by_cases h : (finC gs outs).2.1.length <= 16
 ·rw [dec_t h]
  refine prgP_iff.2 ⟨G.fp, G.hp, G.hi, by omega, by omega, by omega, hlen, fun e he => ?_⟩
  rcases List.mem_append.1 he with he | he
  ·rcases List.mem_append.1 he with he | he
   ·exact hok e he _ (Int.le_refl _)
   ·obtain ⟨t, ht, rfl⟩ := List.mem_map.1 he
    have ht := List.mem_range.1 ht
    have hx := List.getElem?_eq_getElem ht
    have := hpl _ (ca _ (List.getElem_mem ht))
    rw [gtD_at hx]
    refine Bool.and_eq_true_iff.2 ⟨inR_true.2 (by dsimp only; omega), ?_⟩
    show (inR (t : Int) 0 (((dl gs).length : Nat) - 1 : Int) && (true && true)) = true
    rw [inR_true.2 (by omega)]; rfl
  ·obtain ⟨t, ht, rfl⟩ := List.mem_map.1 he
   have ht := List.mem_range.1 ht
   have hx := List.getElem?_eq_getElem ht
   have := hpl _ (cb _ (List.getElem_mem ht))
   rw [gtD_at hx]
   refine Bool.and_eq_true_iff.2 ⟨inR_true.2 (by dsimp only; omega), ?_⟩
   show (inR (t : Int) 0 ((outs.length : Nat) - 1 : Int) && (true && true)) = true
   rw [inR_true.2 (by omega)]; rfl
 ·rw [dec_f h]
  cases hp : prgP p i (outs.length : Nat) ((dl gs).length : Nat) ((finC gs outs).2.1.length : Nat) (codeC gs outs)
  ·rfl
  ·have := (prgP_iff.1 hp).hg; omega
abbrev CmpV := Int × Int × Int × Int × List Ins × Bool
def cmpV (p i : Int) (gs : List Gt) (outs : List Int) : CmpV := if circB p i gs outs = true ∧ (finC gs outs).2.1.length <= 16 then (i, ((outs.length : Nat) : Int), (((dl gs).length : Nat) : Int), (((finC gs outs).2.1.length : Nat) : Int), codeC gs outs, true) else (0, 0, 0, 0, [], false)
theorem P_specCmp (h1 : gs.length <= 1073741824) (h2 : outs.length <= 1073741824) : L_spec_CompileCircuit p i gs outs = some (cmpV p i gs outs) := by
 unfold L_spec_CompileCircuit cmpV
 rw [P_crGood (by omega) (by omega), Option.bind_some]
 by_cases h : circB p i gs outs = true
 ·have G := circB_iff.1 h
  have C := (lst_cl G).1
  have h40 := cl_len G C
  have hcl := (invC G (usL gs outs (lst gs outs)) C _ (Nat.le_refl _)).cl
  have hd : (dl gs).length <= gs.length := dlL_len (gs := gs) gs.length
  have hn := G.hn
  have ho := G.ho
  change (finC gs outs).2.2.length = _ at hcl
  have hlen : (codeC gs outs).length <= 120 := by
   rw [codeC, List.length_append, List.length_append, stS, otS, List.length_map, List.length_map, List.length_range, List.length_range]; omega
  rw [h, Bool.not_true, cond_false, P_specCompile G, Option.bind_some]
  dsimp only
  rw [P_cmGood (by omega), Option.bind_some, prg_of G]
  by_cases h16 : (finC gs outs).2.1.length <= 16
  ·rw [dec_t h16, if_pos ⟨rfl, h16⟩]; rfl
  ·rw [dec_f h16, if_neg (fun e => h16 e.2)]; rfl
 ·rw [if_neg (fun e => h e.1), Bool.eq_false_iff.2 h]; rfl
theorem P_implCmp (h1 : gs.length <= 1073741824) (h2 : outs.length <= 1073741824) : L_impl_CompileCircuit p i gs outs = some (cmpV p i gs outs) := by
 unfold L_impl_CompileCircuit cmpV
 rw [P_isCircuit (by omega) (by omega), Option.bind_some]
 by_cases h : circB p i gs outs = true
 ·have G := circB_iff.1 h
  rw [h, Bool.not_true, cond_false, P_implCompile G, Option.bind_some]
  by_cases h16 : (finC gs outs).2.1.length <= 16
  ·rw [if_pos h16, if_pos ⟨rfl, h16⟩]
  ·rw [if_neg h16, if_neg (fun e => h16 e.2)]
 ·rw [if_neg (fun e => h e.1), Bool.eq_false_iff.2 h]; rfl
theorem cmpV_bd : (cmpV p i gs outs).2.2.2.2.1.length <= 1073741824 := by
 unfold cmpV
 split
 ·rename_i h
  have G := circB_iff.1 h.1
  have := (prgP_iff.1 ((prg_of G).trans (dec_t h.2))).hl
  show (codeC gs outs).length <= _
  omega
 ·simp
end
theorem P_lawCmp {p i : Int} {gs : List Gt} {outs : List Int} (h1 : gs.length <= 9223372036854775807) (h4 : outs.length <= 9223372036854775807) : L_laws_FnExactCompileCircuit p i gs outs = some true := by
 unfold L_laws_FnExactCompileCircuit
 rw [P_szCircuit i gs outs (by omega) h1 h4, Option.bind_some]
 by_cases e0 : (1048576 : Int) < ((gs.length + outs.length : Nat) : Int)
 ·rw [show szV 1048576 (gs.length + outs.length) = -1 from if_pos e0]; rfl
 rw [show szV 1048576 (gs.length + outs.length) = 1048576 - ((gs.length + outs.length : Nat) : Int) from if_neg e0, dec_f (by omega), cond_false]
 have h1 : gs.length <= 1073741824 := by omega
 have h4 : outs.length <= 1073741824 := by omega
 have hs := P_specCmp (p := p) (i := i) h1 h4
 have hi := P_implCmp (p := p) (i := i) h1 h4
 have hv := cmpV_bd (p := p) (i := i) (gs := gs) (outs := outs)
 generalize cmpV p i gs outs = v at hs hi hv
 obtain ⟨va, vb, vc, vd, ve, vf⟩ := v
 dsimp only at hv
 obtain ⟨b1, b6, u1, c1, d1, m1, x1, y1⟩ := P_markCircuit i gs outs (v := 1) (by omega) h1 h4
 obtain ⟨e', u2, c2, d2, m2, n2, k2⟩ := P_markProgram va vb vc vd ve (v := 1) (by omega) hv
 simp only [P_toCircuit i gs outs h1 h4, hs, hi, Option.bind_some, P_eqProgram va vb vc vd ve hv, P_eqCircuit i gs outs h1 h4, m1, m2, k2, og_true x1, og_true y1, og_true n2, bne_self_eq_false, Bool.not_true, cond_false, dec_f (show ¬ u1 < 0 by omega), dec_f (show ¬ u2 < 0 by omega)]
end Go.Proofs.YtbdkmfmhlmnlmaaDoor
namespace Go.Proofs.YtbdkmfmhlmnlmaaDoor
open Go.RowKit Go.Deep
theorem compileCircuit_walk (p : Int) (cInputs : Int) (cGates : List (Int × Int × Int × Int)) (A_cGates : Option Addr) (c_cGates : Nat) (l_cGates : List Addr) (cOutputs : List (Int)) (A_cOutputs : Option Addr) (c_cOutputs : Nat) (l_cOutputs : List Addr) (w : World) (_i_p : -9223372036854775808 <= p ∧ p <= 9223372036854775807) (_i_cInputs : -9223372036854775808 <= cInputs ∧ cInputs <= 9223372036854775807) (s_cGates : Sl (fun _ => True) w (.pair .int (.pair .int (.pair .int .int))) A_cGates c_cGates cGates l_cGates) (_i_cGates : Ty.In (.slice (.pair .int (.pair .int (.pair .int .int)))) cGates) (s_cOutputs : Sl (fun _ => True) w .int A_cOutputs c_cOutputs cOutputs l_cOutputs) (_i_cOutputs : Ty.In (.slice .int) cOutputs) (tab : Tab w) :
  Calls Tryd.prog 3 #[.int .i64 p, .agg #[.int .i64 cInputs, .slice A_cGates cGates.length c_cGates, .slice A_cOutputs cOutputs.length c_cOutputs]] w fun e w' => e = .returned (.bool true) ∧ Below w.heap.size w w' := by
 have hl : L_laws_FnExactCompileCircuit p cInputs cGates cOutputs = some true := P_lawCmp (sl_len s_cGates).2 (sl_len s_cOutputs).2
 refine (ok_laws_FnExactCompileCircuit hl w (fun _ => True) [.int .i64 p, .agg #[.int .i64 cInputs, .slice A_cGates cGates.length c_cGates, .slice A_cOutputs cOutputs.length c_cOutputs]] (fun w' hb => tab.below hb) ⟨_, _, rfl, rfl, ⟨_, _, rfl, ⟨_, rfl, ⟨_, _, rfl, rfl, ⟨_, _, rfl, ⟨A_cGates, c_cGates, l_cGates, rfl, s_cGates⟩, ⟨_, _, rfl, ⟨A_cOutputs, c_cOutputs, l_cOutputs, rfl, s_cOutputs⟩, rfl⟩⟩⟩⟩, rfl⟩⟩).mono ?_
 rintro e w' ⟨u, rfl, hb, us, ls, h1, _, rfl⟩
 obtain ⟨u1, us1, rfl, h2, _, rfl, rfl⟩ := h1
 obtain rfl : u1 = .bool true := h2
 exact ⟨rfl, hb⟩
end Go.Proofs.YtbdkmfmhlmnlmaaDoor
