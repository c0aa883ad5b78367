/- Which circuits are good, and in which order their gates are made: what the partial functions come to; no condition. -/
import Derived.Test.YthjdknddcceigaaDoorB2
import Derived.Test.YthjdknddcceigaaDoorBaseP
namespace Go.Proofs.YthjdknddcceigaaDoor

theorem loopM_find {ρ : Type} {body : Nat → Option (Ctl Nat ρ)} (n : Nat) (q : Nat → Bool) (nn : ρ) (g : Nat → ρ) (hn : n < 4611686018427387904) (hs : ∀ i, i < n → body i = some (if q i then .out (g i) else .next (i + 1))) (he : body n = some (.out nn)) :
    loopM body 4611686018427387904 0 = some (match (List.range n).find? q with | some i => g i | none => nn) := by
  refine loopM_eq n (fun i s => s = i ∧ ∀ j, j < i → q j = false) hn _ ⟨rfl, fun j h => by omega⟩ ?_ ?_
  · rintro i s hi ⟨hsi, hq⟩
    subst s
    rw [hs i hi]
    cases hc : q i
    · refine .inl ⟨i + 1, rfl, rfl, fun j hj => ?_⟩
      rcases Nat.lt_or_ge j i with h | h
      · exact hq j h
      · obtain rfl : j = i := by omega
        exact hc
    · refine .inr ?_
      have : (List.range n).find? q = some i := List.find?_range_eq_some.2 ⟨hc, List.mem_range.2 hi, fun j hj => by rw [hq j hj]; rfl⟩
      rw [this]; rfl
  · rintro s ⟨hsi, hq⟩
    subst s
    have : (List.range n).find? q = none := List.find?_range_eq_none.2 fun j hj => by rw [hq j hj]; rfl
    rw [this, he]

abbrev Gt := Int × Int × Int × Int
def opG (e : Gt) : List Int := if e.1 = 3 then [e.2.1, e.2.2.1] else if e.1 = 4 ∨ e.1 = 5 then [e.2.1] else []
def cmG (e : Gt) : Bool := e.1 == 3 || e.1 == 4
def gateB (p n i : Int) (e : Gt) : Bool :=
  (opG e).all (fun x => inR x 0 (n - 1)) && ((e.1 == 3 || e.2.2.1 == 0) &&
  (if e.1 = 1 then inR e.2.2.2 0 (i - 1) && e.2.1 == 0 else if e.1 = 2 then e.2.2.2 == 0 && e.2.1 == 0 else if e.1 = 3 ∨ e.1 = 5 then e.2.2.2 == 0 else if e.1 = 4 then inR e.2.2.2 0 (p - 1) else false))
theorem P_crOperands (e : Gt) : L_spec_crOperands e.1 e.2.1 e.2.2.1 e.2.2.2 = some (opG e) := by
  unfold L_spec_crOperands opG
  by_cases h3 : e.1 = 3
  · simp [h3]
  by_cases h4 : e.1 = 4
  · simp [h4]
  by_cases h5 : e.1 = 5
  · simp [h5]
  have b3 := beq_eq_false_iff_ne.2 h3
  have b4 := beq_eq_false_iff_ne.2 h4
  have b5 := beq_eq_false_iff_ne.2 h5
  simp [b3, b4, b5, h3, h4, h5]
theorem P_operands (e : Gt) : L_impl_Gate_operands e.1 e.2.1 e.2.2.1 e.2.2.2 = some (opG e) := P_crOperands e
theorem P_crCombines (e : Gt) : L_spec_crCombines e.1 e.2.1 e.2.2.1 e.2.2.2 = some (cmG e) := by
  unfold L_spec_crCombines cmG
  cases e.1 == 3 <;> rfl
theorem P_needs (e : Gt) : L_impl_Gate_needs e.1 e.2.1 e.2.2.1 e.2.2.2 = some (if cmG e then opG e else []) := by
  unfold L_impl_Gate_needs cmG
  rw [P_operands]
  cases e.1 == 3 <;> cases e.1 == 4 <;> rfl
theorem opG_len (e : Gt) : (opG e).length ≤ 2 := by
  unfold opG; split
  · simp
  split <;> simp
section
variable {p i n : Int} {gs : List Gt} {outs : List Int}
theorem P_crGate (hp : 2 ≤ p ∧ p ≤ 97) (hi : 0 ≤ i ∧ i ≤ 8) (hn : 1 ≤ n ∧ n ≤ 40) (e : Gt) : L_spec_crGate p e.1 e.2.1 e.2.2.1 e.2.2.2 i n = some (gateB p n i e) := by
  have ho := opG_len e
  unfold L_spec_crGate gateB
  rw [P_crOperands, Option.bind_some, i64_lt (n := n - 1) (by omega) (by omega), P_l1All _ _ _ (by omega), Option.bind_some, i64_lt (n := i - 1) (by omega) (by omega), i64_lt (n := p - 1) (by omega) (by omega), P_l1In, P_l1In]
  generalize (opG e).all (fun x => inR x 0 (n - 1)) = ok
  obtain ⟨e1, e2, e3, e4⟩ := e
  dsimp only
  cases ok
  · rfl
  by_cases h3 : e1 = 3
  · subst h3; cases e4 == 0 <;> rfl
  have b3 := beq_eq_false_iff_ne.2 h3
  have n3 : (e1 != 3) = true := bne_iff_ne.2 h3
  cases hB : e3 == 0
  · have : (e3 != 0) = true := by simp [bne, hB]
    simp [n3, b3, this]
  have hB' : (e3 != 0) = false := by simp [bne, hB]
  by_cases h1 : e1 = 1
  · subst h1; cases inR e4 0 (i - 1) <;> cases e2 == 0 <;> simp [hB']
  by_cases h2 : e1 = 2
  · subst h2; cases e4 == 0 <;> cases e2 == 0 <;> simp [hB']
  by_cases h5 : e1 = 5
  · subst h5; cases e4 == 0 <;> simp [hB']
  by_cases h4 : e1 = 4
  · subst h4; cases inR e4 0 (p - 1) <;> simp [hB']
  have b1 := beq_eq_false_iff_ne.2 h1
  have b2 := beq_eq_false_iff_ne.2 h2
  have b4 := beq_eq_false_iff_ne.2 h4
  have b5 := beq_eq_false_iff_ne.2 h5
  simp [n3, b1, b2, b3, b4, b5, h1, h2, h3, h4, h5, hB']
theorem P_isGate (hp : 2 ≤ p ∧ p ≤ 97) (hi : 0 ≤ i ∧ i ≤ 8) (hn : 1 ≤ gs.length ∧ gs.length ≤ 40) (e : Gt) : L_impl_Circuit_isGate i gs outs p e.1 e.2.1 e.2.2.1 e.2.2.2 = some (gateB p gs.length i e) := by
  have ho := opG_len e
  unfold L_impl_Circuit_isGate gateB
  rw [P_operands, Option.bind_some, P_areBelow _ _ (by omega) (by omega), Option.bind_some, i64_lt (n := i - 1) (by omega) (by omega), P_within, P_isElement]
  generalize (opG e).all (fun x => inR x 0 ((gs.length : Nat) - 1)) = ok
  obtain ⟨e1, e2, e3, e4⟩ := e
  dsimp only
  cases ok
  · rfl
  by_cases h3 : e1 = 3
  · subst h3; cases e4 == 0 <;> rfl
  have b3 := beq_eq_false_iff_ne.2 h3
  by_cases h1 : e1 = 1
  · subst h1; cases inR e4 0 (i - 1) <;> cases e2 == 0 <;> cases e3 == 0 <;> simp
  by_cases h2 : e1 = 2
  · subst h2
    have : ([2, e2, e3, e4] == ([2, 0, 0, 0] : List Int)) = (e3 == 0 && (e4 == 0 && e2 == 0)) := by
      have h0 : ([2, e2, e3, e4] == ([2, 0, 0, 0] : List Int)) = ((2 : Int) == 2 && (e2 == 0 && (e3 == 0 && (e4 == 0 && true)))) := rfl
      rw [h0]
      cases e2 == 0 <;> cases e3 == 0 <;> cases e4 == 0 <;> rfl
    simp [this]
  by_cases h5 : e1 = 5
  · subst h5; cases e3 == 0 <;> cases e4 == 0 <;> simp
  by_cases h4 : e1 = 4
  · subst h4; cases e3 == 0 <;> cases inR e4 0 (p - 1) <;> simp
  have b1 := beq_eq_false_iff_ne.2 h1
  have b2 := beq_eq_false_iff_ne.2 h2
  have b4 := beq_eq_false_iff_ne.2 h4
  have b5 := beq_eq_false_iff_ne.2 h5
  simp [b1, b2, b3, b4, b5, h1, h2, h3, h4, h5]

def okG (gs : List Gt) : Prop := ∀ e ∈ gs, ∀ x ∈ opG e, 0 ≤ x ∧ x < gs.length
/-- Is the gate's turn: it is not made, and what it needs is? -/
def rdy (gs : List Gt) (dn : List Bool) (k : Nat) : Bool :=
  match gs[k]? with
  | some e => !(dn.getD k true) && (opG e).all fun x => dn.getD x.toNat false
  | none => false
def nxt (gs : List Gt) (dn : List Bool) : Option Nat := (List.range gs.length).find? (rdy gs dn)
def enc : Option Nat → Int
  | some j => j
  | none => -1
def run (gs : List Gt) : Nat → List Bool → List Int × List Bool
  | 0, dn => ([], dn)
  | f + 1, dn => match nxt gs dn with
    | none => ([], dn)
    | some j => ((j : Int) :: (run gs f (dn.set j true)).1, (run gs f (dn.set j true)).2)
theorem nxt_some {dn : List Bool} {j : Nat} (h : nxt gs dn = some j) : j < gs.length ∧ rdy gs dn j = true := by
  have := List.find?_range_eq_some.1 h
  exact ⟨List.mem_range.1 this.2.1, this.1⟩
theorem rdy_dn {dn : List Bool} {j : Nat} (h : rdy gs dn j = true) (hl : dn.length = gs.length) : dn[j]? = some false := by
  unfold rdy at h
  split at h
  · simp only [Bool.and_eq_true, Bool.not_eq_true'] at h
    have := h.1
    rw [List.getD_eq_getElem?_getD] at this
    cases hd : dn[j]? with
    | none => rw [hd] at this; cases this
    | some b => rw [hd] at this; simp at this; rw [this]
  · cases h
theorem set_count {dn : List Bool} {j : Nat} (h : dn[j]? = some false) : (dn.set j true).count false + 1 = dn.count false := by
  obtain ⟨hj, he⟩ := List.getElem?_eq_some_iff.1 h
  rw [List.count_set hj, he]
  have := List.count_pos_iff.2 (he ▸ List.getElem_mem hj)
  simp; omega
theorem run_count : ∀ (m : Nat) (dn : List Bool), dn.length = gs.length → dn.count false ≤ m → (run gs m dn).1.length + (run gs m dn).2.count false = dn.count false
  | 0, dn, _, _ => by simp [run]
  | m + 1, dn, hl, hm => by
    unfold run
    cases hx : nxt gs dn with
    | none => simp
    | some j =>
      obtain ⟨h1, h2⟩ := nxt_some hx
      have hc := set_count (rdy_dn h2 hl)
      have := run_count m (dn.set j true) (by simp [hl]) (by omega)
      simp only [List.length_cons]
      omega
theorem run_len {m : Nat} {dn : List Bool} (hl : dn.length = gs.length) (hm : dn.count false ≤ m) : (run gs m dn).1.length ≤ gs.length := by
  have h1 := run_count m dn hl hm
  have h2 : dn.count false ≤ dn.length := List.count_le_length
  omega
theorem P_crOrder_l4 {ys : List Int} {dn : List Bool} (hy : ∀ x ∈ ys, 0 ≤ x ∧ x < dn.length) (hl : ys.length ≤ 2) : loopM (fun s_ : Bool × Nat => L_spec_crOrder_l4 ys dn s_.1 s_.2) 4611686018427387904 (true, 0) = some (ys.all fun x => dn.getD x.toNat false) := by
  refine loopM_det ys.length (fun k => ((ys.take k).all fun x => dn.getD x.toNat false, k)) (by omega) _ (by simp) (fun k hk => ?_) ?_
  · have hg := List.getElem?_eq_getElem hk
    have hx := hy _ (List.getElem_mem hk)
    try dsimp only
    unfold L_spec_crOrder_l4
    rw [dec_t (by omega), cond_true, hg, Option.bind_some, List.take_add_one, hg, List.all_append]
    have hd := List.getElem?_eq_getElem (l := dn) (i := ys[k].toNat) (by omega)
    cases hb : (ys.take k).all fun x => dn.getD x.toNat false
    · simp [og_true (show k + 1 < 4611686018427387904 by omega)]
    · rw [cond_true, getI_nat hx.1, hd, Option.bind_some, Option.bind_some, og_true (by omega)]
      simp [List.getD_eq_getElem?_getD, hd]
  · try dsimp only
    unfold L_spec_crOrder_l4
    rw [dec_f (by omega), cond_false, List.take_length]
theorem P_crOrder_l3 {dn : List Bool} (hg : okG gs) (hl : dn.length = gs.length) (hn : gs.length ≤ 40) : loopM (fun s_ : Int × Nat => L_spec_crOrder_l3 gs dn s_.1 s_.2) 4611686018427387904 (-1, 0) = some (enc (nxt gs dn)) := by
  refine loopM_det gs.length (fun k => (enc ((List.range k).find? (rdy gs dn)), k)) (by omega) _ rfl (fun k hk => ?_) ?_
  · have he := List.getElem?_eq_getElem hk
    have ho := hg _ (List.getElem_mem hk)
    generalize gs[k] = e at he ho
    have hd := List.getElem?_eq_getElem (l := dn) (i := k) (by omega)
    have hr : rdy gs dn k = (!dn[k] && (opG e).all fun x => dn.getD x.toNat false) := by
      unfold rdy
      rw [he]
      simp [List.getD_eq_getElem?_getD, hd]
    have hf : (List.range (k + 1)).find? (rdy gs dn) = ((List.range k).find? (rdy gs dn)).or (if rdy gs dn k then some k else none) := by
      rw [List.range_succ, List.find?_append]
      congr 1
      rw [List.find?_singleton]
    have hk1 : k + 1 < 4611686018427387904 := by omega
    try dsimp only
    unfold L_spec_crOrder_l3
    rw [dec_t (by omega), cond_true, he, Option.bind_some, hd, Option.bind_some, P_crOperands, Option.bind_some, P_crOrder_l4 (by rw [hl]; exact ho) (opG_len e), Option.bind_some, hf]
    cases hp : (List.range k).find? (rdy gs dn) with
    | some j =>
      have : decide ((0 : Int) ≤ enc (some j)) = true := decide_eq_true (by simp [enc])
      cases dn[k] <;> simp [this, og_true hk1]
    | none =>
      have : decide ((0 : Int) ≤ enc none) = false := decide_eq_false (by simp [enc])
      rw [this, Option.none_or, hr]
      cases dn[k]
      · cases (opG e).all fun x => dn.getD x.toNat false <;> simp [og_true hk1, enc]
      · simp [og_true hk1, enc]
  · try dsimp only
    unfold L_spec_crOrder_l3
    rw [dec_f (by omega), cond_false]; rfl
theorem loopM_nextC {α β : Type} {body : α → Option (Ctl α β)} {F : Nat} {s s' : α} (h : body s = some (.next s')) : loopM body (F + 1) s = loopM body F s' := by simp only [loopM, h, Option.bind_some, Ctl.then]
theorem loopM_outC {α β : Type} {body : α → Option (Ctl α β)} {F : Nat} {s : α} {r : β} (h : body s = some (.out r)) : loopM body (F + 1) s = some r := by simp only [loopM, h, Option.bind_some, Ctl.then]
theorem P_crOrder_l2 (hg : okG gs) (hn : gs.length ≤ 40) : ∀ (m : Nat) (dn : List Bool) (out : List Int) (F : Nat), dn.length = gs.length → dn.count false ≤ m → out.length + m ≤ 1000 → m + 1 ≤ F → loopM (fun s_ : List Int × List Bool => L_spec_crOrder_l2 gs s_.1 s_.2) F (out, dn) = some (out ++ (run gs m dn).1)
  | m, dn, out, F, hl, hm, ho, hF => by
    obtain ⟨F, rfl⟩ : ∃ F', F = F' + 1 := ⟨F - 1, by omega⟩
    have hb : L_spec_crOrder_l2 gs out dn = match nxt gs dn with | none => some (Ctl.out out) | some j => some (Ctl.next (out ++ [(j : Int)], dn.set j true)) := by
      unfold L_spec_crOrder_l2
      rw [P_crOrder_l3 hg hl hn, Option.bind_some]
      cases hx : nxt gs dn with
      | none => rw [dec_t (by simp [enc]), cond_true]
      | some j =>
        obtain ⟨h1, h2⟩ := nxt_some hx
        have hd := rdy_dn h2 hl
        rw [dec_f (by simp [enc]), cond_false]
        simp only [enc]
        rw [getI_nat (by omega), Int.toNat_natCast, hd, Option.bind_some, og_true (by omega)]
    cases hx : nxt gs dn with
    | none =>
      rw [hx] at hb
      rw [loopM_outC (r := out) hb]
      cases m <;> simp [run, hx]
    | some j =>
      rw [hx] at hb
      obtain ⟨h1, h2⟩ := nxt_some hx
      have hc := set_count (rdy_dn h2 hl)
      rw [loopM_nextC (s' := (out ++ [(j : Int)], dn.set j true)) hb]
      cases m with
      | zero => omega
      | succ m =>
        rw [P_crOrder_l2 hg hn m (dn.set j true) (out ++ [(j : Int)]) F (by simp [hl]) (by omega) (by simp; omega) (by omega)]
        simp [run, hx]
def dn0 (gs : List Gt) : List Bool := gs.map fun e => !cmG e
/-- The order in which the gates are made, and which are made in the end. -/
def ordR (gs : List Gt) : List Int × List Bool := run gs gs.length (dn0 gs)
theorem P_crOrder (hg : okG gs) (hn : gs.length ≤ 40) : L_spec_crOrder i gs outs = some (ordR gs).1 := by
  unfold L_spec_crOrder
  rw [og_true (by omega)]
  have h : loopM (fun s_ : Nat × List Bool => L_spec_crOrder_l1 gs s_.1 s_.2) 4611686018427387904 (0, List.replicate gs.length (false : Bool)) = some (dn0 gs) := by
    have hl : (dn0 gs).length = gs.length := by simp [dn0]
    refine loopM_det gs.length (fun k => (k, (dn0 gs).take k ++ List.replicate ((dn0 gs).length - k) false)) (by omega) _ (by simp [hl]) (fun k hk => ?_) ?_
    · have hx := List.getElem?_eq_getElem hk
      have hd : (dn0 gs)[k]? = some (!cmG gs[k]) := by simp [dn0, hk]
      try dsimp only
      unfold L_spec_crOrder_l1
      rw [dec_t (by omega), cond_true, hx, Option.bind_some, P_crCombines, Option.bind_some, pfill_get (by omega), Option.bind_some, og_true (by omega), pfill_set hd]
    · try dsimp only
      unfold L_spec_crOrder_l1
      rw [dec_f (by omega), cond_false, hl]
      simp [List.take_of_length_le, hl]
  have hc : (dn0 gs).count false ≤ gs.length := Nat.le_trans List.count_le_length (by simp [dn0])
  rw [h, Option.bind_some, P_crOrder_l2 hg hn gs.length (dn0 gs) [] _ (by simp [dn0]) hc (by simp; omega) (by omega)]
  rfl
def allT (dn : List Bool) : Bool := dn.all id
def circB (p i : Int) (gs : List Gt) (outs : List Int) : Bool :=
  isF p && (inR i 0 8 && (inR gs.length 1 40 && (decide (outs.length ≤ 8) && ((outs.all fun x => inR x 0 ((gs.length : Nat) - 1)) && (gs.all (gateB p gs.length i) && allT (ordR gs).2)))))
theorem count_allT {dn : List Bool} : dn.count false = 0 ↔ allT dn = true := by
  rw [List.count_eq_zero]
  unfold allT
  rw [List.all_eq_true]
  constructor
  · intro h b hb
    cases b
    · exact absurd hb h
    · rfl
  · intro h hf
    have := h _ hf
    cases this
theorem okG_of (h : gs.all (gateB p gs.length i) = true) : okG gs := fun e he x hx => by
  have := List.all_eq_true.1 h e he
  simp only [gateB, Bool.and_eq_true, List.all_eq_true, inR_true] at this
  have := this.1 x hx
  omega
theorem combine_count : ∀ k, k ≤ gs.length → ((gs.take k).map fun e => !cmG e).count false = (gs.take k).countP cmG := by
  intro k _
  rw [List.count_eq_countP, List.countP_map]
  congr 1
  funext e
  cases h : cmG e <;> simp [h]
theorem P_crGood (hl : gs.length ≤ 1099511627776) (ho : outs.length ≤ 1099511627776) : L_spec_crGood p i gs outs = some (circB p i gs outs) := by
  unfold L_spec_crGood circB
  simp only [P_fdGood, P_l1In, Option.bind_some]
  cases hp : isF p
  · rfl
  cases hi : inR i 0 8
  · rfl
  cases hn : inR gs.length 1 40
  · rfl
  have hn' := inR_true.1 hn
  by_cases hs : 8 < outs.length
  · simp only [Bool.not_true, cond_false, Option.bind_some, dec_t (show (8 : Int) < ((outs.length : Nat) : Int) by omega), cond_true, dec_f (show ¬ outs.length ≤ 8 by omega), Bool.and_false, Bool.false_and]
  rw [i64_lt (by omega) (by omega), P_l1All _ _ _ (by omega)]
  simp only [Bool.not_true, cond_false, Option.bind_some, dec_f (show ¬ (8 : Int) < ((outs.length : Nat) : Int) by omega), dec_t (show outs.length ≤ 8 by omega), Bool.true_and]
  cases hio : outs.all fun x => inR x 0 ((gs.length : Nat) - 1)
  · rfl
  simp only [Bool.not_true, cond_false, Bool.true_and]
  have hF := isF_bd hp
  have hI := inR_true.1 hi
  have key : ∃ r, loopM (fun s_ : Nat × Nat => L_spec_crGood_l1 gs p i s_.1 s_.2) 4611686018427387904 (0, 0) = some r ∧ ((gs.all (gateB p gs.length i) = true ∧ r = Ctl.next (gs.countP cmG)) ∨ (gs.all (gateB p gs.length i) = false ∧ r = Ctl.out false)) := by
    refine loopM_post (Post := fun r => (gs.all (gateB p gs.length i) = true ∧ r = Ctl.next (gs.countP cmG)) ∨ (gs.all (gateB p gs.length i) = false ∧ r = Ctl.out false)) gs.length (fun k s => s.2 = k ∧ s.1 = (gs.take k).countP cmG ∧ (gs.take k).all (gateB p gs.length i) = true) (by omega) ⟨rfl, by simp, by simp⟩ ?_ ?_
    · rintro k ⟨c, k'⟩ hk ⟨h1, h2, h3⟩
      dsimp only at h1 h2 h3 ⊢
      subst k' c
      have hx := List.getElem?_eq_getElem hk
      have hcl : (gs.take k).countP cmG ≤ k := Nat.le_trans List.countP_le_length (by rw [List.length_take]; omega)
      unfold L_spec_crGood_l1
      rw [dec_t (by omega), cond_true, hx, Option.bind_some, P_crGate hF hI (by omega), Option.bind_some]
      cases hgb : gateB p gs.length i gs[k]
      · refine .inr ⟨Ctl.out false, rfl, .inr ⟨?_, rfl⟩⟩
        rw [Bool.eq_false_iff]
        intro ha
        rw [List.all_eq_true.1 ha _ (List.getElem_mem hk)] at hgb
        cases hgb
      · refine .inl ⟨((gs.take (k + 1)).countP cmG, k + 1), ?_, rfl, rfl, ?_⟩
        · rw [Bool.not_true, cond_false, P_crCombines, Option.bind_some, List.take_add_one, hx, List.countP_append]
          cases hc : cmG gs[k]
          · simp [seqC, Ctl.then, og_true (show k + 1 < 4611686018427387904 by omega), hc]
          · have h4 : (gs.take k).countP cmG + 1 < 4611686018427387904 := by omega
            simp [seqC, Ctl.then, og_true (show k + 1 < 4611686018427387904 by omega), og_true h4, hc]
        · rw [List.take_add_one, hx, List.all_append, h3]; simp [hgb]
    · rintro ⟨c, k'⟩ ⟨h1, h2, h3⟩
      dsimp only at h1 h2 h3 ⊢
      subst k' c
      rw [List.take_length] at h3 ⊢
      refine ⟨_, ?_, .inl ⟨h3, rfl⟩⟩
      unfold L_spec_crGood_l1
      rw [dec_f (by omega), cond_false]
  obtain ⟨r, hr, ⟨h1, rfl⟩ | ⟨h1, rfl⟩⟩ := key
  · rw [hr, h1, Bool.true_and]
    have hg := okG_of h1
    simp only [seqC, Option.bind_some, Ctl.then]
    rw [P_crOrder hg (by omega), Option.bind_some]
    congr 1
    have hc := run_count (gs := gs) gs.length (dn0 gs) (by simp [dn0]) (Nat.le_trans List.count_le_length (by simp [dn0]))
    have h0 := combine_count (gs := gs) gs.length (Nat.le_refl _)
    rw [List.take_length] at h0
    have h0 : (dn0 gs).count false = gs.countP cmG := h0
    rw [h0] at hc
    have hA := count_allT (dn := (ordR gs).2)
    unfold ordR at hA ⊢
    cases hT : allT (run gs gs.length (dn0 gs)).2
    · rw [beq_eq_false_iff_ne]
      intro e
      have : (run gs gs.length (dn0 gs)).2.count false = 0 := by omega
      rw [hA.1 this] at hT; cases hT
    · rw [beq_iff_eq]
      have := hA.2 hT
      omega
  · rw [hr, h1]; rfl
end
end Go.Proofs.YthjdknddcceigaaDoor
