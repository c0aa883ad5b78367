/- Silent gates: what the partial functions come to, and the law; no condition. -/
import Derived.Test.YthjdknddcceigaaDoorFZA
import Derived.Test.YthjdknddcceigaaDoorCirG
namespace Go.Proofs.YthjdknddcceigaaDoor
/-- Does a gate stay silent under these marks? -/
def stays (m : List Bool) (e : Gt) : Bool :=
  if e.1 = 2 then true else if e.1 = 4 then e.2.2.2 == 0 || m.getD e.2.1.toNat false else if e.1 = 3 then m.getD e.2.1.toNat false && m.getD e.2.2.1.toNat false else if e.1 = 5 then m.getD e.2.1.toNat false else false
def Closed (gs : List Gt) (m : List Bool) : Prop := ∀ (k : Nat) (e : Gt), gs[k]? = some e → m.getD k false = true → stays m e = true
def LeM (m m' : List Bool) : Prop := ∀ k : Nat, m.getD k false = true → m'.getD k false = true
theorem stays_mono {m m' : List Bool} {e : Gt} (h : LeM m m') (hs : stays m e = true) : stays m' e = true := by
  unfold stays at hs ⊢
  split
  · rfl
  rename_i h2
  rw [if_neg h2] at hs
  split
  · rename_i h4
    rw [if_pos h4, Bool.or_eq_true] at hs
    rw [Bool.or_eq_true]
    exact hs.imp id fun q => h _ q
  rename_i h4
  rw [if_neg h4] at hs
  split
  · rename_i h3
    rw [if_pos h3, Bool.and_eq_true] at hs
    rw [Bool.and_eq_true]
    exact ⟨h _ hs.1, h _ hs.2⟩
  rename_i h3
  rw [if_neg h3] at hs
  split
  · rename_i h5
    rw [if_pos h5] at hs
    exact h _ hs
  · rename_i h5
    rw [if_neg h5] at hs
    cases hs
theorem getDf_set {m : List Bool} {i k : Nat} : (m.set i false).getD k false = if k = i then false else m.getD k false := by
  simp only [List.getD_eq_getElem?_getD, List.getElem?_set]
  by_cases h : k = i
  · subst h
    rw [if_pos rfl, if_pos rfl]
    split <;> rfl
  · rw [if_neg (fun e => h e.symm), if_neg h]
theorem getI_b {m : List Bool} {x : Int} (h : 0 ≤ x ∧ x < m.length) : getI m x = some (m.getD x.toNat false) := by
  have hx : x.toNat < m.length := by omega
  rw [getI_nat h.1, List.getD_eq_getElem?_getD, List.getElem?_eq_getElem hx]; rfl
theorem getN_b {m : List Bool} {x : Nat} (h : x < m.length) : m[x]? = some (m.getD x false) := by
  rw [List.getD_eq_getElem?_getD, List.getElem?_eq_getElem h]; rfl
theorem set_trues {m : List Bool} {j : Nat} (hj : j < m.length) (h : m.getD j false = true) : (m.set j false).count true + 1 = m.count true := by
  have he : m[j] = true := by
    have := getN_b hj
    rw [h, List.getElem?_eq_getElem hj] at this
    exact Option.some.inj this
  rw [List.count_set hj, he]
  have := List.count_pos_iff.2 (he ▸ List.getElem_mem hj)
  simp; omega
section
variable {p i : Int} {gs : List Gt} {outs : List Int}
/-- The marks are as many as the gates and hold every closed set; no input is marked. -/
structure Marks (gs : List Gt) (m : List Bool) : Prop where
  len : m.length = gs.length
  top : ∀ m', Closed gs m' → m'.length = gs.length → LeM m' m
theorem Marks.drop {m : List Bool} (h : Marks gs m) {j : Nat} {e : Gt} (he : gs[j]? = some e) (hs : stays m e = false) : Marks gs (m.set j false) :=
  ⟨by rw [List.length_set, h.len], fun m' hc hl k hk => by
    have hm := h.top m' hc hl
    rw [getDf_set]
    by_cases hkj : k = j
    · subst hkj
      have := stays_mono hm (hc k e he hk)
      rw [hs] at this; cases this
    · rw [if_neg hkj]; exact hm k hk⟩
theorem LeM.eq {m m' : List Bool} (hl : m.length = m'.length) (h1 : LeM m m') (h2 : LeM m' m) : m = m' := by
  refine List.ext_getElem? fun k => ?_
  rcases Nat.lt_or_ge k m.length with hk | hk
  · rw [getN_b hk, getN_b (by omega)]
    congr 1
    cases h : m.getD k false with
    | true => exact (h1 k h).symm
    | false =>
      cases h' : m'.getD k false with
      | true => rw [← h, h2 k h']
      | false => rfl
  · rw [List.getElem?_eq_none hk, List.getElem?_eq_none (by omega)]
/-- What both sides come to. -/
def Silent (gs : List Gt) (m : List Bool) : Prop := Marks gs m ∧ Closed gs m
theorem Silent.uniq {m m' : List Bool} (h : Silent gs m) (h' : Silent gs m') : m = m' :=
  LeM.eq (by rw [h.1.len, h'.1.len]) (h'.1.top m h.2 h.1.len) (h.1.top m' h'.2 h'.1.len)
theorem ops_of (G : GoodC p i gs outs) {e : Gt} (he : e ∈ gs) : (e.1 = 3 ∨ e.1 = 4 ∨ e.1 = 5 → 0 ≤ e.2.1 ∧ e.2.1 < gs.length) ∧ (e.1 = 3 → 0 ≤ e.2.2.1 ∧ e.2.2.1 < gs.length) := by
  have hb := (gateB_ops (List.all_eq_true.1 G.ga e he)).1
  refine ⟨fun h => hb _ ?_, fun h => hb _ (by simp [opG, h])⟩
  unfold opG
  split
  · simp
  · rw [if_pos (by omega)]; simp
theorem P_stays (G : GoodC p i gs outs) {e : Gt} (he : e ∈ gs) {m : List Bool} (hl : m.length = gs.length) : L_impl_staysSilent e.1 e.2.1 e.2.2.1 e.2.2.2 m = some (stays m e) := by
  obtain ⟨hA, hB⟩ := ops_of G he
  unfold L_impl_staysSilent stays
  by_cases h2 : e.1 = 2
  · simp [h2]
  have b2 := beq_eq_false_iff_ne.2 h2
  by_cases h4 : e.1 = 4
  · rw [getI_b (m := m) (x := e.2.1) (by have := hA (by omega); omega), b2, if_neg h2, if_pos h4, beq_iff_eq.2 h4]
    cases e.2.2.2 == 0 <;> rfl
  have b4 := beq_eq_false_iff_ne.2 h4
  by_cases h3 : e.1 = 3
  · rw [getI_b (m := m) (x := e.2.1) (by have := hA (by omega); omega), getI_b (m := m) (x := e.2.2.1) (by have := hB (by omega); omega), b2, b4, if_neg h2, if_neg h4, if_pos h3, beq_iff_eq.2 h3]
    cases m.getD e.2.1.toNat false <;> rfl
  have b3 := beq_eq_false_iff_ne.2 h3
  by_cases h5 : e.1 = 5
  · rw [getI_b (m := m) (x := e.2.1) (by have := hA (by omega); omega), b2, b4, b3, if_neg h2, if_neg h4, if_neg h3, if_pos h5, beq_iff_eq.2 h5]
    rfl
  have b5 := beq_eq_false_iff_ne.2 h5
  rw [b2, b4, b3, b5, if_neg h2, if_neg h4, if_neg h3, if_neg h5]; rfl
theorem P_silent_l3 (G : GoodC p i gs outs) {m : List Bool} (hl : m.length = gs.length) :
    (∃ (j : Nat) (e : Gt), j < gs.length ∧ gs[j]? = some e ∧ m.getD j false = true ∧ stays m e = false ∧ loopM (fun s_ : Nat => L_impl_Circuit_silent_l3 gs m s_) 4611686018427387904 0 = some (Ctl.out (Ctl.next (m.set j false)))) ∨
    (Closed gs m ∧ loopM (fun s_ : Nat => L_impl_Circuit_silent_l3 gs m s_) 4611686018427387904 0 = some (Ctl.next ())) := by
  have hn := G.hn
  obtain ⟨r, hr, hp⟩ := loopM_post (body := fun s_ : Nat => L_impl_Circuit_silent_l3 gs m s_) (F := 4611686018427387904) (s0 := 0)
    (Post := fun r => (∃ (j : Nat) (e : Gt), j < gs.length ∧ gs[j]? = some e ∧ m.getD j false = true ∧ stays m e = false ∧ r = Ctl.out (Ctl.next (m.set j false))) ∨ (Closed gs m ∧ r = Ctl.next ()))
    gs.length (fun k s => s = k ∧ ∀ j, j < k → ∀ e, gs[j]? = some e → m.getD j false = true → stays m e = true) (by omega) ⟨rfl, fun j hj => by omega⟩
    (by
      rintro k s hk ⟨rfl, hI⟩
      have hx := List.getElem?_eq_getElem hk
      have hm := List.getElem_mem hk
      have hb := getN_b (m := m) (x := s) (by omega)
      unfold L_impl_Circuit_silent_l3
      rw [dec_t (by omega), cond_true, hx, Option.bind_some, hb]
      have hst := P_stays G hm hl
      generalize gs[s] = e at hx hm hst
      have hout : 0 < 1 := by omega
      cases hmk : m.getD s false with
      | false =>
        refine .inl ⟨s + 1, ?_, rfl, fun j hj e' he' hj' => ?_⟩
        · simp only [Option.bind_some, cond_false]
          rw [og_true (by omega)]
        · rcases Nat.lt_or_ge j s with h | h
          · exact hI j h e' he' hj'
          · obtain rfl : j = s := by omega
            rw [hmk] at hj'; cases hj'
      | true =>
        simp only [Option.bind_some, cond_true, hst]
        cases hs : stays m e with
        | false => exact .inr ⟨_, rfl, .inl ⟨s, e, hk, hx, hmk, hs, rfl⟩⟩
        | true =>
          refine .inl ⟨s + 1, ?_, rfl, fun j hj e' he' hj' => ?_⟩
          · simp only [Bool.not_true, cond_false]
            rw [og_true (by omega)]
          · rcases Nat.lt_or_ge j s with h | h
            · exact hI j h e' he' hj'
            · obtain rfl : j = s := by omega
              rw [hx] at he'
              obtain rfl := Option.some.inj he'
              exact hs)
    (by
      rintro s ⟨rfl, hI⟩
      unfold L_impl_Circuit_silent_l3
      rw [dec_f (by omega), cond_false]
      refine ⟨_, rfl, .inr ⟨fun k e he hk => hI k ?_ e he hk, rfl⟩⟩
      exact getN_lt he)
  rcases hp with ⟨j, e, h1, h2, h3, h4, rfl⟩ | ⟨h1, rfl⟩
  · exact .inl ⟨j, e, h1, h2, h3, h4, hr⟩
  · exact .inr ⟨h1, hr⟩
theorem P_silent (G : GoodC p i gs outs) : ∃ m, L_impl_Circuit_silent i gs outs = some m ∧ Silent gs m := by
  have hn := G.hn
  unfold L_impl_Circuit_silent
  rw [og_true (by omega)]
  have h1 : loopM (fun s_ : Nat × List Bool => L_impl_Circuit_silent_l1 gs s_.1 s_.2) 4611686018427387904 (0, List.replicate gs.length (false : Bool)) = some (List.replicate gs.length true) := by
    refine loopM_det gs.length (fun k => (k, (List.replicate gs.length true).take k ++ List.replicate ((List.replicate gs.length true).length - k) false)) (by omega) _ (by simp) (fun k hk => ?_) ?_
    · have hx : (List.replicate gs.length true)[k]? = some true := by simp [List.getElem?_replicate, hk]
      try dsimp only
      unfold L_impl_Circuit_silent_l1
      rw [dec_t (by omega), cond_true, pfill_get (by simpa using hk), Option.bind_some, og_true (by omega), pfill_set hx]
    · try dsimp only
      unfold L_impl_Circuit_silent_l1
      rw [dec_f (by omega), cond_false]
      simp
  rw [h1, Option.bind_some]
  refine loopM_post (Post := Silent gs) gs.length (fun k m => Marks gs m ∧ m.count true + k ≤ gs.length) (by omega) ⟨⟨by simp, fun m' _ hl k hk => ?_⟩, by simp⟩ ?_ ?_
  · have hk' : k < m'.length := by
      rcases Nat.lt_or_ge k m'.length with h | h
      · exact h
      · rw [List.getD_eq_getElem?_getD, List.getElem?_eq_none h] at hk; cases hk
    rw [List.getD_eq_getElem?_getD, List.getElem?_replicate, if_pos (by omega)]; rfl
  · rintro k m hk ⟨hM, hc⟩
    unfold L_impl_Circuit_silent_l2
    rcases P_silent_l3 G hM.len with ⟨j, e, q1, q2, q3, q4, q5⟩ | ⟨q1, q2⟩
    · refine .inl ⟨m.set j false, by rw [q5]; rfl, hM.drop q2 q4, ?_⟩
      have := set_trues (m := m) (by rw [hM.len]; exact q1) q3
      omega
    · exact .inr ⟨m, by rw [q2]; rfl, hM, q1⟩
  · rintro m ⟨hM, hc⟩
    unfold L_impl_Circuit_silent_l2
    rcases P_silent_l3 G hM.len with ⟨j, e, q1, q2, q3, q4, q5⟩ | ⟨q1, q2⟩
    · have := set_trues (m := m) (by rw [hM.len]; exact q1) q3
      omega
    · exact ⟨m, by rw [q2]; rfl, hM, q1⟩
/-- No input is marked. -/
def NoIn (gs : List Gt) (m : List Bool) : Prop := ∀ (k : Nat) (e : Gt), gs[k]? = some e → m.getD k false = true → e.1 ≠ 1
structure Sweep (gs : List Gt) (m0 : List Bool) (k : Nat) (ch : Bool) (m : List Bool) : Prop where
  marks : Marks gs m
  noin : NoIn gs m
  same : ch = false → m = m0 ∧ ∀ j, j < k → ∀ e, gs[j]? = some e → m.getD j false = true → stays m e = true
  less : ch = true → m.count true + 1 ≤ m0.count true
  le : m.count true ≤ m0.count true
theorem P_sweep (G : GoodC p i gs outs) {m0 : List Bool} (hM : Marks gs m0) (hN : NoIn gs m0) :
    ∃ ch m, loopM (fun s_ : Bool × Nat × List Bool => L_spec_opSilent_l3 gs s_.1 s_.2.1 s_.2.2) 4611686018427387904 (false, 0, m0) = some (Ctl.next (ch, m)) ∧ Sweep gs m0 gs.length ch m := by
  have hn := G.hn
  obtain ⟨r, hr, ch, m, rfl, hp⟩ := loopM_post (body := fun s_ : Bool × Nat × List Bool => L_spec_opSilent_l3 gs s_.1 s_.2.1 s_.2.2) (F := 4611686018427387904) (s0 := (false, 0, m0))
    (Post := fun r => ∃ ch m, r = Ctl.next (ch, m) ∧ Sweep gs m0 gs.length ch m)
    gs.length (fun k s => s.2.1 = k ∧ Sweep gs m0 k s.1 s.2.2) (by omega) ⟨rfl, hM, hN, fun _ => ⟨rfl, fun j hj => by omega⟩, fun h => (by cases h), Nat.le_refl _⟩
    (by
      rintro k ⟨ch, k', m⟩ hk ⟨rfl, hS⟩
      dsimp only at hk hS ⊢
      have hx := List.getElem?_eq_getElem hk
      have hm := List.getElem_mem hk
      have hl := hS.marks.len
      have hb := getN_b (m := m) (x := k') (by omega)
      have hops := ops_of G hm
      have hin := hS.noin k' _ hx
      refine .inl ?_
      unfold L_spec_opSilent_l3
      rw [dec_t (by omega), cond_true, hx, Option.bind_some, hb]
      generalize gs[k'] = e at hx hm hops hin
      have keep : (m.getD k' false = true → stays m e = true) → Sweep gs m0 (k' + 1) ch m := fun hs => ⟨hS.marks, hS.noin, fun hc => ⟨(hS.same hc).1, fun j hj e' he' hj' => by
        rcases Nat.lt_or_ge j k' with h | h
        · exact (hS.same hc).2 j h e' he' hj'
        · obtain rfl : j = k' := by omega
          rw [hx] at he'
          obtain rfl := Option.some.inj he'
          exact hs hj'⟩, hS.less, hS.le⟩
      have drop : m.getD k' false = true → stays m e = false → Sweep gs m0 (k' + 1) true (m.set k' false) := fun h1 h2 => by
        have := set_trues (m := m) (by omega) h1
        have := hS.le
        refine ⟨hS.marks.drop hx h2, fun j e' he' hj' => ?_, fun h => (by cases h), fun _ => by omega, by omega⟩
        rw [getDf_set] at hj'
        by_cases hjk : j = k'
        · rw [if_pos hjk] at hj'; cases hj'
        · rw [if_neg hjk] at hj'; exact hS.noin j e' he' hj'
      cases hmk : m.getD k' false with
      | false =>
        simp only [Option.bind_some, Bool.not_false, cond_true]
        rw [og_true (by omega)]
        exact ⟨_, rfl, rfl, keep (by rw [hmk]; intro h; cases h)⟩
      | true =>
        have hin := hin hmk
        have hk := gateB_kind (List.all_eq_true.1 G.ga e hm)
        simp only [Option.bind_some, Bool.not_true, cond_false]
        by_cases h2 : e.1 = 2
        · rw [beq_iff_eq.2 h2]
          simp only [cond_true, Option.bind_some]
          rw [og_true (by omega)]
          exact ⟨_, rfl, rfl, keep fun _ => by simp [stays, h2]⟩
        have b2 := beq_eq_false_iff_ne.2 h2
        rw [b2, cond_false]
        have hA := getI_b (m := m) (x := e.2.1) (by have := hops.1 (by omega); omega)
        by_cases h4 : e.1 = 4
        · have b3 : (e.1 == 3) = false := beq_eq_false_iff_ne.2 (by omega)
          rw [beq_iff_eq.2 h4, cond_true, Option.bind_some, hA, b3]
          cases hv : e.2.2.2 == 0 with
          | true =>
            simp only [cond_true, Option.bind_some]
            rw [og_true (by omega)]
            exact ⟨_, rfl, rfl, keep fun _ => by simp [stays, h4, hv]⟩
          | false =>
            simp only [cond_false, Option.bind_some]
            cases ha : m.getD e.2.1.toNat false with
            | true =>
              simp only [Bool.not_true, cond_false, Option.bind_some]
              rw [og_true (by omega)]
              exact ⟨_, rfl, rfl, keep fun _ => by simp only [stays, h4, ha]; simp⟩
            | false =>
              simp only [Bool.not_false, cond_true, Option.bind_some]
              rw [og_true (by omega)]
              exact ⟨_, rfl, rfl, drop hmk (by simp only [stays, h4, ha, hv]; rfl)⟩
        have b4 := beq_eq_false_iff_ne.2 h4
        rw [b4, cond_false, Option.bind_some, cond_false, hA, Option.bind_some]
        by_cases h3 : e.1 = 3
        · have hB := getI_b (m := m) (x := e.2.2.1) (by have := hops.2 (by omega); omega)
          rw [beq_iff_eq.2 h3, cond_true, hB]
          cases ha : m.getD e.2.1.toNat false with
          | false =>
            simp only [cond_false, Bool.not_false, cond_true, Option.bind_some]
            rw [og_true (by omega)]
            exact ⟨_, rfl, rfl, drop hmk (by simp only [stays, h3, ha]; rfl)⟩
          | true =>
            simp only [cond_true, Option.bind_some]
            cases hb2 : m.getD e.2.2.1.toNat false with
            | true =>
              simp only [Bool.not_true, cond_false, Option.bind_some]
              rw [og_true (by omega)]
              exact ⟨_, rfl, rfl, keep fun _ => by simp only [stays, h3, ha, hb2]; rfl⟩
            | false =>
              simp only [Bool.not_false, cond_true, Option.bind_some]
              rw [og_true (by omega)]
              exact ⟨_, rfl, rfl, drop hmk (by simp only [stays, h3, ha, hb2]; rfl)⟩
        have b3 := beq_eq_false_iff_ne.2 h3
        have h5 : e.1 = 5 := by omega
        rw [b3, cond_false, Option.bind_some]
        cases ha : m.getD e.2.1.toNat false with
        | true =>
          simp only [Bool.not_true, cond_false, Option.bind_some]
          rw [og_true (by omega)]
          exact ⟨_, rfl, rfl, keep fun _ => by simp only [stays, h5, ha]; rfl⟩
        | false =>
          simp only [Bool.not_false, cond_true, Option.bind_some]
          rw [og_true (by omega)]
          exact ⟨_, rfl, rfl, drop hmk (by simp only [stays, h5, ha]; rfl)⟩)
    (by
      rintro ⟨ch, k', m⟩ ⟨rfl, hS⟩
      dsimp only at hS ⊢
      unfold L_spec_opSilent_l3
      rw [dec_f (by omega), cond_false]
      exact ⟨_, rfl, ch, m, rfl, hS⟩)
  exact ⟨ch, m, hr, hp⟩
theorem P_opSilent (G : GoodC p i gs outs) : ∃ m, L_spec_opSilent i gs outs = some m ∧ Silent gs m := by
  have hn := G.hn
  unfold L_spec_opSilent
  rw [og_true (by omega)]
  have h1 : loopM (fun s_ : Nat × List Bool => L_spec_opSilent_l1 gs s_.1 s_.2) 4611686018427387904 (0, List.replicate gs.length (false : Bool)) = some (gs.map fun e => e.1 != 1) := by
    refine loopM_det gs.length (fun k => (k, (gs.map fun e => e.1 != 1).take k ++ List.replicate ((gs.map fun e => e.1 != 1).length - k) false)) (by omega) _ (by simp) (fun k hk => ?_) ?_
    · have hx := List.getElem?_eq_getElem hk
      have hy : (gs.map fun e => e.1 != 1)[k]? = some (gs[k].1 != 1) := by rw [List.getElem?_map, hx]; rfl
      try dsimp only
      unfold L_spec_opSilent_l1
      rw [dec_t (by omega), cond_true, hx, Option.bind_some, pfill_get (by simpa using hk), Option.bind_some, og_true (by omega), pfill_set hy]
    · try dsimp only
      unfold L_spec_opSilent_l1
      rw [dec_f (by omega), cond_false]
      simp [List.take_of_length_le]
  rw [h1, Option.bind_some]
  have hg : ∀ k e, gs[k]? = some e → (gs.map fun e => e.1 != 1).getD k false = (e.1 != 1) := fun k e he => by rw [List.getD_eq_getElem?_getD, List.getElem?_map, he]; rfl
  have key : ∃ m, loopM (fun s_ : Bool × List Bool => L_spec_opSilent_l2 gs s_.1 s_.2) 4611686018427387904 (true, gs.map fun e => e.1 != 1) = some m ∧ Silent gs m := by
    refine loopM_post (Post := Silent gs) (gs.length + 1) (fun k s => Marks gs s.2 ∧ NoIn gs s.2 ∧ ((s.1 = true ∧ s.2.count true + k ≤ gs.length) ∨ (s.1 = false ∧ Closed gs s.2))) (by omega) ⟨⟨by simp, fun m' hc hl k hk => ?_⟩, fun k e he hk => ?_, .inl ⟨rfl, ?_⟩⟩ ?_ ?_
    · have hk' : k < gs.length := by
        rcases Nat.lt_or_ge k m'.length with h | h
        · omega
        · rw [List.getD_eq_getElem?_getD, List.getElem?_eq_none h] at hk; cases hk
      have hx := List.getElem?_eq_getElem hk'
      rw [hg k _ hx]
      have hs := hc k _ hx hk
      by_cases h1 : gs[k].1 = 1
      · simp [stays, h1] at hs
      · simp [bne, h1]
    · rw [hg k e he] at hk
      simpa [bne] using hk
    · have := List.count_le_length (a := true) (l := gs.map fun e => e.1 != 1)
      simpa using this
    · rintro k ⟨ch, m⟩ hk ⟨hM, hN, hc⟩
      dsimp only at hM hN hc ⊢
      unfold L_spec_opSilent_l2
      rcases hc with ⟨rfl, hc⟩ | ⟨rfl, hc⟩
      · obtain ⟨ch', m', q1, q2⟩ := P_sweep G hM hN
        refine .inl ⟨(ch', m'), by rw [cond_true, q1], q2.marks, q2.noin, ?_⟩
        cases ch' with
        | true => exact .inl ⟨rfl, by have := q2.less rfl; show m'.count true + (k + 1) ≤ gs.length; omega⟩
        | false => exact .inr ⟨rfl, fun k e he hk => (q2.same rfl).2 k (getN_lt he) e he hk⟩
      · exact .inr ⟨m, rfl, hM, hc⟩
    · rintro ⟨ch, m⟩ ⟨hM, hN, hc⟩
      dsimp only at hM hN hc ⊢
      unfold L_spec_opSilent_l2
      rcases hc with ⟨rfl, hc⟩ | ⟨rfl, hc⟩
      · omega
      · exact ⟨m, rfl, hM, hc⟩
  obtain ⟨m, q1, q2⟩ := key
  exact ⟨m, by rw [q1]; rfl, q2⟩
theorem P_fold {m : List Bool} (hl : m.length = gs.length) (hn : gs.length ≤ 40) : ∃ v, loopM (fun s_ : Nat × (List Gt) => L_spec_opFold_l1 m s_.1 s_.2) 4611686018427387904 (0, gs) = some v ∧ v.length = gs.length := by
  refine loopM_post (Post := fun v : List Gt => v.length = gs.length) m.length (fun k s => s.1 = k ∧ s.2.length = gs.length) (by omega) ⟨rfl, rfl⟩ ?_ ?_
  · rintro k ⟨k', v⟩ hk ⟨rfl, hv⟩
    dsimp only at hk hv ⊢
    have hx := List.getElem?_eq_getElem hk
    have hg := List.getElem?_eq_getElem (show k' < v.length by omega)
    unfold L_spec_opFold_l1
    rw [dec_t (by omega), cond_true, hx, Option.bind_some]
    cases m[k']
    · refine .inl ⟨(k' + 1, v), ?_, rfl, hv⟩
      rw [cond_false, Option.bind_some, og_true (by omega)]
    · refine .inl ⟨(k' + 1, v.set k' (2, 0, 0, 0)), ?_, rfl, by simp [hv]⟩
      rw [cond_true, hg, Option.bind_some, Option.bind_some, og_true (by omega)]
  · rintro ⟨k', v⟩ ⟨rfl, hv⟩
    dsimp only at hv ⊢
    unfold L_spec_opFold_l1
    rw [dec_f (by omega), cond_false]
    exact ⟨v, rfl, hv⟩
theorem P_bothFold (h1 : gs.length ≤ 1073741824) (h2 : outs.length ≤ 1073741824) : ∃ v : Int × List Gt × List Int × Bool, L_spec_FoldZeros p i gs outs = some v ∧ L_impl_FoldZeros p i gs outs = some v ∧ v.2.1.length ≤ 40 ∧ v.2.2.1.length ≤ 8 := by
  unfold L_spec_FoldZeros L_impl_FoldZeros L_spec_opFold L_impl_Circuit_foldZeros
  rw [P_crGood (by omega) (by omega), P_isCircuit (by omega) (by omega), Option.bind_some]
  cases hc : circB p i gs outs
  · exact ⟨(0, [], [], false), rfl, rfl, by simp, by simp⟩
  have G := circB_iff.1 hc
  have hn := G.hn; have ho := G.ho
  have hcp : L_spec_opOwn i gs outs = some (i, gs, outs) := by
    unfold L_spec_opOwn
    rw [og_true (by omega), P_l1Own _ (by omega)]; rfl
  have hcp' : L_impl_Circuit_copy i gs outs = some (i, gs, outs) := by
    unfold L_impl_Circuit_copy L_slices_Clone_impl_Gate_impl_Gate
    rw [og_true (by omega), Option.bind_some, P_clone _ (by omega)]; rfl
  obtain ⟨m, s1, s2⟩ := P_opSilent G
  obtain ⟨m', s3, s4⟩ := P_silent G
  obtain rfl := s2.uniq s4
  obtain ⟨v, f1, f2⟩ := P_fold (gs := gs) (m := m) s2.1.len hn.2
  have f3 : loopM (fun s_ : Nat × (List Gt) => L_impl_Circuit_foldZeros_l1 m s_.1 s_.2) 4611686018427387904 (0, gs) = some v := f1
  refine ⟨(i, v, outs, true), ?_, ?_, by dsimp only; omega, ho⟩
  · rw [Bool.not_true, cond_false, hcp, Option.bind_some, s1, Option.bind_some]
    dsimp only
    rw [f1]; rfl
  · rw [Option.bind_some, Bool.not_true, cond_false, hcp', Option.bind_some, s3, Option.bind_some]
    dsimp only
    rw [f3]; rfl
end
/-- The law. -/
theorem P_lawFz {p i : Int} {gs : List Gt} {outs : List Int} (h1 : gs.length ≤ 9223372036854775807) (h2 : outs.length ≤ 9223372036854775807) : L_laws_FnExactFoldZeros p i gs outs = some true := by
  unfold L_laws_FnExactFoldZeros
  rw [P_szCircuit i gs outs (by omega) h1 h2, Option.bind_some]
  by_cases e0 : (1048576 : Int) < ((gs.length + outs.length : Nat) : Int)
  · rw [show szV 1048576 (gs.length + outs.length) = -1 from if_pos e0]; rfl
  rw [show szV 1048576 (gs.length + outs.length) = 1048576 - ((gs.length + outs.length : Nat) : Int) from if_neg e0, dec_f (by omega), cond_false]
  have h1 : gs.length ≤ 1073741824 := by omega
  have h2 : outs.length ≤ 1073741824 := by omega
  obtain ⟨⟨vi, vg, vr, vo⟩, hs, hi, v1, v2⟩ := P_bothFold (p := p) (i := i) h1 h2
  dsimp only at v1 v2
  have v1 : vg.length ≤ 1073741824 := by omega
  have v2 : vr.length ≤ 1073741824 := by omega
  obtain ⟨b1, b2, u1, c1, d1, m1, x1, y1, k1⟩ := P_markCircuit i gs outs (v := 1) (by omega) h1 h2
  obtain ⟨b3, b4, u2, c2, d2, m2, x2, y2, k2⟩ := P_markCircuit vi vg vr (v := 1) (by omega) v1 v2
  simp only [P_toCircuit i gs outs h1 h2, hs, hi, Option.bind_some, P_eqCircuit vi vg vr v1 v2, P_eqCircuit i gs outs h1 h2, m1, m2, k2, og_true x1, og_true y1, og_true x2, og_true y2, bne_self_eq_false, Bool.not_true, cond_false, dec_f (show ¬ u1 < 0 by omega), dec_f (show ¬ u2 < 0 by omega)]
end Go.Proofs.YthjdknddcceigaaDoor
