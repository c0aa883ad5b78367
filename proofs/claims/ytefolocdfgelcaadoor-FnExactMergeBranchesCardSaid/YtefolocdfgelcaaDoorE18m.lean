/- An abstract machine: rows of rows: their rows are gathered under one name; how lists of objects are spelt; no condition. -/
import Derived.Test.YtefolocdfgelcaaDoorE18
namespace Go.Proofs.YtefolocdfgelcaaDoor
open Go.RowKit Go.Deep

/-- The rows that a row of rows leads to are gathered under a new name. -/
theorem weak_rows {S : St} (s : Nat) (o : Oid) (ρ : Nat → Oid) {e1 e : TypeId} {u : Ty} {cs : List AV} {xss : List (List u.D)} {n : Nat} {ob' : Oid → Option Ob} (hfl : u.flat = true) (ho : S.ob o = some (.vec e1 1 n cs)) (hn : n = xss.length)
    (hrow : ∀ k row, xss[k]? = some row → cs[k]? = some (.own (ρ k) u 0 row.length) ∧ ∃ ys, S.ob (ρ k) = some (.arr e u ys) ∧ row.length ≤ ys.length ∧ row = ys.take row.length)
    (hinj : ∀ j k, j < xss.length → k < xss.length → ρ j = ρ k → j = k)
    (h1 : ob' o = some (.vec e1 1 n (hdL ((s, 0), S.gen) u xss))) (h2 : ∀ k, ob' (kid ((s, 0), S.gen) k) = (xss[k]?).map (.arr e u))
    (h3 : ∀ i, i ≠ o → (∀ k, i ≠ kid ((s, 0), S.gen) k) → ob' i = none ∨ (ob' i = S.ob i ∧ ∀ k, k < xss.length → i ≠ ρ k)) : Weak S ⟨S.tm, ob', S.gen + 1⟩ := by
  intro G w0 B N a w hr
  obtain ⟨σ, hm, hf, hB⟩ := hr.ex
  let p : Oid := ((s, 0), S.gen)
  have hfr : ∀ i : Oid, i.2 = S.gen → σ i = none := fun i hi => Goes.fresh hm (by rw [hi]; exact Nat.lt_irrefl _)
  have hobn : ∀ i : Oid, i.2 = S.gen → S.ob i = none := fun i hi => by
    cases h : S.ob i with
    | none => rfl
    | some x => have := hr.obg i (by rw [h]; simp); omega
  have hop : ∀ k, o ≠ kid p k := fun k e => by
    have := hobn o (by rw [e]; rfl)
    rw [ho] at this; cases this
  have hog : o.2 ≠ S.gen := fun e => by have := hobn o e; rw [ho] at this; cases this
  let σ' : Oid → Option Loc := fun i => if i.1.1 = s ∧ i.2 = S.gen ∧ i.1.2 ≠ 0 then (if i.1.2 - 1 < xss.length then σ (ρ (i.1.2 - 1)) else none) else σ i
  have hσk : ∀ k, k < xss.length → σ' (kid p k) = σ (ρ k) := fun k hk => by
    simp only [σ']
    rw [if_pos ⟨rfl, rfl, by simp [kid]⟩]
    simp [kid, hk]
  have hσo : ∀ i, (∀ k, i ≠ kid p k) → σ' i = σ i := fun i hi => by
    simp only [σ']
    rw [if_neg]
    rintro ⟨e1, e2, e3⟩
    refine hi (i.1.2 - 1) ?_
    obtain ⟨⟨i1, i2⟩, i3⟩ := i
    simp only [kid, p] at *
    subst e1 e2
    rw [show i2 - 1 + 1 = i2 by omega]
  have hloc : ∀ i l, σ i = some l → σ' i = some l := fun i l hi => by
    rw [hσo i fun k e => by rw [e, hfr _ rfl] at hi; cases hi]; exact hi
  have hρ : ∀ k, k < xss.length → ∃ ys, S.ob (ρ k) = some (.arr e u ys) := fun k hk => by
    obtain ⟨_, ys, h, _⟩ := hrow k _ (List.getElem?_eq_getElem hk); exact ⟨ys, h⟩
  have hcase : ∀ i, i = o ∨ (∃ k, i = kid p k) ∨ (i ≠ o ∧ ∀ k, i ≠ kid p k) := fun i => by
    by_cases a1 : i = o
    · exact .inl a1
    · by_cases a2 : ∃ k, i = kid p k
      · exact .inr (.inl a2)
      · exact .inr (.inr ⟨a1, fun k e => a2 ⟨k, e⟩⟩)
  -- where each object of the new state was
  have hwas : ∀ i x, ob' i = some x → ∃ i0 x0, S.ob i0 = some x0 ∧ σ' i = σ i0 ∧ ((i = o ∧ i0 = o) ∨ (∃ k, k < xss.length ∧ i = kid p k ∧ i0 = ρ k) ∨ (i0 = i ∧ i ≠ o ∧ (∀ k, i ≠ kid p k) ∧ ob' i = S.ob i ∧ ∀ k, k < xss.length → i ≠ ρ k)) := by
    intro i x hx
    rcases hcase i with rfl | ⟨k, rfl⟩ | ⟨a1, a2⟩
    · exact ⟨i, _, ho, hσo i hop, .inl ⟨rfl, rfl⟩⟩
    · have hk : k < xss.length := by
        rw [h2 k] at hx
        obtain ⟨row, hrow', _⟩ := Option.map_eq_some_iff.1 hx
        exact (List.getElem?_eq_some_iff.1 hrow').1
      obtain ⟨ys, h⟩ := hρ k hk
      exact ⟨ρ k, _, h, hσk k hk, .inr (.inl ⟨k, hk, rfl, rfl⟩)⟩
    · rcases h3 i a1 a2 with h | ⟨h, h'⟩
      · rw [h] at hx; cases hx
      · exact ⟨i, x, by rw [← h]; exact hx, hσo i a2, .inr (.inr ⟨rfl, a1, a2, h, h'⟩)⟩
  have him : ∀ b, imm S.ob σ b → imm ob' σ' b := by
    intro b hb i x c s' hx hs
    obtain ⟨i0, x0, g1, g2, _⟩ := hwas i x hx
    rw [g2] at hs
    exact hb i0 x0 c s' g1 hs
  have hL : Later σ σ' (imm S.ob σ) (imm ob' σ') w w := ⟨hloc, fun b _ hb => him b hb, fun _ _ _ => rfl, Nat.le_refl _⟩
  refine ⟨⟨σ', ⟨hm.below, hm.inv, fun i l hi => ?_, fun i b c s' hi => ?_, fun i b c s' hi => ?_, fun i j b c s' c' s2 x y hi hj e1 e2 => ?_, fun i x l hx hl => ?_⟩, fun t => AV.Rep.later hL _ _ (hf t), hB.trans hL⟩, hr.size, hr.defers, fun i hi => ?_⟩
  · show i.2 < S.gen + 1
    simp only [σ'] at hi
    split at hi
    · omega
    · have : i.2 < S.gen := hm.gen i l hi
      omega
  · simp only [σ'] at hi
    split at hi
    · split at hi
      · exact hm.lt _ b c s' hi
      · cases hi
    · exact hm.lt i b c s' hi
  · simp only [σ'] at hi
    split at hi
    · split at hi
      · exact hm.cap _ b c s' hi
      · cases hi
    · exact hm.cap i b c s' hi
  · obtain ⟨i0, x0, g1, g2, g3⟩ := hwas i x hi
    obtain ⟨j0, y0, k1, k2, k3⟩ := hwas j y hj
    rw [g2] at e1
    rw [k2] at e2
    have e0 := hm.inj i0 j0 b c s' c' s2 x0 y0 g1 k1 e1 e2
    have hoρ : ∀ k, k < xss.length → o ≠ ρ k := fun k hk e => by
      obtain ⟨ys, h⟩ := hρ k hk
      rw [← e, ho] at h; cases h
    rcases g3 with ⟨rfl, rfl⟩ | ⟨k, hk, rfl, rfl⟩ | ⟨rfl, a1, a2, a3, a4⟩ <;> rcases k3 with ⟨rfl, rfl⟩ | ⟨k', hk', rfl, rfl⟩ | ⟨rfl, b1, b2, b3, b4⟩
    · rfl
    · exact absurd e0 (hoρ k' hk')
    · exact e0
    · exact absurd e0.symm (hoρ k hk)
    · rw [hinj k k' hk hk' e0]
    · exact absurd e0.symm (b4 k hk)
    · exact e0
    · exact absurd e0 (a4 k' hk')
    · exact e0
  · replace hx : ob' i = some x := hx
    show x.Rep w0.heap.size σ' (imm ob' σ') w l
    rcases hcase i with rfl | ⟨k, rfl⟩ | ⟨a1, a2⟩
    · rw [h1] at hx
      obtain rfl := Option.some.inj hx
      rw [hσo i hop] at hl
      obtain ⟨vs, p1, p2, p3, p4⟩ := hm.obs i _ l ho hl
      refine ⟨vs, p1, AV.RepL.of_get ?_ fun k c v hc hv => ?_, p3, p4⟩
      · rw [hdL_len, ← hn]
        have := p1.1
        omega
      · rw [hdL_get] at hc
        obtain ⟨row, hk, rfl⟩ := Option.map_eq_some_iff.1 hc
        have hlt := (List.getElem?_eq_some_iff.1 hk).1
        obtain ⟨q1, ys, q2, q3, q4⟩ := hrow k row hk
        obtain ⟨v', hv', hr'⟩ := p2.get q1
        rw [hv] at hv'
        obtain rfl := Option.some.inj hv'
        have hs := hσk k hlt
        rcases hr' with ⟨g, q⟩ | ⟨b, cap, g, q⟩ | ⟨lc, g, q⟩
        · exact .inl ⟨hs.trans g, q⟩
        · exact .inr (.inl ⟨b, cap, hs.trans g, q⟩)
        · exact .inr (.inr ⟨lc, hs.trans g, q⟩)
    · rw [h2 k] at hx
      obtain ⟨row, hk, rfl⟩ := Option.map_eq_some_iff.1 hx
      have hlt := (List.getElem?_eq_some_iff.1 hk).1
      obtain ⟨q1, ys, q2, q3, q4⟩ := hrow k row hk
      rw [hσk k hlt] at hl
      obtain ⟨f1, f2, f3⟩ := hm.obs _ _ l q2 hl
      have hnil : l = .nil → row.length = 0 := by
        intro e0
        subst e0
        rcases f2.2 with ⟨_, h0⟩ | ⟨_, _, _, e1, _⟩
        · omega
        · cases e1
      have := own_take f1 f2 q3 hnil
      rw [← q4] at this
      exact ⟨f1, this, f3⟩
    · rcases h3 i a1 a2 with h | ⟨h, _⟩
      · rw [h] at hx; cases hx
      · rw [hσo i a2] at hl
        exact (hm.obs i x l (by rw [← h]; exact hx) hl).later hL fun _ _ _ _ => rfl
  · show i.2 < S.gen + 1
    rcases hcase i with rfl | ⟨k, rfl⟩ | ⟨a1, a2⟩
    · have := hr.obg i (by rw [ho]; simp)
      omega
    · show S.gen < S.gen + 1; omega
    · rcases h3 i a1 a2 with h | ⟨h, _⟩
      · exact absurd h hi
      · have hi : ob' i ≠ none := hi
        rw [h] at hi
        have := hr.obg i hi
        omega

-- lists of objects, spelt otherwise
section
variable {ol : List (Oid × Option Ob)} {e1 e : TypeId} {u : Ty} {xss : List (List u.D)} {p o : Oid}
theorem pool_ne {i p : Oid} (h : ∀ k, i ≠ kid p k) : ¬ (i.1.1 = p.1.1 ∧ i.2 = p.2 ∧ i.1.2 ≠ 0) := by
  rintro ⟨a, b, c⟩
  refine h (i.1.2 - 1) ?_
  obtain ⟨⟨i1, i2⟩, i3⟩ := i
  simp only [kid] at *
  subst a b
  rw [show i2 - 1 + 1 = i2 by omega]
theorem mkOb_pool (i : Oid) : mkOb ((p, some (.pool e u xss)) :: ol) i = if i.1.1 = p.1.1 ∧ i.2 = p.2 ∧ i.1.2 ≠ 0 then (xss[i.1.2 - 1]?).map (.arr e u) else mkOb ol i := by
  simp only [mkOb]
theorem mkOb_pool_kid (k : Nat) : mkOb ((p, some (.pool e u xss)) :: ol) (kid p k) = (xss[k]?).map (.arr e u) := by
  rw [mkOb_pool, if_pos ⟨rfl, rfl, by simp [kid]⟩]; simp [kid]
theorem mkOb_pool_ne {i : Oid} (h : ∀ k, i ≠ kid p k) : mkOb ((p, some (.pool e u xss)) :: ol) i = mkOb ol i := by
  rw [mkOb_pool, if_neg (pool_ne h)]
theorem mkOb_mat (i : Oid) : mkOb ((o, some (.mat e p u xss)) :: ol) i = if i = o then some (.vec e 1 xss.length (hdL p u xss)) else mkOb ol i := by
  simp only [mkOb]
theorem kid_or (i p : Oid) : (∃ k, i = kid p k) ∨ ∀ k, i ≠ kid p k := by
  by_cases h : ∃ k, i = kid p k
  · exact .inl h
  · exact .inr fun k e => h ⟨k, e⟩
theorem hdL_set {k : Nat} {row row' : List u.D} (hx : xss[k]? = some row) (hl : row'.length = row.length) : hdL p u (xss.set k row') = hdL p u xss := by
  apply List.ext_getElem?
  intro j
  rw [hdL_get, hdL_get, List.getElem?_set]
  by_cases h : k = j
  · subst h
    have hlt := (List.getElem?_eq_some_iff.1 hx).1
    rw [if_pos rfl, if_pos hlt, hx]
    simp [hl]
  · rw [if_neg h]
/-- A row that has been stored into is put back among its rows. -/
theorem ob_row {k : Nat} {row row' : List u.D} (hm : entAt ol o = some (.mat e1 p u xss)) (ho : o.1.2 = 0) (hp : poolAt ol p = some (.pool e u xss)) (hx : xss[k]? = some row) (hl : row'.length = row.length) :
    mkOb ((kid p k, some (.arr e u row')) :: (kid p k, none) :: ol) = mkOb ((o, some (.mat e1 p u (xss.set k row'))) :: (p, some (.pool e u (xss.set k row'))) :: ol) := by
  have hlt := (List.getElem?_eq_some_iff.1 hx).1
  have hmo : mkOb ol o = some (.vec e1 1 xss.length (hdL p u xss)) := by rw [entAt_mk, hm]; rfl
  funext i
  have e0 : mkOb ((kid p k, some (.arr e u row')) :: (kid p k, none) :: ol) i = if i = kid p k then some (.arr e u row') else if i = kid p k then none else mkOb ol i := by simp only [mkOb]
  rw [e0, mkOb_mat]
  by_cases h1 : i = o
  · subst h1
    rw [if_pos rfl, if_neg (fun e => by rw [e] at ho; simp [kid] at ho), if_neg (fun e => by rw [e] at ho; simp [kid] at ho), hmo, hdL_set hx hl, List.length_set]
  · rw [if_neg h1]
    rcases kid_or i p with ⟨j, rfl⟩ | h2
    · rw [mkOb_pool_kid, List.getElem?_set]
      by_cases h3 : k = j
      · subst h3
        rw [if_pos rfl, if_pos rfl, if_pos hlt]; rfl
      · rw [if_neg (fun e => h3 (kid_inj e).symm), if_neg (fun e => h3 (kid_inj e).symm), if_neg h3, poolAt_mk hp]
    · rw [mkOb_pool_ne h2, if_neg (h2 k), if_neg (h2 k)]
theorem xkids : ∀ (l : List (List u.D × Nat)) (ob : Oid → Option Ob) (j : Oid), applyU (l.map fun x => (kid p x.2, some (Ob.arr e u x.1))) ob j = match (l.reverse.find? fun x => kid p x.2 == j) with | some x => some (.arr e u x.1) | none => ob j
  | [], _, _ => rfl
  | x :: l, ob, j => by
    simp only [List.map_cons, applyU, List.foldl_cons]
    have ih := xkids l (upd ob (kid p x.2) (some (.arr e u x.1))) j
    simp only [applyU] at ih
    rw [ih, List.reverse_cons, List.find?_append]
    cases h : l.reverse.find? fun x => kid p x.2 == j with
    | some y => rfl
    | none =>
      simp only [Option.none_or, List.find?_cons, List.find?_nil]
      by_cases hj : kid p x.2 = j
      · subst hj; simp [upd]
      · rw [show (kid p x.2 == j) = false by simpa using hj]
        simp only [upd]
        rw [if_neg (fun e => hj e.symm)]
/-- The rows of a new row of rows stand together. -/
theorem applyU_kids (hp : ∀ k, mkOb ol (kid p k) = none) : applyU (kidsL p e u xss) (mkOb ol) = mkOb ((p, some (.pool e u xss)) :: ol) := by
  funext i
  have hx := xkids (p := p) (e := e) (u := u) xss.zipIdx (mkOb ol) i
  unfold kidsL
  rw [hx]
  rcases kid_or i p with ⟨j, rfl⟩ | h2
  · rw [mkOb_pool_kid]
    cases hf : xss.zipIdx.reverse.find? fun x => kid p x.2 == kid p j with
    | some y =>
      have h1 := List.find?_some hf
      have h2 := List.mem_of_find?_eq_some hf
      simp only [beq_iff_eq] at h1
      have h1 := kid_inj h1
      rw [List.mem_reverse, List.mem_zipIdx_iff_getElem?, h1] at h2
      rw [h2]; rfl
    | none =>
      rw [List.find?_eq_none] at hf
      cases hj : xss[j]? with
      | none => exact hp j
      | some row =>
        have := hf (row, j) (by rw [List.mem_reverse, List.mem_zipIdx_iff_getElem?]; exact hj)
        simp at this
  · rw [mkOb_pool_ne h2]
    cases hf : xss.zipIdx.reverse.find? fun x => kid p x.2 == i with
    | some y =>
      have h1 := List.find?_some hf
      simp only [beq_iff_eq] at h1
      exact absurd h1.symm (h2 _)
    | none => rfl
/-- No name of this count. -/
def noGen (n : Nat) (ol : List (Oid × Option Ob)) : Bool := ol.all fun q => q.1.2 != n
theorem noGen_none : ∀ {ol : List (Oid × Option Ob)} {n : Nat}, noGen n ol = true → ∀ i : Oid, i.2 = n → mkOb ol i = none
  | [], _, _, _, _ => rfl
  | (j, o) :: r, n, h, i, hi => by
    simp only [noGen, List.all_cons, Bool.and_eq_true, bne_iff_ne, ne_eq] at h
    obtain ⟨h1, h2⟩ := h
    have ih := noGen_none (ol := r) h2 i hi
    have hne : i ≠ j := fun e => h1 (by rw [← e]; exact hi)
    cases o with
    | none => simp only [mkOb]; rw [if_neg hne]; exact ih
    | some o =>
      cases o with
      | pool e u xss => rw [mkOb_pool, if_neg (fun h => h1 (by rw [← h.2.1]; exact hi))]; exact ih
      | mat e p u xss => rw [mkOb_mat, if_neg hne]; exact ih
      | _ => simp only [mkOb]; rw [if_neg hne]; exact ih
end
/-- The same for lists: what the rows are called now, and what is given up. -/
theorem weak_rows_ {tl : List (Nat × AV)} {ol : List (Oid × Option Ob)} {g : Nat} (s : Nat) (o : Oid) (ρ : Nat → Oid) {e1 e : TypeId} {u : Ty} {cs : List AV} {xss : List (List u.D)} {n : Nat} (kill : List (Oid × Option Ob)) (hfl : u.flat = true) (ho : mkOb ol o = some (.vec e1 1 n cs)) (hn : n = xss.length)
    (hrow : ∀ k row, xss[k]? = some row → cs[k]? = some (.own (ρ k) u 0 row.length) ∧ ∃ ys, mkOb ol (ρ k) = some (.arr e u ys) ∧ row.length ≤ ys.length ∧ row = ys.take row.length)
    (hinj : ∀ j k, j < xss.length → k < xss.length → ρ j = ρ k → j = k) (hog : (o.2 == g) = false) (hfr : noGen g (kill ++ ol) = true)
    (hk : ∀ i, i ≠ o → mkOb (kill ++ ol) i = none ∨ (mkOb (kill ++ ol) i = mkOb ol i ∧ ∀ k, k < xss.length → i ≠ ρ k)) :
    Weak ⟨mkTm tl, mkOb ol, g⟩ ⟨mkTm tl, mkOb ((o, some (.mat e1 ((s, 0), g) u xss)) :: (((s, 0), g), some (.pool e u xss)) :: (kill ++ ol)), g + 1⟩ := by
  have hog' : o.2 ≠ g := by simpa using hog
  refine weak_rows (S := ⟨mkTm tl, mkOb ol, g⟩) s o ρ hfl ho hn hrow hinj ?_ (fun k => ?_) (fun i h1 h2 => ?_)
  · show mkOb _ o = some (.vec e1 1 n (hdL ((s, 0), g) u xss))
    rw [mkOb_mat, if_pos rfl, hn]
  · show mkOb _ (kid ((s, 0), g) k) = _
    rw [mkOb_mat, if_neg (fun e => hog' (by rw [← e]; rfl)), mkOb_pool_kid]
  · show mkOb _ i = none ∨ (mkOb _ i = mkOb ol i ∧ _)
    rw [mkOb_mat, if_neg h1, mkOb_pool_ne h2]
    exact hk i h1
theorem kill_pool {p : Oid} {ol : List (Oid × Option Ob)} {e : TypeId} {u : Ty} (i : Oid) : mkOb ((p, some (.pool e u [])) :: ol) i = if i.1.1 = p.1.1 ∧ i.2 = p.2 ∧ i.1.2 ≠ 0 then none else mkOb ol i := by
  rw [mkOb_pool]
  split <;> simp
theorem kill_none {q : Oid} {ol : List (Oid × Option Ob)} (i : Oid) : mkOb ((q, none) :: ol) i = if i = q then none else mkOb ol i := by
  simp only [mkOb]
theorem take_own {α : Type} {row ys : List α} {len : Nat} (hl : len ≤ ys.length) (hr : row = ys.take len) : row.length = len ∧ row.length ≤ ys.length ∧ row = ys.take row.length := by
  have : row.length = len := by rw [hr, List.length_take]; omega
  rw [this]
  exact ⟨rfl, hl, hr⟩
theorem tw_le {α : Type} {ys : List α} {len : Nat} (h : len = ys.length) : len ≤ ys.length := by omega
theorem tw_eq {α : Type} {ys : List α} {len : Nat} (h : len = ys.length) : ys = ys.take len := by rw [h, List.take_length]
/-- A row has been put in the place of another. -/
theorem weak_set_ {tl : List (Nat × AV)} {ol : List (Oid × Option Ob)} {g : Nat} (s : Nat) (o p q : Oid) {e1 e : TypeId} {u : Ty} {xss : List (List u.D)} {j n len : Nat} {row ys : List u.D} (hfl : u.flat = true) (ho : mkOb ol o = some (.vec e1 1 n ((hdL p u xss).set j (.own q u 0 len)))) (hn : n = xss.length) (hp : poolAt ol p = some (.pool e u xss)) (hq : entAt ol q = some (.arr e u ys)) (hl : len ≤ ys.length) (hr : row = ys.take len)
    (hqp : (q.1.1 == p.1.1 && q.2 == p.2 && q.1.2 != 0) = false) (hog : (o.2 == g) = false) (hfr : noGen g ((q, none) :: (p, some (.pool e u [])) :: ol) = true) :
    Weak ⟨mkTm tl, mkOb ol, g⟩ ⟨mkTm tl, mkOb ((o, some (.mat e1 ((s, 0), g) u (xss.set j row))) :: (((s, 0), g), some (.pool e u (xss.set j row))) :: (q, none) :: (p, some (.pool e u [])) :: ol), g + 1⟩ := by
  obtain ⟨r1, r2, r3⟩ := take_own hl hr
  have hqk : ∀ k, q ≠ kid p k := fun k e => by rw [e] at hqp; simp [kid] at hqp
  have hq' : mkOb ol q = some (.arr e u ys) := by rw [entAt_mk, hq]; rfl
  refine weak_rows_ s o (fun k => if k = j then q else kid p k) [(q, none), (p, some (.pool e u []))] hfl ho (by rw [List.length_set]; exact hn) (fun k row' hk => ?_) (fun a b ha hb hab => ?_) hog hfr (fun i _ => ?_)
  · rw [List.getElem?_set] at hk ⊢
    by_cases h : j = k
    · subst h
      rw [if_pos rfl] at hk ⊢
      split at hk
      · rename_i hlt
        obtain rfl := Option.some.inj hk
        rw [hdL_len, if_pos hlt, if_pos rfl, r1]
        exact ⟨rfl, ys, hq', hl, hr⟩
      · cases hk
    · rw [if_neg h] at hk ⊢
      rw [hdL_get, hk, if_neg (fun e => h e.symm)]
      exact ⟨rfl, row', mkOb_kid hp hk, Nat.le_refl _, (List.take_length).symm⟩
  · by_cases h1 : a = j <;> by_cases h2 : b = j
    · rw [h1, h2]
    · rw [if_pos h1, if_neg h2] at hab; exact absurd hab (hqk b)
    · rw [if_neg h1, if_pos h2] at hab; exact absurd hab.symm (hqk a)
    · rw [if_neg h1, if_neg h2] at hab; exact kid_inj hab
  · simp only [List.cons_append, List.nil_append, kill_none]
    by_cases h1 : i = q
    · rw [if_pos h1]; exact .inl rfl
    · rw [if_neg h1, kill_pool]
      split
      · exact .inl rfl
      · rename_i h2
        refine .inr ⟨rfl, fun k _ => ?_⟩
        split
        · exact h1
        · intro e
          exact h2 (by rw [e]; exact ⟨rfl, rfl, by simp [kid]⟩)
/-- Two rows have been exchanged. -/
theorem weak_swap_ {tl : List (Nat × AV)} {ol : List (Oid × Option Ob)} {g : Nat} (s : Nat) (o p : Oid) {e1 e : TypeId} {u : Ty} {xss : List (List u.D)} {i j n li lj : Nat} {ri rj : List u.D} (hfl : u.flat = true) (ho : mkOb ol o = some (.vec e1 1 n (((hdL p u xss).set i (.own (kid p j) u 0 lj)).set j (.own (kid p i) u 0 li)))) (hn : n = xss.length) (hp : poolAt ol p = some (.pool e u xss)) (hi : xss[i]? = some ri) (hj : xss[j]? = some rj) (hli : li = ri.length) (hlj : lj = rj.length)
    (hog : (o.2 == g) = false) (hfr : noGen g ((p, some (.pool e u [])) :: ol) = true) :
    Weak ⟨mkTm tl, mkOb ol, g⟩ ⟨mkTm tl, mkOb ((o, some (.mat e1 ((s, 0), g) u ((xss.set i rj).set j ri))) :: (((s, 0), g), some (.pool e u ((xss.set i rj).set j ri))) :: (p, some (.pool e u [])) :: ol), g + 1⟩ := by
  subst hli hlj
  have li := (List.getElem?_eq_some_iff.1 hi).1
  have lj := (List.getElem?_eq_some_iff.1 hj).1
  refine weak_rows_ s o (fun k => if k = j then kid p i else if k = i then kid p j else kid p k) [(p, some (.pool e u []))] hfl ho (by simp only [List.length_set]; exact hn) (fun k row' hk => ?_) (fun a b ha hb hab => ?_) hog hfr (fun x _ => ?_)
  · rw [List.getElem?_set] at hk ⊢
    by_cases h : j = k
    · subst h
      rw [if_pos rfl, List.length_set] at hk ⊢
      rw [if_pos lj] at hk
      obtain rfl := Option.some.inj hk
      rw [hdL_len, if_pos lj, if_pos rfl]
      exact ⟨rfl, ri, mkOb_kid hp hi, Nat.le_refl _, (List.take_length).symm⟩
    · have hkj : ¬ k = j := fun e => h e.symm
      rw [if_neg h, List.getElem?_set] at hk ⊢
      simp only [if_neg hkj]
      by_cases h' : i = k
      · subst h'
        rw [if_pos rfl] at hk ⊢
        rw [if_pos li] at hk
        obtain rfl := Option.some.inj hk
        simp only [if_true]
        rw [hdL_len, if_pos li]
        exact ⟨rfl, rj, mkOb_kid hp hj, Nat.le_refl _, (List.take_length).symm⟩
      · rw [if_neg h'] at hk ⊢
        have hki : ¬ k = i := fun e => h' e.symm
        simp only [if_neg hki]
        rw [hdL_get, hk]
        exact ⟨rfl, row', mkOb_kid hp hk, Nat.le_refl _, (List.take_length).symm⟩
  · have key : ∀ k, (if k = j then kid p i else if k = i then kid p j else kid p k) = kid p (if k = j then i else if k = i then j else k) := fun k => by
      split
      · rfl
      · split <;> rfl
    have hab : (if a = j then kid p i else if a = i then kid p j else kid p a) = (if b = j then kid p i else if b = i then kid p j else kid p b) := hab
    rw [key a, key b] at hab
    have := kid_inj hab
    repeat' split at this
    all_goals omega
  · simp only [List.cons_append, List.nil_append]
    rw [kill_pool]
    split
    · exact .inl rfl
    · rename_i h2
      refine .inr ⟨rfl, fun k _ e => h2 ?_⟩
      have : ∃ m, x = kid p m := by
        split at e
        · exact ⟨_, e⟩
        · split at e <;> exact ⟨_, e⟩
      obtain ⟨m, rfl⟩ := this
      exact ⟨rfl, rfl, by simp [kid]⟩
/-- A row has been appended. -/
theorem weak_app_ {tl : List (Nat × AV)} {ol : List (Oid × Option Ob)} {g : Nat} (s : Nat) (o p q : Oid) {e1 e : TypeId} {u : Ty} {xss : List (List u.D)} {n len : Nat} {row ys : List u.D} (hfl : u.flat = true) (ho : mkOb ol o = some (.vec e1 1 n (hdL p u xss ++ [.own q u 0 len]))) (hn : n = xss.length + 1) (hp : poolAt ol p = some (.pool e u xss)) (hq : entAt ol q = some (.arr e u ys)) (hl : len ≤ ys.length) (hr : row = ys.take len)
    (hqp : (q.1.1 == p.1.1 && q.2 == p.2 && q.1.2 != 0) = false) (hog : (o.2 == g) = false) (hfr : noGen g ((q, none) :: (p, some (.pool e u [])) :: ol) = true) :
    Weak ⟨mkTm tl, mkOb ol, g⟩ ⟨mkTm tl, mkOb ((o, some (.mat e1 ((s, 0), g) u (xss ++ [row]))) :: (((s, 0), g), some (.pool e u (xss ++ [row]))) :: (q, none) :: (p, some (.pool e u [])) :: ol), g + 1⟩ := by
  obtain ⟨r1, r2, r3⟩ := take_own hl hr
  have hqk : ∀ k, q ≠ kid p k := fun k e => by rw [e] at hqp; simp [kid] at hqp
  have hq' : mkOb ol q = some (.arr e u ys) := by rw [entAt_mk, hq]; rfl
  refine weak_rows_ s o (fun k => if k = xss.length then q else kid p k) [(q, none), (p, some (.pool e u []))] hfl ho (by simp [hn]) (fun k row' hk => ?_) (fun a b ha hb hab => ?_) hog hfr (fun i _ => ?_)
  · rcases Nat.lt_trichotomy k xss.length with h | h | h
    · rw [List.getElem?_append_left h] at hk
      rw [List.getElem?_append_left (by rw [hdL_len]; exact h), hdL_get, hk, if_neg (by omega)]
      exact ⟨rfl, row', mkOb_kid hp hk, Nat.le_refl _, (List.take_length).symm⟩
    · subst h
      rw [List.getElem?_append_right (Nat.le_refl _), Nat.sub_self] at hk
      obtain rfl := Option.some.inj hk
      rw [List.getElem?_append_right (by rw [hdL_len]; exact Nat.le_refl _), hdL_len, Nat.sub_self, if_pos rfl, r1]
      exact ⟨rfl, ys, hq', hl, hr⟩
    · rw [List.getElem?_eq_none (by simp; omega)] at hk
      cases hk
  · by_cases h1 : a = xss.length <;> by_cases h2 : b = xss.length
    · rw [h1, h2]
    · rw [if_pos h1, if_neg h2] at hab; exact absurd hab (hqk b)
    · rw [if_neg h1, if_pos h2] at hab; exact absurd hab.symm (hqk a)
    · rw [if_neg h1, if_neg h2] at hab; exact kid_inj hab
  · simp only [List.cons_append, List.nil_append, kill_none]
    by_cases h1 : i = q
    · rw [if_pos h1]; exact .inl rfl
    · rw [if_neg h1, kill_pool]
      split
      · exact .inl rfl
      · rename_i h2
        refine .inr ⟨rfl, fun k _ => ?_⟩
        split
        · exact h1
        · intro e
          exact h2 (by rw [e]; exact ⟨rfl, rfl, by simp [kid]⟩)
/-- The first row. -/
theorem weak_one_ {tl : List (Nat × AV)} {ol : List (Oid × Option Ob)} {g : Nat} (s : Nat) (o q : Oid) {e1 e : TypeId} {u : Ty} {n len : Nat} {row ys : List u.D} (hfl : u.flat = true) (ho : mkOb ol o = some (.vec e1 1 n [.own q u 0 len])) (hn : n = 1) (hq : entAt ol q = some (.arr e u ys)) (hl : len ≤ ys.length) (hr : row = ys.take len)
    (hog : (o.2 == g) = false) (hfr : noGen g ((q, none) :: ol) = true) :
    Weak ⟨mkTm tl, mkOb ol, g⟩ ⟨mkTm tl, mkOb ((o, some (.mat e1 ((s, 0), g) u [row])) :: (((s, 0), g), some (.pool e u [row])) :: (q, none) :: ol), g + 1⟩ := by
  obtain ⟨r1, r2, r3⟩ := take_own hl hr
  have hq' : mkOb ol q = some (.arr e u ys) := by rw [entAt_mk, hq]; rfl
  refine weak_rows_ s o (fun _ => q) [(q, none)] hfl ho hn (fun k row' hk => ?_) (fun a b ha hb _ => by simp at ha hb; omega) hog hfr (fun i _ => ?_)
  · cases k with
    | zero =>
      obtain rfl := Option.some.inj hk
      rw [r1]
      exact ⟨rfl, ys, hq', hl, hr⟩
    | succ k => simp at hk
  · simp only [List.cons_append, List.nil_append, kill_none]
    by_cases h1 : i = q
    · rw [if_pos h1]; exact .inl rfl
    · rw [if_neg h1]; exact .inr ⟨rfl, fun _ _ => h1⟩
/-- No rows. -/
theorem weak_none_ {tl : List (Nat × AV)} {ol : List (Oid × Option Ob)} {g : Nat} (s : Nat) (o : Oid) {e1 : TypeId} (e : TypeId) (u : Ty) {n : Nat} (hfl : u.flat = true) (ho : mkOb ol o = some (.vec e1 1 n [])) (hn : n = 0) (hog : (o.2 == g) = false) (hfr : noGen g ol = true) :
    Weak ⟨mkTm tl, mkOb ol, g⟩ ⟨mkTm tl, mkOb ((o, some (.mat e1 ((s, 0), g) u ([] : List (List u.D)))) :: (((s, 0), g), some (.pool e u ([] : List (List u.D)))) :: ol), g + 1⟩ := by
  exact weak_rows_ (e := e) (xss := ([] : List (List u.D))) s o (fun _ => o) [] hfl ho hn (fun k row' hk => by simp at hk) (fun a b ha hb _ => by simp at ha) hog hfr (fun i _ => .inr ⟨rfl, fun k h => by simp at h⟩)
end Go.Proofs.YtefolocdfgelcaaDoor
