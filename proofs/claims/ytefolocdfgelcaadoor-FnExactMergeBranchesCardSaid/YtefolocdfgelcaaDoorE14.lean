/- An abstract machine: regions that draw their order; conditions: what an operation changes is ordered with all that looks at objects. -/
import Derived.Test.YtefolocdfgelcaaDoorE13
namespace Go.Proofs.YtefolocdfgelcaaDoor
open Go.RowKit Go.Deep

def selT (p : Nat → Bool) : Nat → List X → List Rec → (Nat → AV) → (Nat → AV)
  | k, x :: xs, r :: rs, f => selT p (k + 1) xs rs (if p k then putT x.dst r.2.1 f else f)
  | _, _, _, f => f
def selO (p : Nat → Bool) : Nat → List Rec → (Oid → Option Ob) → (Oid → Option Ob)
  | k, r :: rs, ob => selO p (k + 1) rs (if p k then applyU r.2.2 ob else ob)
  | _, [], ob => ob

theorem selT_none {p : Nat → Bool} : ∀ (k : Nat) (xs : List X) (rs : List Rec) (f : Nat → AV), (∀ i, k ≤ i → p i = false) → selT p k xs rs f = f
  | _, [], _, _, _ => by simp [selT]
  | _, _ :: _, [], _, _ => rfl
  | k, x :: xs, r :: rs, f, h => by
    simp only [selT, h k (Nat.le_refl _), Bool.false_eq_true, if_false]
    exact selT_none (k + 1) xs rs f (fun i hi => h i (by omega))
theorem selO_none {p : Nat → Bool} : ∀ (k : Nat) (rs : List Rec) (ob : Oid → Option Ob), (∀ i, k ≤ i → p i = false) → selO p k rs ob = ob
  | _, [], _, _ => rfl
  | k, r :: rs, ob, h => by
    simp only [selO, h k (Nat.le_refl _), Bool.false_eq_true, if_false]
    exact selO_none (k + 1) rs ob (fun i hi => h i (by omega))

theorem runX_spec {P : Program} {G : World → Prop} {g : Nat} : ∀ (xs : List X) (k : Nat) (f : Nat → AV) (ob : Oid → Option Ob) (rs : List Rec) (ds : List (List Oid)) (f' : Nat → AV) (ob' : Oid → Option Ob), RunD P G g k xs f ob rs ds f' ob' →
    xs.length = rs.length ∧ xs.length = ds.length ∧ f' = selT (fun _ => true) k xs rs f ∧ ob' = selO (fun _ => true) k rs ob ∧
    ∀ j x r, xs[j]? = some x → rs[j]? = some r → ∃ d, ds[j]? = some d ∧ StepR P G false (g + (k + j)) x (selT (fun m => decide (m < k + j)) k xs rs f) (only d (selO (fun m => decide (m < k + j)) k rs ob)) r
  | [], k, f, ob, rs, ds, f', ob', h => by
    obtain ⟨rfl, rfl, rfl, rfl⟩ := h
    exact ⟨rfl, rfl, rfl, rfl, fun j x r h => by simp at h⟩
  | x :: xs, k, f, ob, rs, ds, f', ob', h => by
    obtain ⟨r, rs', ds', rfl, rfl, hst, hrun⟩ := h
    · · skip
        obtain ⟨h1, h1', h2, h3, h4⟩ := runX_spec xs (k + 1) _ _ rs' ds' f' ob' hrun
        refine ⟨by simp [h1], by simp [h1'], by simpa [selT] using h2, by simpa [selO] using h3, fun j y s hy hs => ?_⟩
        cases j with
        | zero =>
          simp at hy hs
          subst hy hs
          refine ⟨_, rfl, ?_⟩
          rw [selT_none k _ _ _ (fun i hi => by simp; omega), selO_none k _ _ (fun i hi => by simp; omega)]
          exact hst
        | succ j =>
          obtain ⟨d, hd, this⟩ := h4 j y s (by simpa using hy) (by simpa using hs)
          refine ⟨d, by simpa using hd, ?_⟩
          simp only [selT, selO, show decide (k < k + (j + 1)) = true by simp, if_true]
          rw [show k + (j + 1) = k + 1 + j by omega]
          exact this

theorem stepR_gen {P : Program} {G : World → Prop} {p : Bool} {n : Nat} {x : X} {f : Nat → AV} {ob : Oid → Option Ob} {r : Rec} (h : StepR P G p n x f ob r) : ∀ u ∈ r.2.2, (r.1 = 2 ∧ (ob u.1 ≠ none ∨ u.1.2 = n)) ∨ (r.1 = 1 ∧ u.1.2 = n) := by
  unfold StepR at h
  split at h
  · exact evR_gen h
  · obtain ⟨c, _, h⟩ := h
    split at h
    · exact evR_gen h
    · subst h
      intro u hu; cases hu
theorem stepR_gen' {P : Program} {G : World → Prop} {p : Bool} {n : Nat} {x : X} {f : Nat → AV} {d : List Oid} {ob : Oid → Option Ob} {r : Rec} (h : StepR P G p n x f (only d ob) r) : ∀ u ∈ r.2.2, (r.1 = 2 ∧ (ob u.1 ≠ none ∨ u.1.2 = n)) ∨ (r.1 = 1 ∧ u.1.2 = n) := by
  intro u hu
  rcases stepR_gen h u hu with ⟨h1, h2 | h2⟩ | h
  · refine .inl ⟨h1, .inl fun e => h2 ?_⟩
    unfold only
    rw [e]; split <;> rfl
  · exact .inl ⟨h1, .inr h2⟩
  · exact .inr h

theorem runX_gen {P : Program} {G : World → Prop} {g : Nat} : ∀ (xs : List X) (k : Nat) (f : Nat → AV) (ob : Oid → Option Ob) (rs : List Rec) (ds : List (List Oid)) (f' : Nat → AV) (ob' : Oid → Option Ob), RunD P G g k xs f ob rs ds f' ob' → (∀ i, ob i ≠ none → i.2 < g + k) →
    ∀ j i, selO (fun m => decide (m < k + j)) k rs ob i ≠ none → i.2 < g + k + j
  | [], k, f, ob, rs, ds, f', ob', h, hg, j, i, hi => by
    obtain ⟨rfl, rfl, rfl, rfl⟩ := h
    have := hg i hi
    omega
  | x :: xs, k, f, ob, rs, ds, f', ob', h, hg, j, i, hi => by
    obtain ⟨r, rs', ds', rfl, rfl, hst, hrun⟩ := h
    · · skip
        cases j with
        | zero =>
          rw [selO_none k _ _ (fun i hi => by simp; omega)] at hi
          have := hg i hi
          omega
        | succ j =>
          simp only [selO, show decide (k < k + (j + 1)) = true by simp, if_true] at hi
          rw [show k + (j + 1) = k + 1 + j by omega] at hi
          have := runX_gen xs (k + 1) _ _ rs' ds' f' ob' hrun (fun i hi => by
            by_cases hex : ∃ u ∈ r.2.2, u.1 = i
            · obtain ⟨u, hu, rfl⟩ := hex
              rcases stepR_gen' hst u hu with ⟨_, h | h⟩ | ⟨_, h⟩
              · have := hg _ h; omega
              · omega
              · omega
            · rw [applyU_none (fun u hu e => hex ⟨u, hu, e⟩)] at hi
              have := hg i hi
              omega) j i hi
          omega

theorem applyU_at {us : List (Oid × Option Ob)} {ob ob' : Oid → Option Ob} {i : Oid} (h : ob i = ob' i) : applyU us ob i = applyU us ob' i := by
  induction us generalizing ob ob' with
  | nil => exact h
  | cons u us ih =>
    simp only [applyU, List.foldl_cons]
    refine ih ?_
    by_cases e : i = u.1
    · subst e; rw [upd_same, upd_same]
    · rw [upd_other _ _ _ _ e, upd_other _ _ _ _ e, h]
theorem selO_congr {p q : Nat → Bool} {i : Oid} : ∀ (k : Nat) (rs : List Rec) (ob ob' : Oid → Option Ob), ob i = ob' i → (∀ j r, rs[j]? = some r → p (k + j) ≠ q (k + j) → ∀ u ∈ r.2.2, u.1 ≠ i) → selO p k rs ob i = selO q k rs ob' i
  | _, [], _, _, h, _ => h
  | k, r :: rs, ob, ob', h, hd => by
    simp only [selO]
    refine selO_congr (k + 1) rs _ _ ?_ (fun j s hs hne => hd (j + 1) s (by simpa using hs) (by rw [show k + (j + 1) = k + 1 + j by omega]; exact hne))
    by_cases e : p k = q k
    · rw [e]
      split
      · exact applyU_at h
      · exact h
    · have := hd 0 r (by simp) (by simpa using e)
      have hn : ∀ o : Oid → Option Ob, applyU r.2.2 o i = o i := fun o => applyU_none this
      split <;> split <;> simp [hn, h]
/-- No name in both. -/
def disjU (us vs : List (Oid × Option Ob)) : Prop := ∀ u ∈ us, ∀ v ∈ vs, u.1 ≠ v.1
theorem applyU_comm {us vs : List (Oid × Option Ob)} (h : disjU us vs) (ob : Oid → Option Ob) : applyU us (applyU vs ob) = applyU vs (applyU us ob) := by
  funext i
  by_cases hu : ∃ u ∈ us, u.1 = i
  · have hv : ∀ v ∈ vs, v.1 ≠ i := by
      obtain ⟨u, hu, rfl⟩ := hu
      exact fun v hv e => h u hu v hv e.symm
    rw [applyU_none (ob := applyU us ob) hv]
    exact applyU_at (applyU_none hv)
  · have hu' : ∀ u ∈ us, u.1 ≠ i := fun u h e => hu ⟨u, h, e⟩
    rw [applyU_none (ob := applyU vs ob) hu']
    exact (applyU_at (applyU_none hu')).symm
theorem selO_comm {p : Nat → Bool} {us : List (Oid × Option Ob)} : ∀ (k : Nat) (rs : List Rec) (ob : Oid → Option Ob), (∀ j r, rs[j]? = some r → p (k + j) = true → disjU us r.2.2) → selO p k rs (applyU us ob) = applyU us (selO p k rs ob)
  | _, [], _, _ => rfl
  | k, r :: rs, ob, h => by
    simp only [selO]
    rw [← selO_comm (k + 1) rs _ (fun j s hs hp => h (j + 1) s (by simpa using hs) (by rw [show k + (j + 1) = k + 1 + j by omega]; exact hp))]
    split
    · rename_i hp
      rw [applyU_comm (h 0 r (by simp) (by simpa using hp))]
    · rfl
theorem selO_same {p q : Nat → Bool} : ∀ (k : Nat) (rs : List Rec) (ob : Oid → Option Ob), (∀ j, k ≤ j → p j = q j) → selO p k rs ob = selO q k rs ob
  | _, [], _, _ => rfl
  | k, r :: rs, ob, h => by
    simp only [selO, h k (Nat.le_refl _)]
    exact selO_same (k + 1) rs _ (fun j hj => h j (by omega))
/-- One operation more has come up. -/
theorem selO_add {p q : Nat → Bool} {i : Nat} (hq : ∀ j, q j = (p j || decide (j = i))) (hp : p i = false) : ∀ (k : Nat) (rs : List Rec) (ob : Oid → Option Ob) (r : Rec), k ≤ i → rs[i - k]? = some r → (∀ j s, rs[j]? = some s → i < k + j → p (k + j) = true → disjU r.2.2 s.2.2) → selO q k rs ob = applyU r.2.2 (selO p k rs ob)
  | _, [], _, _, _, h, _ => by simp at h
  | k, s :: rs, ob, r, hk, hr, hd => by
    by_cases e : k = i
    · subst e
      simp at hr
      subst hr
      simp only [selO, hq k, hp, Bool.false_or, decide_true, if_true, Bool.false_eq_true, if_false]
      rw [selO_same (p := q) (q := p) (k + 1) rs _ (fun j hj => by rw [hq]; simp; omega)]
      exact selO_comm (k + 1) rs ob (fun j s hs hpj => hd (j + 1) s (by simpa using hs) (by omega) (by rw [show k + (j + 1) = k + 1 + j by omega]; exact hpj))
    · simp only [selO, hq k, show decide (k = i) = false by simp [e], Bool.or_false]
      have hk' : k + 1 ≤ i := by omega
      refine selO_add hq hp (k + 1) rs _ r hk' ?_ (fun j s hs h1 h2 => hd (j + 1) s (by simpa using hs) (by omega) (by rw [show k + (j + 1) = k + 1 + j by omega]; exact h2))
      rw [show i - k = (i - (k + 1)) + 1 by omega] at hr
      simpa using hr

/-- What a temporary holds: what the one operation that writes it has yielded, or what it held. -/
theorem selT_at {p : Nat → Bool} {s : Nat} : ∀ (k : Nat) (xs : List X) (rs : List Rec) (f : Nat → AV) (j : Nat) (x : X) (r : Rec), xs[j]? = some x → rs[j]? = some r → x.dst = some s → p (k + j) = true → (∀ l y, xs[l]? = some y → j < l → y.dst ≠ some s) → selT p k xs rs f s = r.2.1
  | _, [], _, _, _, _, _, h, _, _, _, _ => by simp at h
  | _, _ :: _, [], _, _, _, _, _, h, _, _, _ => by simp at h
  | k, x0 :: xs, r0 :: rs, f, 0, x, r, hx, hr, hd, hp, hl => by
    simp at hx hr
    subst hx hr
    simp only [selT, show p k = true by simpa using hp, if_true]
    have key : ∀ (k : Nat) (xs : List X) (rs : List Rec) (f : Nat → AV), (∀ y ∈ xs, y.dst ≠ some s) → selT p k xs rs f s = f s := by
      intro k xs
      induction xs generalizing k with
      | nil => intro rs f _; simp [selT]
      | cons y ys ih =>
        intro rs f h
        cases rs with
        | nil => rfl
        | cons r rs =>
          simp only [selT]
          rw [ih (k + 1) rs _ (fun z hz => h z (by simp [hz]))]
          split
          · have := h y (by simp)
            cases hy : y.dst with
            | none => rfl
            | some d => simp only [putT]; rw [upd_other]; intro e; subst e; exact this hy
          · rfl
    rw [key (k + 1) xs rs _ (fun y hy => by
      obtain ⟨l, hl1, rfl⟩ := List.mem_iff_getElem.1 hy
      exact hl (l + 1) _ (by simp [hl1]) (by omega)), hd]
    simp only [putT, upd_same]
  | k, x0 :: xs, r0 :: rs, f, j + 1, x, r, hx, hr, hd, hp, hl => by
    simp only [selT]
    exact selT_at (k + 1) xs rs _ j x r (by simpa using hx) (by simpa using hr) hd (by rw [show k + 1 + j = k + (j + 1) by omega]; exact hp) (fun l y hy h => hl (l + 1) y (by simpa using hy) (by omega))
theorem selT_keep {p : Nat → Bool} {s : Nat} : ∀ (k : Nat) (xs : List X) (rs : List Rec) (f : Nat → AV), (∀ j x, xs[j]? = some x → p (k + j) = true → x.dst ≠ some s) → selT p k xs rs f s = f s
  | _, [], _, _, _ => by simp [selT]
  | _, _ :: _, [], _, _ => rfl
  | k, x :: xs, r :: rs, f, h => by
    simp only [selT]
    rw [selT_keep (k + 1) xs rs _ (fun j y hy hp => h (j + 1) y (by simpa using hy) (by rw [show k + (j + 1) = k + 1 + j by omega]; exact hp))]
    split
    · rename_i hp
      have := h 0 x (by simp) (by simpa using hp)
      cases hx : x.dst with
      | none => rfl
      | some d => simp only [putT]; rw [upd_other]; intro e; subst e; exact this hx
    · rfl

/-- Ancestors, as bits. -/
def ancs : List (List Nat) → List Nat → List Nat
  | [], acc => acc
  | ds :: rest, acc => ancs rest (acc ++ [ds.foldl (fun s d => s ||| 2 ^ d ||| acc.getD d 0) 0])
theorem fold_bit (A : Nat → Nat) : ∀ (ds : List Nat) (s j : Nat), (ds.foldl (fun s d => s ||| 2 ^ d ||| A d) s).testBit j = true → s.testBit j = true ∨ ∃ d ∈ ds, j = d ∨ (A d).testBit j = true
  | [], s, j, h => .inl h
  | d :: ds, s, j, h => by
    rcases fold_bit A ds _ j h with h | ⟨e, he, h⟩
    · rw [Nat.testBit_or, Nat.testBit_or, Bool.or_eq_true, Bool.or_eq_true] at h
      rcases h with (h | h) | h
      · exact .inl h
      · rw [Nat.testBit_two_pow] at h
        have e : d = j := by simpa using h
        exact .inr ⟨d, by simp, .inl e.symm⟩
      · exact .inr ⟨d, by simp, .inr h⟩
    · exact .inr ⟨e, by simp [he], h⟩
theorem ancs_spec : ∀ (deps : List (List Nat)) (acc : List Nat), (∃ t, ancs deps acc = acc ++ t ∧ t.length = deps.length) ∧
    ∀ k ds, deps[k]? = some ds → ∀ j, ((ancs deps acc).getD (acc.length + k) 0).testBit j = true → ∃ d ∈ ds, j = d ∨ ((ancs deps acc).getD d 0).testBit j = true
  | [], acc => ⟨⟨[], by simp [ancs], rfl⟩, fun k ds h => by simp at h⟩
  | ds0 :: rest, acc => by
    obtain ⟨⟨t, h1, h2⟩, h3⟩ := ancs_spec rest (acc ++ [ds0.foldl (fun s d => s ||| 2 ^ d ||| acc.getD d 0) 0])
    refine ⟨⟨ds0.foldl (fun s d => s ||| 2 ^ d ||| acc.getD d 0) 0 :: t, by simp only [ancs, h1, List.append_assoc]; rfl, by simp [h2]⟩, fun k ds hk j hj => ?_⟩
    simp only [ancs] at hj ⊢
    cases k with
    | zero =>
      simp at hk
      subst hk
      rw [h1] at hj
      rw [Nat.add_zero, List.getD_eq_getElem?_getD, List.append_assoc, List.getElem?_append_right (Nat.le_refl _)] at hj
      simp at hj
      rcases fold_bit (fun d => acc[d]?.getD 0) _ _ _ hj with h | ⟨d, hd, h⟩
      · simp at h
      · refine ⟨d, hd, h.imp id fun h => ?_⟩
        rw [h1, List.getD_eq_getElem?_getD]
        by_cases hlt : d < acc.length
        · rw [List.append_assoc, List.getElem?_append_left hlt]; exact h
        · rw [List.getElem?_eq_none (by omega)] at h
          simp at h
    | succ k =>
      have := h3 k ds (by simpa using hk) j (by
        rw [List.length_append, List.length_cons, List.length_nil, show acc.length + (0 + 1) + k = acc.length + (k + 1) by omega]
        exact hj)
      exact this
end Go.Proofs.YtefolocdfgelcaaDoor
