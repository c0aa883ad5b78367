/- An abstract machine: what a call that is given objects makes of a list of objects; no condition. -/
import Derived.Test.YtefolocdfgelcaaDoorE18m
namespace Go.Proofs.YtefolocdfgelcaaDoor
open Go.RowKit Go.Deep

/-- Names as lists of objects want them: bases; the pools of rows of rows among them. -/
def base0 (ol : List (Oid × Ob)) : Bool := ol.all fun q => q.1.1.2 == 0 && (match q.2 with | .mat _ p _ _ => p.1.2 == 0 | _ => true)
theorem base0_pl {ol : List (Oid × Ob)} (h : base0 ol = true) : (ol.all fun q => match q.2 with | .pool .. => q.1.1.2 == 0 | .mat _ p _ _ => p.1.2 == 0 | _ => true) = true := by
  unfold base0 at h
  rw [List.all_eq_true] at h ⊢
  rintro ⟨i, o⟩ hq
  have := h _ hq
  simp only [Bool.and_eq_true] at this
  cases o <;> first | exact this.1 | exact this.2 | rfl
/-- No two of the objects have one name. -/
def inj0 (θ : Oid → Oid) (ol : List (Oid × Ob)) : Bool := ndB ((namesN ol).map θ) && (ndB ((namesP ol).map θ) && (((namesP ol).all fun i => (θ i).1.2 == 0) && (namesN ol).all fun i => (θ i).1.2 == 0 || !((namesP ol).map θ).contains (baseO (θ i))))
theorem memN0 {ol : List (Oid × Ob)} {q : Oid × Ob} (hq : q ∈ ol) (hp : q.2.isPool = false) : q.1 ∈ namesN ol := List.mem_map.2 ⟨_, List.mem_filter.2 ⟨hq, by simp [hp]⟩, rfl⟩
theorem memP0 {ol : List (Oid × Ob)} {q : Oid × Ob} (hq : q ∈ ol) (hp : q.2.isPool = true) : q.1 ∈ namesP ol := List.mem_map.2 ⟨_, List.mem_filter.2 ⟨hq, by simp [hp]⟩, rfl⟩
theorem ex_inj {θ : Oid → Oid} {ol : List (Oid × Ob)} (hk : ∀ p e u xss, (p, Ob.pool e u xss) ∈ ol → ∀ k, θ (kid p k) = kid (θ p) k) (h : inj0 θ ol = true) (h0 : base0 ol = true) : ∀ q ∈ exL ol, ∀ q' ∈ exL ol, θ q.1 = θ q'.1 → q.1 = q'.1 := by
  simp only [inj0, Bool.and_eq_true] at h
  obtain ⟨c3, c4, c7, c8⟩ := h
  rw [List.all_eq_true] at c7 c8
  have ndN := ndB_spec c3
  have ndP := ndB_spec c4
  unfold base0 at h0
  rw [List.all_eq_true] at h0
  have hb : ∀ q ∈ ol, q.1.1.2 = 0 := fun q hq => by
    have := h0 q hq
    simp only [Bool.and_eq_true, beq_iff_eq] at this
    exact this.1
  intro q hq q' hq' e
  rcases exL_mem hq with ⟨p, e1, u, xss, k, row, m1, m2, rfl⟩ | ⟨o, m1, m2, m3⟩ <;> rcases exL_mem hq' with ⟨p', e1', u', xss', k', row', m1', m2', rfl⟩ | ⟨o', m1', m2', m3'⟩
  · simp only [hk _ _ _ _ m1, hk _ _ _ _ m1'] at e
    have z1 := c7 _ (memP0 m1 rfl)
    have z2 := c7 _ (memP0 m1' rfl)
    rw [beq_iff_eq] at z1 z2
    have e1 : θ p = θ p' := by rw [← baseO_kid z1 k, e, baseO_kid z2]
    have e2 := inj_of_nd ndP (memP0 m1 rfl) (memP0 m1' rfl) e1
    have e2 : p = p' := e2
    subst e2
    rw [kid_inj e]
  · exfalso
    simp only [hk _ _ _ _ m1] at e
    have hz := c7 _ (memP0 m1 rfl)
    rw [beq_iff_eq] at hz
    have := c8 _ (memN0 (q := (q'.1, o')) m1' m2')
    simp only [← e, Bool.or_eq_true, beq_iff_eq, Bool.not_eq_true', baseO_kid hz] at this
    rcases this with h | h
    · simp [kid] at h
    · rw [List.contains_iff_mem.2 (List.mem_map.2 ⟨_, memP0 m1 rfl, rfl⟩)] at h
      cases h
  · exfalso
    simp only [hk _ _ _ _ m1'] at e
    have hz := c7 _ (memP0 m1' rfl)
    rw [beq_iff_eq] at hz
    have := c8 _ (memN0 (q := (q.1, o)) m1 m2)
    simp only [e, Bool.or_eq_true, beq_iff_eq, Bool.not_eq_true', baseO_kid hz] at this
    rcases this with h | h
    · simp [kid] at h
    · rw [List.contains_iff_mem.2 (List.mem_map.2 ⟨_, memP0 m1' rfl, rfl⟩)] at h
      cases h
  · exact inj_of_nd ndN (memN0 (q := (q.1, o)) m1 m2) (memN0 (q := (q'.1, o')) m1' m2') e

/-- The list under other names. -/
def renE (ν : Oid → Oid) (us : List (Oid × Ob)) : List (Oid × Ob) := us.map fun q => (ν q.1, q.2.ren ν)
theorem exL_ren {ν : Oid → Oid} : ∀ {us : List (Oid × Ob)}, (∀ p e u xss, (p, Ob.pool e u xss) ∈ us → ∀ k, ν (kid p k) = kid (ν p) k) → (∀ j e p u xss, (j, Ob.mat e p u xss) ∈ us → ∀ k, ν (kid p k) = kid (ν p) k) → exL (renE ν us) = (exL us).map fun q => (ν q.1, q.2.ren ν)
  | [], _, _ => rfl
  | (p, o) :: r, h1, h2 => by
    have ih := exL_ren (us := r) (fun p e u xss h => h1 p e u xss (List.mem_cons_of_mem _ h)) (fun j e p u xss h => h2 j e p u xss (List.mem_cons_of_mem _ h))
    cases o with
    | pool e u xss =>
      show (xss.zipIdx.map fun x => (kid (ν p) x.2, Ob.arr e u x.1)) ++ exL (renE ν r) = ((xss.zipIdx.map fun x => (kid p x.2, Ob.arr e u x.1)) ++ exL r).map fun q => (ν q.1, q.2.ren ν)
      rw [List.map_append, ih, List.map_map]
      congr 1
      apply List.map_congr_left
      intro x _
      simp only [Function.comp, h1 p e u xss (by simp)]
      rfl
    | mat e q u xss =>
      have := exp_ren ν (.mat e q u xss) (fun e' p' u' xss' he k => by
        obtain ⟨rfl, rfl, rfl, he⟩ := Ob.mat.inj he
        obtain rfl := eq_of_heq he
        exact h2 p e q u xss (by simp) k)
      simp only [Ob.ren, Ob.exp] at this
      show (ν p, Ob.vec e 1 xss.length (hdL (ν q) u xss)) :: exL (renE ν r) = ((p, Ob.vec e 1 xss.length (hdL q u xss)) :: exL r).map fun q => (ν q.1, q.2.ren ν)
      rw [List.map_cons, ih, this]
      rfl
    | _ => exact congrArg (List.cons _) ih
/-- What stands in a list is found. -/
theorem mkOb_found {rest : List (Oid × Option Ob)} : ∀ {us : List (Oid × Ob)}, (namesN us).Nodup → (namesP us).Nodup → (∀ p ∈ namesP us, p.1.2 = 0) → (∀ i ∈ namesN us, ∀ p ∈ namesP us, ∀ k, i ≠ kid p k) → ∀ q ∈ exL us, mkOb (someL us ++ rest) q.1 = some q.2
  | [], _, _, _, _, q, hq => by cases hq
  | (p, o) :: r, nN, nP, h0, h1, q, hq => by
    cases o with
    | pool e u xss =>
      have nP' : (p :: namesP r).Nodup := nP
      have nN' : (namesN r).Nodup := nN
      have h0' : ∀ i ∈ p :: namesP r, i.1.2 = 0 := h0
      have h1' : ∀ i ∈ namesN r, ∀ j ∈ p :: namesP r, ∀ k, i ≠ kid j k := h1
      obtain ⟨n1, n2⟩ := List.nodup_cons.1 nP'
      simp only [exL, List.mem_append] at hq
      show mkOb ((p, some (.pool e u xss)) :: (someL r ++ rest)) q.1 = some q.2
      rcases hq with hq | hq
      · obtain ⟨⟨row, k⟩, hx, rfl⟩ := List.mem_map.1 hq
        rw [List.mem_zipIdx_iff_getElem?] at hx
        rw [mkOb_pool_kid]
        have hx : xss[k]? = some row := hx
        rw [hx]; rfl
      · rw [mkOb_pool_ne]
        · exact mkOb_found nN' n2 (fun i hi => h0' i (List.mem_cons_of_mem _ hi)) (fun i hi j hj => h1' i hi j (List.mem_cons_of_mem _ hj)) q hq
        · intro k e'
          rcases exL_mem hq with ⟨p', e1, u', xss', k', row, m1, m2, rfl⟩ | ⟨o, m1, m2, m3⟩
          · have e' : kid p' k' = kid p k := e'
            have hb : p' = p := by rw [← baseO_kid (h0' p' (List.mem_cons_of_mem _ (memP0 m1 rfl))) k', e', baseO_kid (h0' p List.mem_cons_self)]
            subst hb
            exact n1 (memP0 m1 rfl)
          · exact h1' _ (memN0 (q := (q.1, o)) m1 m2) p List.mem_cons_self k e'
    | _ =>
      have nN' : (p :: namesN r).Nodup := nN
      have nP' : (namesP r).Nodup := nP
      have h1' : ∀ i ∈ p :: namesN r, ∀ j ∈ namesP r, ∀ k, i ≠ kid j k := h1
      obtain ⟨n1, n2⟩ := List.nodup_cons.1 nN'
      simp only [exL] at hq
      rcases List.mem_cons.1 hq with rfl | hq
      · simp [someL, mkOb]
      · have hne : q.1 ≠ p := by
          intro e'
          rcases exL_mem hq with ⟨p', e1, u', xss', k', row, m1, m2, rfl⟩ | ⟨o, m1, m2, m3⟩
          · exact h1' p List.mem_cons_self p' (memP0 m1 rfl) k' e'.symm
          · exact n1 (by rw [← e']; exact memN0 (q := (q.1, o)) m1 m2)
        have := mkOb_found (rest := rest) n2 nP' h0 (fun i hi => h1' i (List.mem_cons_of_mem _ hi)) q hq
        simp only [someL, List.map_cons, List.cons_append, mkOb]
        rw [if_neg hne]
        exact this
/-- What does not stand in a list is looked for behind it. -/
theorem mkOb_past {rest : List (Oid × Option Ob)} : ∀ {us : List (Oid × Ob)} {k : Oid}, (∀ q ∈ exL us, q.1 ≠ k) → mkOb (someL us ++ rest) k = mkOb rest k ∨ (mkOb (someL us ++ rest) k = none ∧ ∃ p e u xss, (p, Ob.pool e u xss) ∈ us ∧ k.2 = p.2)
  | [], _, _ => .inl rfl
  | (p, o) :: r, k, h => by
    have ih : (∀ q ∈ exL r, q.1 ≠ k) → mkOb (someL r ++ rest) k = mkOb rest k ∨ (mkOb (someL r ++ rest) k = none ∧ ∃ p' e u xss, (p', Ob.pool e u xss) ∈ (p, o) :: r ∧ k.2 = p'.2) := fun h => by
      rcases mkOb_past (us := r) (rest := rest) h with h | ⟨h, p', e, u, xss, hm, hk⟩
      · exact .inl h
      · exact .inr ⟨h, p', e, u, xss, List.mem_cons_of_mem _ hm, hk⟩
    cases o with
    | pool e u xss =>
      show mkOb ((p, some (.pool e u xss)) :: (someL r ++ rest)) k = _ ∨ _
      rcases kid_or k p with ⟨j, rfl⟩ | h2
      · refine .inr ⟨?_, p, e, u, xss, List.mem_cons_self, rfl⟩
        show mkOb ((p, some (.pool e u xss)) :: (someL r ++ rest)) (kid p j) = none
        rw [mkOb_pool_kid]
        cases hj : xss[j]? with
        | none => rfl
        | some row =>
          refine absurd rfl (h (kid p j, .arr e u row) ?_)
          simp only [exL, List.mem_append]
          exact .inl (List.mem_map.2 ⟨(row, j), by rw [List.mem_zipIdx_iff_getElem?]; exact hj, rfl⟩)
      · have h3 := ih (fun q hq => h q (by simp only [exL, List.mem_append]; exact .inr hq))
        have : mkOb (someL ((p, Ob.pool e u xss) :: r) ++ rest) k = mkOb (someL r ++ rest) k := mkOb_pool_ne h2
        rw [this, mkOb_pool_ne h2]
        exact h3
    | _ =>
      have h3 := ih (fun q hq => h q (by simp only [exL]; exact List.mem_cons_of_mem _ hq))
      have hne : k ≠ p := fun e => h (p, _) (by simp only [exL]; exact List.mem_cons_self) e.symm
      simp only [someL, List.map_cons, List.cons_append, mkOb] at h3 ⊢
      rw [if_neg hne]
      exact h3
/-- What becomes of the objects that are given. -/
def killE (θ : Oid → Oid) (ol : List (Oid × Ob)) : List (Oid × Option Ob) := ol.map fun q => (θ q.1, match q.2 with | .pool e u _ => some (.pool e u []) | _ => none)
theorem kill_at {θ : Oid → Oid} {ol0 : List (Oid × Option Ob)} : ∀ {ol : List (Oid × Ob)}, (∀ p e u xss, (p, Ob.pool e u xss) ∈ ol → (∀ k, θ (kid p k) = kid (θ p) k) ∧ poolAt ol0 (θ p) = some (.pool e u xss)) → ∀ k, (k ∈ (nmL ol).map θ → mkOb (killE θ ol ++ ol0) k = none) ∧ (k ∉ (nmL ol).map θ → mkOb (killE θ ol ++ ol0) k = mkOb ol0 k)
  | [], _, k => ⟨fun h => by simp [nmL, exL] at h, fun _ => rfl⟩
  | (p, o) :: r, h, k => by
    obtain ⟨i1, i2⟩ := kill_at (ol := r) (fun p e u xss hm => h p e u xss (List.mem_cons_of_mem _ hm)) k
    cases o with
    | pool e u xss =>
      obtain ⟨g1, g2⟩ := h p e u xss List.mem_cons_self
      have hnm : ∀ x, x ∈ (nmL ((p, Ob.pool e u xss) :: r)).map θ ↔ (∃ j row, xss[j]? = some row ∧ x = kid (θ p) j) ∨ x ∈ (nmL r).map θ := by
        intro x
        simp only [nmL, exL, List.map_append, List.mem_append, List.map_map]
        constructor
        · rintro (hx | hx)
          · obtain ⟨⟨row, j⟩, hz, rfl⟩ := List.mem_map.1 hx
            rw [List.mem_zipIdx_iff_getElem?] at hz
            exact .inl ⟨j, row, hz, g1 j⟩
          · exact .inr hx
        · rintro (⟨j, row, hj, rfl⟩ | hx)
          · exact .inl (List.mem_map.2 ⟨(row, j), by rw [List.mem_zipIdx_iff_getElem?]; exact hj, g1 j⟩)
          · exact .inr hx
      have e1 : mkOb (killE θ ((p, Ob.pool e u xss) :: r) ++ ol0) k = if k.1.1 = (θ p).1.1 ∧ k.2 = (θ p).2 ∧ k.1.2 ≠ 0 then none else mkOb (killE θ r ++ ol0) k := kill_pool k
      rw [e1, hnm]
      rcases kid_or k (θ p) with ⟨j, rfl⟩ | h2
      · rw [if_pos ⟨rfl, rfl, by simp [kid]⟩]
        refine ⟨fun _ => rfl, fun hn => ?_⟩
        rw [poolAt_mk g2]
        cases hj : xss[j]? with
        | none => rfl
        | some row => exact absurd (.inl ⟨j, row, hj, rfl⟩) hn
      · rw [if_neg (pool_ne h2)]
        exact ⟨fun hx => i1 (hx.resolve_left fun ⟨j, row, _, e⟩ => h2 j e), fun hn => i2 fun hx => hn (.inr hx)⟩
    | _ =>
      have e1 : ∀ o : Ob, o.isPool = false → mkOb ((θ p, none) :: (killE θ r ++ ol0)) k = if k = θ p then none else mkOb (killE θ r ++ ol0) k := fun _ _ => kill_none k
      simp only [killE, List.map_cons, List.cons_append] at i1 i2 ⊢
      rw [kill_none]
      simp only [nmL, exL, List.map_cons, List.mem_cons] at i1 i2 ⊢
      by_cases hk : k = θ p
      · rw [if_pos hk]
        exact ⟨fun _ => rfl, fun hn => absurd (.inl hk) hn⟩
      · rw [if_neg hk]
        exact ⟨fun hx => i1 (hx.resolve_left hk), fun hn => i2 fun hx => hn (.inr hx)⟩

theorem newN_kid {θ : Oid → Oid} {i p : Oid} (h : p.2 = 0 → ∀ k, θ (kid p k) = kid (θ p) k) (k : Nat) : newN θ i (kid p k) = kid (newN θ i p) k := by
  unfold newN
  have e : (kid p k).2 = p.2 := rfl
  rw [e]
  by_cases h0 : p.2 = 0
  · rw [if_pos h0, if_pos h0, h h0]
  · rw [if_neg h0, if_neg h0]; rfl
theorem exL_exp : ∀ {l : List (Oid × Ob)} {a : Oid × Ob}, a ∈ l → a.2.isPool = false → (a.1, a.2.exp) ∈ exL l
  | x :: r, a, h, hp => by
    obtain ⟨x1, x2⟩ := x
    rcases List.mem_cons.1 h with rfl | h
    · cases x2 <;> first | (simp only [exL, Ob.exp]; exact List.mem_cons_self) | cases hp
    · have := exL_exp h hp
      cases x2 <;> simp only [exL] <;> first | exact List.mem_cons_of_mem _ this | exact List.mem_append_right _ this
theorem namesN_ren (ν : Oid → Oid) : ∀ l : List (Oid × Ob), namesN (renE ν l) = (namesN l).map ν
  | [] => rfl
  | (x1, x2) :: r => by
    have ih := namesN_ren ν r
    cases x2 <;> simp_all [namesN, renE, Ob.ren, Ob.isPool]
theorem namesP_ren (ν : Oid → Oid) : ∀ l : List (Oid × Ob), namesP (renE ν l) = (namesP l).map ν
  | [] => rfl
  | (x1, x2) :: r => by
    have ih := namesP_ren ν r
    cases x2 <;> simp_all [namesP, renE, Ob.ren, Ob.isPool]
theorem ofN0 {l : List (Oid × Ob)} {i : Oid} (hi : i ∈ namesN l) : ∃ o, (i, o) ∈ l ∧ o.isPool = false := by
  obtain ⟨q, hq, rfl⟩ := List.mem_map.1 hi
  obtain ⟨h1, h2⟩ := List.mem_filter.1 hq
  exact ⟨q.2, h1, by simpa using h2⟩
theorem ofP0 {l : List (Oid × Ob)} {i : Oid} (hi : i ∈ namesP l) : ∃ e u xss, (i, Ob.pool e u xss) ∈ l := by
  obtain ⟨⟨j, o⟩, hq, e0⟩ := List.mem_map.1 hi
  obtain rfl : j = i := e0
  obtain ⟨h1, h2⟩ := List.mem_filter.1 hq
  cases o <;> first | exact ⟨_, _, _, h1⟩ | cases h2
/-- What comes of the objects. -/
theorem updM_at {θ : Oid → Oid} {i : Oid} {ol us : List (Oid × Ob)} {ob : Oid → Option Ob} (hnd : (nmL us).Nodup) (hinj : ∀ j ∈ nmL us, ∀ k ∈ nmL us, newN θ i j = newN θ i k → j = k) :
    (∀ j q, (j, q) ∈ exL us → applyU (updM θ i ol us) ob (newN θ i j) = some (q.ren (newN θ i))) ∧ ∀ k, (∀ j ∈ nmL us, newN θ i j ≠ k) → applyU (updM θ i ol us) ob k = if k ∈ (nmL ol).map θ then none else ob k := by
  have hnm : ∀ {l : List (Oid × Ob)} {q}, q ∈ exL l → q.1 ∈ nmL l := fun hq => List.mem_map.2 ⟨_, hq, rfl⟩
  refine ⟨fun j q hq => ?_, fun k hk => ?_⟩
  · have hkeys : (((exL us).map fun q => (newN θ i q.1, some (q.2.ren (newN θ i)))).map (·.1)).Nodup := by
      rw [List.map_map]
      have : ((exL us).map ((·.1) ∘ fun q : Oid × Ob => (newN θ i q.1, some (q.2.ren (newN θ i))))) = (nmL us).map (newN θ i) := by
        unfold nmL; rw [List.map_map]; rfl
      rw [this]
      exact nd_map hnd hinj
    have := fold_mem (fun u : Oid × Option Ob => u.2) (fun u => u.1) ((exL us).map fun q => (newN θ i q.1, some (q.2.ren (newN θ i)))) (applyU ((exL ol).map fun q => (θ q.1, none)) ob) (newN θ i j, some (q.ren (newN θ i))) hkeys (List.mem_map.2 ⟨(j, q), hq, rfl⟩)
    unfold applyU updM
    rw [List.foldl_append]
    exact this
  · have e1 : applyU (updM θ i ol us) ob k = applyU ((exL ol).map fun q => (θ q.1, none)) ob k := by
      have := applyU_none (us := (exL us).map fun q => (newN θ i q.1, some (q.2.ren (newN θ i)))) (ob := applyU ((exL ol).map fun q => (θ q.1, none)) ob) (j := k) fun u hu => by
        obtain ⟨q, hq, rfl⟩ := List.mem_map.1 hu
        exact hk q.1 (hnm hq)
      rw [← this]
      unfold applyU updM
      rw [List.foldl_append]
    rw [e1]
    split
    · rename_i hk'
      obtain ⟨j, hj, rfl⟩ := List.mem_map.1 hk'
      obtain ⟨q, hq, rfl⟩ := List.mem_map.1 hj
      exact (applyU_free ((exL ol).map fun q => (θ q.1, none)) ob (fun u hu => by obtain ⟨_, _, rfl⟩ := List.mem_map.1 hu; rfl)).2 (θ q.1, none) (List.mem_map.2 ⟨q, hq, rfl⟩)
    · rename_i hk'
      exact applyU_none fun u hu e => hk' (by obtain ⟨q, hq, rfl⟩ := List.mem_map.1 hu; exact List.mem_map.2 ⟨q.1, hnm hq, e⟩)
theorem ex_nd {us : List (Oid × Ob)} (nN : (namesN us).Nodup) (nP : (namesP us).Nodup) (h0 : ∀ q ∈ us, q.1.1.2 = 0) : (nmL us).Nodup := by
  induction us with
  | nil => exact List.nodup_nil
  | cons x r ih =>
    obtain ⟨p, o⟩ := x
    have h0' : ∀ q ∈ r, q.1.1.2 = 0 := fun q hq => h0 q (List.mem_cons_of_mem _ hq)
    have hp0 : p.1.2 = 0 := h0 (p, o) List.mem_cons_self
    cases o with
    | pool e u xss =>
      have nP' : (p :: namesP r).Nodup := nP
      obtain ⟨n1, n2⟩ := List.nodup_cons.1 nP'
      have ihr := ih nN n2 h0'
      unfold nmL at ihr ⊢
      simp only [exL, List.map_append, List.map_map]
      refine List.nodup_append.2 ⟨?_, ihr, fun a ha b hb e' => ?_⟩
      · have : (xss.zipIdx.map ((fun x => x.1) ∘ fun x : List u.D × Nat => (kid p x.2, Ob.arr e u x.1))) = (xss.zipIdx.map (·.2)).map (kid p) := by
          rw [List.map_map]; rfl
        rw [this, List.zipIdx_map_snd]
        exact List.pairwise_map.2 ((List.pairwise_lt_range' (s := 0) (n := xss.length)).imp fun h e => by have := kid_inj e; omega)
      · subst e'
        obtain ⟨x, _, rfl⟩ := List.mem_map.1 ha
        obtain ⟨q, hq, e'⟩ := List.mem_map.1 hb
        have e' : q.1 = kid p x.2 := e'
        rcases exL_mem hq with ⟨p', e1, u', xss', k', row, m1, m2, rfl⟩ | ⟨o, m1, m2, m3⟩
        · have e' : kid p' k' = kid p x.2 := e'
          have hp1 : p'.1.2 = 0 := h0' _ m1
          have hb : p' = p := by rw [← baseO_kid hp1 k', e', baseO_kid hp0]
          subst hb
          exact n1 (memP0 m1 rfl)
        · have := h0' _ m1
          simp only [e'] at this
          simp [kid] at this
    | _ =>
      have nN' : (p :: namesN r).Nodup := nN
      obtain ⟨n1, n2⟩ := List.nodup_cons.1 nN'
      have ihr := ih n2 nP h0'
      unfold nmL at ihr ⊢
      simp only [exL, List.map_cons]
      refine List.nodup_cons.2 ⟨fun hm => ?_, ihr⟩
      obtain ⟨q, hq, e'⟩ := List.mem_map.1 hm
      rcases exL_mem hq with ⟨p', e1, u', xss', k', row, m1, m2, rfl⟩ | ⟨o, m1, m2, m3⟩
      · rw [← e'] at hp0
        simp [kid] at hp0
      · exact n1 (by rw [← e']; exact memN0 (q := (q.1, o)) m1 m2)
/-- What may come of a call. -/
def newB (ol us : List (Oid × Ob)) : Bool := (ndB (namesN us) && ndB (namesP us)) && ((us.all fun q => q.1.2 == 1 || (q.1.2 == 0 && ((namesN ol).contains q.1 && !q.2.isPool))) && base0 us)
theorem newB_ex {ol us : List (Oid × Ob)} (h : newB ol us = true) : ∀ q ∈ exL us, q.1.2 = 1 ∨ (q.1.2 = 0 ∧ q.1 ∈ nmL ol) := by
  simp only [newB, Bool.and_eq_true] at h
  obtain ⟨_, hug, _⟩ := h
  rw [List.all_eq_true] at hug
  intro q hq
  rcases exL_mem hq with ⟨p, e, u, xss, k, row, m1, m2, rfl⟩ | ⟨o, m1, m2, m3⟩
  · have := hug _ m1
    simp only [Ob.isPool, Bool.not_true, Bool.and_false, Bool.or_false, beq_iff_eq] at this
    exact .inl this
  · have := hug _ m1
    simp only [Bool.or_eq_true, Bool.and_eq_true, beq_iff_eq] at this
    rcases this with h | ⟨h, h', _⟩
    · exact .inl h
    · refine .inr ⟨h, ?_⟩
      obtain ⟨o', ho, hp⟩ := ofN0 (List.contains_iff_mem.1 h')
      exact List.mem_map.2 ⟨_, exL_exp ho hp, rfl⟩
/-- The caller's list behind the call. -/
theorem upd_list {l : List (Oid × Oid)} {i : Oid} {ol us : List (Oid × Ob)} {ol0 : List (Oid × Option Ob)} (hl : keys0 l = true) (h0 : base0 ol = true) (hR : ObsR ol0 (renF l) ol) (hB : newB ol us = true) (hfr : noGen i.2 ol0 = true) (hij : inj0 (renF l) ol = true) :
    applyU (updM (renF l) i ol us) (mkOb ol0) = mkOb (someL (renE (newN (renF l) i) us) ++ (killE (renF l) ol ++ ol0)) := by
  have hpool : ∀ {l' : List (Oid × Ob)}, base0 l' = true → (∀ q ∈ l', q.1.1.2 = 0) ∧ ∀ j e p u xss, (j, Ob.mat e p u xss) ∈ l' → p.1.2 = 0 := fun h => by
    unfold base0 at h
    rw [List.all_eq_true] at h
    refine ⟨fun q hq => ?_, fun j e p u xss hq => ?_⟩
    · have := h q hq
      simp only [Bool.and_eq_true, beq_iff_eq] at this
      exact this.1
    · have := h _ hq
      simp only [Bool.and_eq_true, beq_iff_eq] at this
      exact this.2
  have husn := newB_ex hB
  simp only [newB, Bool.and_eq_true] at hB
  obtain ⟨hnd, hug, hu0⟩ := hB
  obtain ⟨b1, b2⟩ := hpool h0
  obtain ⟨d1, d2⟩ := hpool hu0
  have nN := ndB_spec hnd.1
  have nP := ndB_spec hnd.2
  rw [List.all_eq_true] at hug
  let θ := renF l
  let ν := newN θ i
  have hθk : ∀ p e u xss, (p, Ob.pool e u xss) ∈ ol → ∀ k, θ (kid p k) = kid (θ p) k := fun p e u xss hm k => renF_kid hl (b1 _ hm) k
  have hνk : ∀ p, p.1.2 = 0 → ∀ k, ν (kid p k) = kid (ν p) k := fun p hp k => newN_kid (fun _ k => renF_kid hl hp k) k
  have hget := obsR_ex hl hR (base0_pl h0)
  have hold : ∀ j ∈ nmL ol, ∃ o, mkOb ol0 (θ j) = some o := fun j hj => by
    obtain ⟨q, hq, rfl⟩ := List.mem_map.1 hj
    exact ⟨_, hget q hq⟩
  have hgenθ : ∀ j ∈ nmL ol, (θ j).2 ≠ i.2 := fun j hj e => by
    obtain ⟨o, ho⟩ := hold j hj
    rw [noGen_none hfr _ e] at ho
    cases ho
  have hex := exL_ren (ν := ν) (us := us) (fun p e u xss hm => hνk p (d1 _ hm)) (fun j e p u xss hm => hνk p (d2 j e p u xss hm))
  have hθinj := ex_inj hθk hij h0
  have hνcase : ∀ j ∈ nmL us, (j.2 = 0 ∧ j ∈ nmL ol ∧ ν j = θ j) ∨ (j.2 = 1 ∧ ν j = ((i.1.1 * 16 + j.1.1, j.1.2), i.2)) := by
    intro j hj
    obtain ⟨q, hq, rfl⟩ := List.mem_map.1 hj
    rcases husn q hq with h | ⟨h, h'⟩
    · exact .inr ⟨h, by simp [ν, newN, h]⟩
    · exact .inl ⟨h, h', by simp [ν, newN, h]⟩
  have hνinj : ∀ j ∈ nmL us, ∀ k ∈ nmL us, ν j = ν k → j = k := by
    intro j hj k hk e
    rcases hνcase j hj with ⟨a1, a2, a3⟩ | ⟨a1, a3⟩ <;> rcases hνcase k hk with ⟨b1, b2, b3⟩ | ⟨b1, b3⟩
    · rw [a3, b3] at e
      obtain ⟨r, hr, er⟩ := List.mem_map.1 a2
      obtain ⟨r', hr', er'⟩ := List.mem_map.1 b2
      have := hθinj r hr r' hr' (by rw [er, er']; exact e)
      rw [← er, ← er', this]
    · have := hgenθ _ a2
      rw [← a3, e, b3] at this
      exact absurd rfl this
    · have := hgenθ _ b2
      rw [← b3, ← e, a3] at this
      exact absurd rfl this
    · rw [a3, b3] at e
      obtain ⟨⟨x1, x2⟩, x3⟩ := j
      obtain ⟨⟨y1, y2⟩, y3⟩ := k
      simp only [Prod.mk.injEq] at *
      omega
  have hNm : ∀ z ∈ namesN us, z ∈ nmL us := fun z hz => by
    obtain ⟨o, ho, hp⟩ := ofN0 hz
    exact List.mem_map.2 ⟨_, exL_exp ho hp, rfl⟩
  have hpg : ∀ p ∈ namesP us, p.2 = 1 ∧ ν p = ((i.1.1 * 16 + p.1.1, p.1.2), i.2) := by
    intro p hp
    obtain ⟨e, u, xss, hm⟩ := ofP0 hp
    have := hug _ hm
    simp only [Ob.isPool, Bool.not_true, Bool.and_false, Bool.or_false, beq_iff_eq] at this
    exact ⟨this, by simp [ν, newN, this]⟩
  have hP0 : ∀ p ∈ namesP us, p.1.2 = 0 := fun p hp => by
    obtain ⟨e, u, xss, hm⟩ := ofP0 hp
    exact d1 _ hm
  have hndN : (namesN (renE ν us)).Nodup := by
    rw [namesN_ren]
    exact nd_map nN fun x hx y hy e => hνinj x (hNm x hx) y (hNm y hy) e
  have hndP : (namesP (renE ν us)).Nodup := by
    rw [namesP_ren]
    refine nd_map nP fun x hx y hy e => ?_
    obtain ⟨g1, e1⟩ := hpg _ hx
    obtain ⟨g2, e2⟩ := hpg _ hy
    rw [e1, e2] at e
    obtain ⟨⟨x1, x2⟩, x3⟩ := x
    obtain ⟨⟨y1, y2⟩, y3⟩ := y
    simp only [Prod.mk.injEq] at *
    omega
  have hfound := mkOb_found (rest := killE θ ol ++ ol0) hndN hndP (fun p hp => by
    rw [namesP_ren] at hp
    obtain ⟨p0, hp0, rfl⟩ := List.mem_map.1 hp
    rw [(hpg p0 hp0).2]; exact hP0 p0 hp0) (fun z hz p hp k e => by
    rw [namesN_ren] at hz
    rw [namesP_ren] at hp
    obtain ⟨z0, hz0, rfl⟩ := List.mem_map.1 hz
    obtain ⟨p0, hp0, rfl⟩ := List.mem_map.1 hp
    rw [(hpg p0 hp0).2] at e
    rcases hνcase z0 (hNm z0 hz0) with ⟨a1, a2, a3⟩ | ⟨a1, a3⟩
    · have := hgenθ _ a2
      rw [← a3, e] at this
      exact this rfl
    · rw [a3] at e
      have : z0.1.2 = 0 := by
        obtain ⟨o, ho, _⟩ := ofN0 hz0
        exact d1 _ ho
      have h9 := congrArg (fun i : Oid => i.1.2) e
      simp only [kid] at h9
      omega)
  have hkill := kill_at (θ := θ) (ol0 := ol0) (ol := ol) (fun p e u xss hm => ⟨hθk p e u xss hm, by
    have := obsR_mem hR _ hm
    simpa only [getE, Ob.isPool, if_true, Ob.ren] using this⟩)
  obtain ⟨u1, u2⟩ := updM_at (ob := mkOb ol0) (ol := ol) (ex_nd nN nP d1) hνinj
  funext k
  by_cases hex' : ∃ j ∈ nmL us, ν j = k
  · obtain ⟨j, hj, rfl⟩ := hex'
    obtain ⟨q, hq, rfl⟩ := List.mem_map.1 hj
    rw [u1 q.1 q.2 hq]
    exact (hfound (ν q.1, q.2.ren ν) (by rw [hex]; exact List.mem_map.2 ⟨q, hq, rfl⟩)).symm
  · have hno : ∀ j ∈ nmL us, ν j ≠ k := fun j hj e => hex' ⟨j, hj, e⟩
    rw [u2 k hno]
    have hno' : ∀ q ∈ exL (renE ν us), q.1 ≠ k := fun q hq e => by
      rw [hex] at hq
      obtain ⟨q0, hq0, rfl⟩ := List.mem_map.1 hq
      exact hno q0.1 (List.mem_map.2 ⟨q0, hq0, rfl⟩) e
    have hrest : mkOb (killE θ ol ++ ol0) k = if k ∈ (nmL ol).map θ then none else mkOb ol0 k := by
      split
      · rename_i h; exact (hkill k).1 h
      · rename_i h; exact (hkill k).2 h
    rcases mkOb_past (rest := killE θ ol ++ ol0) hno' with h | ⟨h, p, e, u, xss, hm, hk⟩
    · rw [← hrest]; exact h.symm
    · have hp : p ∈ namesP (renE ν us) := memP0 hm rfl
      rw [namesP_ren] at hp
      obtain ⟨p0, hp0, rfl⟩ := List.mem_map.1 hp
      have hk2 : k.2 = i.2 := by rw [hk, (hpg p0 hp0).2]
      have h1 : mkOb (someL (renE (newN (renF l) i) us) ++ (killE (renF l) ol ++ ol0)) k = none := h
      rw [h1]
      split
      · rfl
      · exact noGen_none hfr k hk2
end Go.Proofs.YtefolocdfgelcaaDoor
