/- An abstract machine: what a call comes to; no condition. -/
import Derived.Test.YtefolocdfgelcaaDoorE10
namespace Go.Proofs.YtefolocdfgelcaaDoor
open Go.RowKit Go.Deep

/-- The name of the j-th row that a call makes. -/
def mkId (i : Oid) (j : Nat) : Oid := ((i.1.1 * 16 + j, 0), i.2)
theorem mkId_inj {i : Oid} {j k : Nat} (h : mkId i j = mkId i k) : j = k := by
  have := congrArg (fun i : Oid => i.1.1) h
  simp only [mkId] at this
  omega
section
variable {P : Program} {G : World → Prop} {w0 w w' : World} {ob : Oid → Option Ob} {σ : Oid → Option Loc} {K K' : Nat → Prop} {im : Nat → Prop}

def putOb (ns : List (Oid × Ob × Loc)) (ob : Oid → Option Ob) : Oid → Option Ob := ns.foldl (fun ob x => upd ob x.1 (some x.2.1)) ob
def putLoc (ns : List (Oid × Ob × Loc)) (σ : Oid → Option Loc) : Oid → Option Loc := ns.foldl (fun σ x => upd σ x.1 (some x.2.2)) σ
theorem fold_other {α β : Type} (g : β → α) (k : β → Oid) : ∀ (ns : List β) (f : Oid → α) (j : Oid), (∀ x ∈ ns, k x ≠ j) → ns.foldl (fun f x => upd f (k x) (g x)) f j = f j
  | [], _, _, _ => rfl
  | x :: r, f, j, h => by
    rw [List.foldl_cons, fold_other g k r _ j (fun y hy => h y (by simp [hy])), upd_other _ _ _ _ (fun e => h x (by simp) e.symm)]
theorem fold_mem {α β : Type} (g : β → α) (k : β → Oid) : ∀ (ns : List β) (f : Oid → α) (x : β), (ns.map k).Nodup → x ∈ ns → ns.foldl (fun f x => upd f (k x) (g x)) f (k x) = g x
  | [], _, _, _, h => by cases h
  | y :: r, f, x, nd, h => by
    rw [List.map_cons, List.nodup_cons] at nd
    rw [List.foldl_cons]
    rcases List.mem_cons.1 h with rfl | h
    · rw [fold_other g k r _ _ (fun z hz e => nd.1 (by rw [← e]; exact List.mem_map_of_mem hz)), upd_same]
    · exact fold_mem g k r _ x nd.2 h

theorem applyU_none {us : List (Oid × Option Ob)} {ob : Oid → Option Ob} {j : Oid} (h : ∀ u ∈ us, u.1 ≠ j) : applyU us ob j = ob j := by
  induction us generalizing ob with
  | nil => rfl
  | cons u us ih =>
    have := ih (ob := upd ob u.1 u.2) (fun v hv => h v (by simp [hv]))
    simp only [applyU, List.foldl_cons] at this ⊢
    rw [this, upd_other _ _ _ _ (fun e => h u (by simp) e.symm)]

/-- New rows in new blocks. -/
theorem Mem0.news (h : Mem0 G w0 ob σ K w) (hb : Below w.heap.size w w') (hK : ∀ n, K n → K' n) (ns : List (Oid × Ob × Loc)) (nd : (ns.map (·.1)).Nodup) (hi : ∀ x ∈ ns, σ x.1 = none ∧ K' x.1.2)
    (hl : ∀ x ∈ ns, ∀ b c s, x.2.2 = .at_ b c s → w.heap.size ≤ b ∧ b < w'.heap.size ∧ c ≤ maxLen) (hd : ∀ x ∈ ns, ∀ y ∈ ns, ∀ b c s c' s', x.2.2 = .at_ b c s → y.2.2 = .at_ b c' s' → x.1 = y.1)
    (ho : ∀ x ∈ ns, ∀ σ' im', (∀ y ∈ ns, σ' y.1 = some y.2.2) → x.2.1.Rep w0.heap.size σ' im' w' x.2.2) :
    Later σ (putLoc ns σ) (imm ob σ) (imm (putOb ns ob) (putLoc ns σ)) w w' ∧ Mem0 G w0 (putOb ns ob) (putLoc ns σ) K' w' := by
  have case : ∀ j, (∃ x ∈ ns, x.1 = j ∧ putOb ns ob j = some x.2.1 ∧ putLoc ns σ j = some x.2.2) ∨ ((∀ x ∈ ns, x.1 ≠ j) ∧ putOb ns ob j = ob j ∧ putLoc ns σ j = σ j) := by
    intro j
    by_cases hj : ∃ x ∈ ns, x.1 = j
    · obtain ⟨x, hx, rfl⟩ := hj
      exact .inl ⟨x, hx, rfl, fold_mem (fun x : Oid × Ob × Loc => some x.2.1) (·.1) ns ob x nd hx, fold_mem (fun x : Oid × Ob × Loc => some x.2.2) (·.1) ns σ x nd hx⟩
    · have hj' : ∀ x ∈ ns, x.1 ≠ j := fun x hx e => hj ⟨x, hx, e⟩
      exact .inr ⟨hj', fold_other (fun x : Oid × Ob × Loc => some x.2.1) (·.1) ns ob j hj', fold_other (fun x : Oid × Ob × Loc => some x.2.2) (·.1) ns σ j hj'⟩
  have hL : Later σ (putLoc ns σ) (imm ob σ) (imm (putOb ns ob) (putLoc ns σ)) w w' := by
    refine ⟨fun j k hj => ?_, fun b hlt him j o c s hoj hsj => ?_, fun b hlt _ => hb.block b hlt, hb.size⟩
    · rcases case j with ⟨x, hx, rfl, _, _⟩ | ⟨_, _, e⟩
      · rw [(hi x hx).1] at hj; cases hj
      · rw [e]; exact hj
    · rcases case j with ⟨x, hx, rfl, _, e⟩ | ⟨_, e1, e2⟩
      · rw [e] at hsj
        have := (hl x hx b c s (Option.some.inj hsj)).1
        omega
      · rw [e1] at hoj; rw [e2] at hsj
        exact him j o c s hoj hsj
  refine ⟨hL, h.below.trans (hb.mono h.below.size), h.inv, fun j l hj => ?_, fun j b c s hj => ?_, fun j b c s hj => ?_, fun j k b c s c' s' oj ok hoj hok hj hk => ?_, fun j o l hoj hj => ?_⟩
  · rcases case j with ⟨x, hx, rfl, _, _⟩ | ⟨_, _, e⟩
    · exact (hi x hx).2
    · rw [e] at hj; exact hK _ (h.gen j l hj)
  · rcases case j with ⟨x, hx, rfl, _, e⟩ | ⟨_, _, e⟩
    · rw [e] at hj
      have := hl x hx b c s (Option.some.inj hj)
      exact ⟨Nat.le_trans h.below.size this.1, this.2.1⟩
    · rw [e] at hj
      exact ⟨(h.lt j b c s hj).1, Nat.lt_of_lt_of_le (h.lt j b c s hj).2 hb.size⟩
  · rcases case j with ⟨x, hx, rfl, _, e⟩ | ⟨_, _, e⟩
    · rw [e] at hj
      exact (hl x hx b c s (Option.some.inj hj)).2.2
    · rw [e] at hj; exact h.cap j b c s hj
  · rcases case j with ⟨x, hx, rfl, _, e⟩ | ⟨_, e1, e2⟩ <;> rcases case k with ⟨y, hy, rfl, _, e'⟩ | ⟨_, e1', e2'⟩
    · rw [e] at hj; rw [e'] at hk
      exact hd x hx y hy b c s c' s' (Option.some.inj hj) (Option.some.inj hk)
    · rw [e] at hj; rw [e2'] at hk
      have := (hl x hx b c s (Option.some.inj hj)).1
      have := (h.lt k b c' s' hk).2
      omega
    · rw [e2] at hj; rw [e'] at hk
      have := (hl y hy b c' s' (Option.some.inj hk)).1
      have := (h.lt j b c s hj).2
      omega
    · rw [e1] at hoj; rw [e2] at hj; rw [e1'] at hok; rw [e2'] at hk
      exact h.inj j k b c s c' s' oj ok hoj hok hj hk
  · rcases case j with ⟨x, hx, rfl, e, e'⟩ | ⟨_, e1, e2⟩
    · rw [e] at hoj; rw [e'] at hj
      obtain rfl := Option.some.inj hoj
      obtain rfl := Option.some.inj hj
      exact ho x hx _ _ fun y hy => fold_mem (fun x : Oid × Ob × Loc => some x.2.2) (·.1) ns σ y nd hy
    · rw [e1] at hoj; rw [e2] at hj
      exact (h.obs j o l hoj hj).later hL fun b c s el => hb.block b (h.lt j b c s (el ▸ hj)).2

/-- The rows that a new row of rows leads to. -/
def kidNews (p : Oid) (e : TypeId) (u : Ty) (xss : List (List u.D)) (kl : List Loc) : List (Oid × Ob × Loc) := (xss.zip kl).zipIdx.map fun x => (kid p x.2, .arr e u x.1.1, x.1.2)
/-- The new rows of a result, and their names. -/
def newsOf (mk : Nat → Oid) : Nat → List RL → List Loc → List (Oid × Ob × Loc)
  | j, .new e t xs :: r, l :: ls => (mk j, .arr e t xs, l) :: newsOf mk (j + 1) r ls
  | j, .newM e e' u xss :: r, l :: ls => (mk j, .vec e 1 xss.length (hdL (mk j) u xss), l) :: (kidNews (mk j) e' u xss (ls.take xss.length) ++ newsOf mk (j + 1) r (ls.drop xss.length))
  | j, .sc _ :: r, ls => newsOf mk j r ls
  | j, .arg _ _ :: r, ls => newsOf mk j r ls
  | j, .frz _ :: r, ls => newsOf mk j r ls
  | _, _, _ => []
theorem kidNews_mem {p : Oid} {e : TypeId} {u : Ty} {xss : List (List u.D)} {kl : List Loc} {x : Oid × Ob × Loc} (h : x ∈ kidNews p e u xss kl) : ∃ k xs l, xss[k]? = some xs ∧ kl[k]? = some l ∧ x = (kid p k, .arr e u xs, l) := by
  obtain ⟨y, hy, rfl⟩ := List.mem_map.1 h
  obtain ⟨⟨xs, l⟩, k⟩ := y
  rw [List.mem_zipIdx_iff_getElem?] at hy
  have hy' : (xss.zip kl)[k]? = some (xs, l) := hy
  rw [List.getElem?_zip_eq_some] at hy'
  exact ⟨k, xs, l, hy'.1, hy'.2, rfl⟩
theorem kidNews_get {p : Oid} {e : TypeId} {u : Ty} {xss : List (List u.D)} {kl : List Loc} {k : Nat} {xs : List u.D} {l : Loc} (h1 : xss[k]? = some xs) (h2 : kl[k]? = some l) : (kid p k, Ob.arr e u xs, l) ∈ kidNews p e u xss kl := by
  refine List.mem_map.2 ⟨((xs, l), k), ?_, rfl⟩
  rw [List.mem_zipIdx_iff_getElem?]
  show (xss.zip kl)[k]? = some (xs, l)
  rw [List.getElem?_zip_eq_some]
  exact ⟨h1, h2⟩
theorem newsOf_ids {mk : Nat → Oid} : ∀ (rs : List RL) (ls : List Loc) (j : Nat) (x : Oid × Ob × Loc), x ∈ newsOf mk j rs ls → ∃ k, j ≤ k ∧ x.1.1.1 = (mk k).1.1 ∧ x.1.2 = (mk k).2
  | .new e t xs :: r, l :: ls, j, x, h => by
    simp only [newsOf] at h
    rcases List.mem_cons.1 h with rfl | h
    · exact ⟨j, Nat.le_refl _, rfl, rfl⟩
    · obtain ⟨k, h1, h2⟩ := newsOf_ids r ls (j + 1) x h
      exact ⟨k, by omega, h2⟩
  | .newM e e' u xss :: r, l :: ls, j, x, h => by
    simp only [newsOf] at h
    rcases List.mem_cons.1 h with rfl | h
    · exact ⟨j, Nat.le_refl _, rfl, rfl⟩
    · rcases List.mem_append.1 h with h | h
      · obtain ⟨k, xs, l, _, _, rfl⟩ := kidNews_mem h
        exact ⟨j, Nat.le_refl _, rfl, rfl⟩
      · obtain ⟨k, h1, h2⟩ := newsOf_ids r _ (j + 1) x h
        exact ⟨k, by omega, h2⟩
  | .sc _ :: r, ls, j, x, h => newsOf_ids r ls j x (by simpa [newsOf] using h)
  | .arg _ _ :: r, ls, j, x, h => newsOf_ids r ls j x (by simpa [newsOf] using h)
  | .frz _ :: r, ls, j, x, h => newsOf_ids r ls j x (by simpa [newsOf] using h)
  | [], _, _, _, h => by simp [newsOf] at h
  | .new _ _ _ :: _, [], _, _, h => by simp [newsOf] at h
  | .newM _ _ _ _ :: _, [], _, _, h => by simp [newsOf] at h
/-- Names that are told apart by their sites. -/
structure MkOK (mk : Nat → Oid) : Prop where
  top : ∀ j, (mk j).1.2 = 0
  inj : ∀ j k, (mk j).1.1 = (mk k).1.1 → j = k
theorem mkId_ok (i : Oid) : MkOK (mkId i) := ⟨fun _ => rfl, fun j k h => by simp only [mkId] at h; omega⟩
theorem kidNews_nd {p : Oid} {e : TypeId} {u : Ty} {xss : List (List u.D)} {kl : List Loc} : ((kidNews p e u xss kl).map (·.1)).Nodup := by
  unfold kidNews
  rw [List.map_map]
  have : ((xss.zip kl).zipIdx.map ((fun x => x.1) ∘ fun x : (List u.D × Loc) × Nat => (kid p x.2, Ob.arr e u x.1.1, x.1.2))) = ((xss.zip kl).zipIdx.map (·.2)).map (kid p) := by
    rw [List.map_map]; rfl
  rw [this, List.zipIdx_map_snd]
  exact List.pairwise_map.2 ((List.pairwise_lt_range' (s := 0) (n := (xss.zip kl).length)).imp fun h e => by have := kid_inj e; omega)
theorem newsOf_nd {mk : Nat → Oid} (hmk : MkOK mk) : ∀ (rs : List RL) (ls : List Loc) (j : Nat), ((newsOf mk j rs ls).map (·.1)).Nodup
  | .new e t xs :: r, l :: ls, j => by
    simp only [newsOf, List.map_cons, List.nodup_cons]
    refine ⟨fun h => ?_, newsOf_nd hmk r ls (j + 1)⟩
    obtain ⟨x, hx, e⟩ := List.mem_map.1 h
    obtain ⟨k, h1, h2, _⟩ := newsOf_ids r ls (j + 1) x hx
    rw [e] at h2
    have := hmk.inj _ _ h2
    omega
  | .newM e e' u xss :: r, l :: ls, j => by
    simp only [newsOf, List.map_cons, List.map_append, List.nodup_cons]
    refine ⟨fun h => ?_, List.nodup_append.2 ⟨kidNews_nd, newsOf_nd hmk r _ (j + 1), fun x hx y hy e => ?_⟩⟩
    · rcases List.mem_append.1 h with h | h
      · obtain ⟨x, hx, e⟩ := List.mem_map.1 h
        obtain ⟨k, xs, l, _, _, rfl⟩ := kidNews_mem hx
        have h0 := hmk.top j
        rw [← e] at h0
        simp [kid] at h0
      · obtain ⟨x, hx, e⟩ := List.mem_map.1 h
        obtain ⟨k, h1, h2, _⟩ := newsOf_ids r _ (j + 1) x hx
        rw [e] at h2
        have := hmk.inj _ _ h2
        omega
    · subst e
      obtain ⟨x', hx', rfl⟩ := List.mem_map.1 hx
      obtain ⟨k, xs, l, _, _, rfl⟩ := kidNews_mem hx'
      obtain ⟨y, hy, e⟩ := List.mem_map.1 hy
      obtain ⟨k', h1, h2, _⟩ := newsOf_ids r _ (j + 1) y hy
      rw [e] at h2
      have := hmk.inj j k' h2
      omega
  | .sc _ :: r, ls, j => by simpa [newsOf] using newsOf_nd hmk r ls j
  | .arg _ _ :: r, ls, j => by simpa [newsOf] using newsOf_nd hmk r ls j
  | .frz _ :: r, ls, j => by simpa [newsOf] using newsOf_nd hmk r ls j
  | [], _, _ => by simp [newsOf]
  | .new _ _ _ :: _, [], _ => by simp [newsOf]
  | .newM _ _ _ _ :: _, [], _ => by simp [newsOf]
theorem kidNews_locs {p : Oid} {e : TypeId} {u : Ty} {xss : List (List u.D)} {kl : List Loc} (h : kl.length = xss.length) : (kidNews p e u xss kl).map (·.2.2) = kl := by
  apply List.ext_getElem?
  intro k
  simp only [kidNews, List.map_map, List.getElem?_map, List.getElem?_zipIdx]
  by_cases hk : k < kl.length
  · have : (xss.zip kl)[k]? = some (xss[k]'(by omega), kl[k]) := by
      rw [List.getElem?_zip_eq_some]; exact ⟨List.getElem?_eq_getElem _, List.getElem?_eq_getElem _⟩
    rw [this, List.getElem?_eq_getElem hk]
    rfl
  · rw [List.getElem?_eq_none (by rw [List.length_zip]; omega), List.getElem?_eq_none (by omega)]
    rfl
theorem newsOf_locs {mk : Nat → Oid} {lo : Nat} {vs : List Value} : ∀ {rs : List RL} {us : List Value} {ls : List Loc} (j : Nat), RL.RepL lo im vs w rs us ls → (newsOf mk j rs ls).map (·.2.2) = ls
  | .new e t xs :: r, us, ls, j, ⟨l, ls', us', e1, e2, h1, h2, h3, h4⟩ => by
    subst e2
    simp only [newsOf, List.map_cons, newsOf_locs (j + 1) h4]
  | .newM e e' u xss :: r, us, ls, j, ⟨l, kl, ls', us', ks, e1, e2, ⟨⟨h1, _⟩, _, _⟩, h4⟩ => by
    subst e2
    simp only [newsOf, List.map_cons, List.map_append, List.take_left' h1, List.drop_left' h1, kidNews_locs h1, newsOf_locs (j + 1) h4]
  | .sc _ :: r, us, ls, j, ⟨_, _, _, _, _, h4⟩ => by simpa only [newsOf] using newsOf_locs j h4
  | .arg _ _ :: r, us, ls, j, ⟨_, _, _, _, h4⟩ => by simpa only [newsOf] using newsOf_locs j h4
  | .frz _ :: r, us, ls, j, ⟨_, _, _, _, _, h4⟩ => by simpa only [newsOf] using newsOf_locs j h4
  | [], us, ls, j, ⟨_, e⟩ => by subst e; simp [newsOf]
theorem apart_ns : ∀ {ns : List (Oid × Ob × Loc)}, apartL (ns.map (·.2.2)) → ∀ x ∈ ns, ∀ y ∈ ns, ∀ b c s c' s', x.2.2 = .at_ b c s → y.2.2 = .at_ b c' s' → x.1 = y.1
  | [], _, _, hx, _, _, _, _, _, _, _, _, _ => by cases hx
  | n :: ns, ha, x, hx, y, hy, b, c, s, c', s', ex, ey => by
    rcases List.mem_cons.1 hx with e1 | h1 <;> rcases List.mem_cons.1 hy with e2 | h2
    · rw [e1, e2]
    · subst e1
      exact (ha.1 b c s ex c' s' (List.mem_map.2 ⟨y, h2, ey⟩)).elim
    · subst e2
      exact (ha.1 b c' s' ey c s (List.mem_map.2 ⟨x, h1, ex⟩)).elim
    · exact apart_ns ha.2 x h1 y h2 b c s c' s' ex ey
theorem loc_own {lo : Nat} {e : TypeId} {sz n : Nat} {l : Loc} {vs : List Value} {σ' : Oid → Option Loc} {im' : Nat → Prop} {i : Oid} {t : Ty} (hs : σ' i = some l) (h2 : ownsV w lo e sz (l.val n) n vs) (h3 : ∀ b c s, l = .at_ b c s → s = t.size) : AV.Rep σ' im' w (.own i t 0 n) (l.val n) := by
  cases l with
  | nil =>
    rcases h2.2 with ⟨_, h0⟩ | ⟨_, _, _, e1, _⟩
    · exact .inl ⟨hs, rfl, h0, by rw [h0]; rfl⟩
    · cases e1
  | at_ b c s =>
    obtain rfl := h3 b c s rfl
    rcases h2.2 with ⟨e1, _⟩ | ⟨g, cap, cur, e1, _, _, hc, _⟩
    · cases e1
    · cases e1
      exact .inr (.inl ⟨b, c, hs, by omega, by simp [Loc.val]⟩)
theorem loc_facts {lo : Nat} {e : TypeId} {sz n : Nat} {l : Loc} {vs : List Value} (h2 : ownsV w lo e sz (l.val n) n vs) : ∀ b c s, l = .at_ b c s → lo ≤ b ∧ b < w.heap.size ∧ c ≤ maxLen := by
  intro b c s e
  subst e
  refine ⟨(h2.lt b rfl).1, (h2.lt b rfl).2, ?_⟩
  rcases h2.2 with ⟨e1, _⟩ | ⟨_, _, _, e1, _, _, _, hm, _⟩
  · cases e1
  · cases e1; exact hm
theorem hdL_get {p : Oid} {u : Ty} {xss : List (List u.D)} (k : Nat) : (hdL p u xss)[k]? = (xss[k]?).map fun xs => .own (kid p k) u 0 xs.length := by
  simp only [hdL, List.getElem?_map, List.getElem?_zipIdx]
  cases xss[k]? <;> simp
theorem hdL_len {p : Oid} {u : Ty} {xss : List (List u.D)} : (hdL p u xss).length = xss.length := by simp [hdL]
/-- The new objects read as they should, where they lie where they should. -/
theorem newsOf_rows {mk : Nat → Oid} {lo : Nat} {vs : List Value} : ∀ {rs : List RL} {us : List Value} {ls : List Loc} (j : Nat), RL.RepL lo im vs w rs us ls → ∀ x ∈ newsOf mk j rs ls,
    (∀ b c s, x.2.2 = .at_ b c s → lo ≤ b ∧ b < w.heap.size ∧ c ≤ maxLen) ∧ ∀ lo' σ' im', lo' ≤ lo → (∀ y ∈ newsOf mk j rs ls, σ' y.1 = some y.2.2) → x.2.1.Rep lo' σ' im' w x.2.2
  | .new e t xs :: r, us, ls, j, ⟨l, ls', us', e1, e2, h1, h2, h3, h4⟩, x, hx => by
    subst e2
    simp only [newsOf] at hx ⊢
    rcases List.mem_cons.1 hx with rfl | hx
    · exact ⟨loc_facts h2, fun lo' σ' im' hl hσ => ⟨h1, h2.low hl, h3⟩⟩
    · obtain ⟨q1, q2⟩ := newsOf_rows (j + 1) h4 x hx
      exact ⟨q1, fun lo' σ' im' hl hσ => q2 lo' σ' im' hl fun y hy => hσ y (by simp [hy])⟩
  | .newM e e' u xss :: r, us, ls, j, ⟨l, kl, ls', us', ks, e1, e2, ⟨⟨h1, h1'⟩, ⟨h2, h2'⟩, h3⟩, h4⟩, x, hx => by
    subst e2
    simp only [newsOf, List.take_left' h1, List.drop_left' h1] at hx ⊢
    rcases List.mem_cons.1 hx with rfl | hx
    · refine ⟨loc_facts h2, fun lo' σ' im' hl hσ => ⟨ks, h2.low hl, ?_, ?_, h2'⟩⟩
      · have hkl : ks.length = xss.length := by have := h2.1; omega
        refine AV.RepL.of_get (by rw [hkl, hdL_len]) fun k c v hc hv => ?_
        rw [hdL_get] at hc
        obtain ⟨xs, hxs, rfl⟩ := Option.map_eq_some_iff.1 hc
        have hlt := (List.getElem?_eq_some_iff.1 hxs).1
        have hkl : kl[k]? = some (kl[k]'(by omega)) := List.getElem?_eq_getElem _
        obtain ⟨g1, g2, g3⟩ := h3 k xs _ hxs hkl
        rw [hv] at g1
        obtain rfl := Option.some.inj g1
        exact loc_own (hσ _ (List.mem_cons_of_mem _ (List.mem_append.2 (.inl (kidNews_get hxs hkl))))) g2 g3
      · intro v hv
        obtain ⟨k, hk⟩ := List.getElem?_of_mem hv
        have hlt : k < xss.length := by have := (List.getElem?_eq_some_iff.1 hk).1; have := h2.1; omega
        obtain ⟨g1, _, _⟩ := h3 k _ _ (List.getElem?_eq_getElem hlt) (List.getElem?_eq_getElem (by omega))
        rw [hk] at g1
        obtain rfl := Option.some.inj g1
        cases kl[k]'(by omega) <;> rfl
    · rcases List.mem_append.1 hx with hx | hx
      · obtain ⟨k, xs, l, g1, g2, rfl⟩ := kidNews_mem hx
        obtain ⟨_, g3, g4⟩ := h3 k xs l g1 g2
        exact ⟨loc_facts g3, fun lo' σ' im' hl hσ => ⟨h1', g3.low hl, g4⟩⟩
      · obtain ⟨q1, q2⟩ := newsOf_rows (j + 1) h4 x hx
        exact ⟨q1, fun lo' σ' im' hl hσ => q2 lo' σ' im' hl fun y hy => hσ y (by simp [hy])⟩
  | .sc _ :: r, us, ls, j, ⟨_, _, _, _, _, h4⟩, x, hx => newsOf_rows j h4 x (by simpa [newsOf] using hx)
  | .arg _ _ :: r, us, ls, j, ⟨_, _, _, _, h4⟩, x, hx => newsOf_rows j h4 x (by simpa [newsOf] using hx)
  | .frz _ :: r, us, ls, j, ⟨_, _, _, _, _, h4⟩, x, hx => newsOf_rows j h4 x (by simpa [newsOf] using hx)
  | [], _, _, _, _, x, hx => by simp [newsOf] at hx
theorem kidsL_news {p : Oid} {e : TypeId} {u : Ty} {xss : List (List u.D)} {kl : List Loc} (h : kl.length = xss.length) : kidsL p e u xss = (kidNews p e u xss kl).map fun x => (x.1, some x.2.1) := by
  apply List.ext_getElem?
  intro k
  simp only [kidsL, kidNews, List.map_map, List.getElem?_map, List.getElem?_zipIdx]
  by_cases hk : k < xss.length
  · have : (xss.zip kl)[k]? = some (xss[k], kl[k]'(by omega)) := by
      rw [List.getElem?_zip_eq_some]; exact ⟨List.getElem?_eq_getElem _, List.getElem?_eq_getElem _⟩
    rw [this, List.getElem?_eq_getElem hk]
    rfl
  · rw [List.getElem?_eq_none (l := xss.zip kl) (by rw [List.length_zip]; omega), List.getElem?_eq_none (by omega)]
    rfl
theorem out_news {mk : Nat → Oid} {az : List AV} {vs : List Value} {lo : Nat} : ∀ {rs : List RL} {us : List Value} {ls : List Loc} (j : Nat), RL.RepL lo im vs w rs us ls → (RL.out mk az j rs).2 = (newsOf mk j rs ls).map fun x => (x.1, some x.2.1)
  | .new e t xs :: r, us, ls, j, ⟨l, ls', us', e1, e2, h1, h2, h3, h4⟩ => by
    subst e2
    simp only [RL.out, newsOf, List.map_cons, out_news (j + 1) h4]
  | .newM e e' u xss :: r, us, ls, j, ⟨l, kl, ls', us', ks, e1, e2, ⟨⟨h1, _⟩, _, _⟩, h4⟩ => by
    subst e2
    simp only [RL.out, newsOf, List.map_cons, List.map_append, List.take_left' h1, List.drop_left' h1, kidsL_news h1, out_news (j + 1) h4]
  | .sc _ :: r, us, ls, j, ⟨_, _, _, _, _, h4⟩ => by simpa only [RL.out, newsOf] using out_news j h4
  | .arg _ _ :: r, us, ls, j, ⟨_, _, _, _, h4⟩ => by simpa only [RL.out, newsOf] using out_news j h4
  | .frz _ :: r, us, ls, j, ⟨_, _, _, _, _, h4⟩ => by simpa only [RL.out, newsOf] using out_news j h4
  | [], us, ls, j, ⟨_, e⟩ => by subst e; simp [RL.out, newsOf]
theorem out_ob {mk : Nat → Oid} {az : List AV} {vs : List Value} {lo : Nat} {rs : List RL} {us : List Value} {ls : List Loc} (j : Nat) (ob : Oid → Option Ob) (h : RL.RepL lo im vs w rs us ls) : applyU (RL.out mk az j rs).2 ob = putOb (newsOf mk j rs ls) ob := by
  rw [out_news j h]
  unfold applyU putOb
  rw [List.foldl_map]
mutual
theorem gnd_mono {σ' : Oid → Option Loc} {im im' : Nat → Prop} (hi : ∀ b, im b → im' b) : ∀ (c : AV), c.gndB = true → ∀ (v : Value), AV.Rep (fun _ => none) im w c v → AV.Rep σ' im' w c v
  | .int .., _, _, h => h
  | .bool .., _, _, h => h
  | .str .., _, _, h => h
  | .nils, _, _, h => h
  | .tree t xs, _, _, ⟨A, c, l, e, hs⟩ => ⟨A, c, l, e, sl_mono (fun b _ hb => hi b hb) hs⟩
  | .mtree mt t es, _, _, ⟨b, e, h1, h2⟩ => ⟨b, e, hi b h1, h2⟩
  | .mp _, hg, _, _ => by cases hg
  | .agg cs, hg, _, ⟨vs, e, h⟩ => ⟨vs, e, gnd_monoL hi cs hg vs h⟩
  | .tup cs, hg, _, ⟨vs, e, h⟩ => ⟨vs, e, gnd_monoL hi cs hg vs h⟩
  | .fn f cs, hg, _, ⟨vs, e, h⟩ => ⟨vs, e, gnd_monoL hi cs hg vs h⟩
  | .ref cs, hg, _, ⟨b, k, vs, e1, e2, e3, h⟩ => ⟨b, k, vs, e1, ⟨e2.1, hi b e2.2⟩, e3, gnd_monoL hi cs hg vs h⟩
  | .any, hg, _, _ => by cases hg
  | .own .., hg, _, _ => by cases hg
  | .box .., hg, _, _ => by cases hg
  | .elt .., hg, _, _ => by cases hg
  | .telt .., hg, _, _ => by cases hg
  | .giv .., hg, _, _ => by cases hg
  | .abool _ _, hg, _, _ => by cases hg
theorem gnd_monoL {σ' : Oid → Option Loc} {im im' : Nat → Prop} (hi : ∀ b, im b → im' b) : ∀ (cs : List AV), AV.gndBL cs = true → ∀ (vs : List Value), AV.RepL (fun _ => none) im w cs vs → AV.RepL σ' im' w cs vs
  | [], _, _, h => h
  | c :: cs, hg, _, ⟨u, us, e, h1, h2⟩ => by
    simp only [AV.gndBL, Bool.and_eq_true] at hg
    exact ⟨u, us, e, gnd_mono hi c hg.1 u h1, gnd_monoL hi cs hg.2 us h2⟩
end
theorem comp_rep {az : List AV} {vs : List Value} {σ' : Oid → Option Loc} {im' : Nat → Prop} (has : AV.RepL σ' im' w az vs) {i : Nat} {k : Option Nat} {u : Value} (h : compV vs i k = some u) : AV.Rep σ' im' w (compA az i k) u := by
  have get : ∀ {az : List AV} {vs : List Value}, AV.RepL σ' im' w az vs → ∀ {i : Nat} {u : Value}, vs[i]? = some u → AV.Rep σ' im' w (az.getD i .any) u := by
    intro az
    induction az with
    | nil => intro vs _ i u _; simp only [List.getD_nil]; trivial
    | cons a az ih =>
      rintro vs ⟨v, vs', rfl, h1, h2⟩ i u hu
      cases i with
      | zero => obtain rfl := Option.some.inj hu; exact h1
      | succ i => exact ih h2 hu
  cases k with
  | none => exact get has h
  | some k =>
    simp only [compV] at h
    split at h
    · rename_i a ha
      have := get has ha
      rw [List.getD_eq_getElem?_getD] at this
      simp only [compA]
      split
      · rename_i cs hcs
        rw [hcs] at this
        obtain ⟨ws, e, hw⟩ := this
        cases e
        exact get hw (by simpa using h)
      · trivial
    · cases h
/-- The leaves' values are what the machine says. -/
theorem out_rep {mk : Nat → Oid} {az : List AV} {vs : List Value} {lo : Nat} {im' : Nat → Prop} {σ' : Oid → Option Loc} (him : ∀ b, b < lo → im b → im' b) (has : AV.RepL σ' im' w az vs) : ∀ {rs : List RL} {us : List Value} {ls : List Loc} (hfz : (∃ c, RL.frz c ∈ rs) → ∀ b, lo ≤ b → im' b) (j : Nat), RL.RepL lo im vs w rs us ls → (∀ x ∈ newsOf mk j rs ls, σ' x.1 = some x.2.2) → AV.RepL σ' im' w (RL.out mk az j rs).1 us
  | .new e t xs :: r, us, ls, hfz, j, ⟨l, ls', us', e1, e2, h1, h2, h3, h4⟩, hσ => by
    subst e1 e2
    have hl := hσ (mk j, .arr e t xs, l) (by simp [newsOf])
    exact ⟨_, _, rfl, loc_own hl h2 h3, out_rep him has (fun ⟨c, hc⟩ => hfz ⟨c, List.mem_cons_of_mem _ hc⟩) (j + 1) h4 (fun x hx => hσ x (by simp [newsOf, hx]))⟩
  | .newM e e' u xss :: r, us, ls, hfz, j, ⟨l, kl, ls', us', ks, e1, e2, ⟨⟨h1, _⟩, ⟨h2, h2'⟩, _⟩, h4⟩, hσ => by
    subst e1 e2
    have hl := hσ (mk j, .vec e 1 xss.length (hdL (mk j) u xss), l) (by simp [newsOf])
    exact ⟨_, _, rfl, loc_own (t := .slice u) hl h2 h2', out_rep him has (fun ⟨c, hc⟩ => hfz ⟨c, List.mem_cons_of_mem _ hc⟩) (j + 1) h4 (fun x hx => hσ x (by simp [newsOf, List.drop_left' h1, hx]))⟩
  | .sc c :: r, us, ls, hfz, j, ⟨u, us', e, h1, h2, h4⟩, hσ => by
    subst e
    refine ⟨_, _, rfl, ?_, out_rep him has (fun ⟨c, hc⟩ => hfz ⟨c, List.mem_cons_of_mem _ hc⟩) j h4 (fun x hx => hσ x (by simpa [newsOf] using hx))⟩
    cases c <;> first | exact h1 | cases h2
  | .frz c :: r, us, ls, hfz, j, ⟨u, us', e, h1, h2, h4⟩, hσ => by
    subst e
    refine ⟨_, _, rfl, gnd_mono (hfz ⟨c, by simp⟩) c h2 u h1, out_rep him has (fun ⟨c, hc⟩ => hfz ⟨c, List.mem_cons_of_mem _ hc⟩) j h4 (fun x hx => hσ x (by simpa [newsOf] using hx))⟩
  | .arg i k :: r, us, ls, hfz, j, ⟨u, us', e, h1, h4⟩, hσ => by
    subst e
    refine ⟨_, _, rfl, comp_rep has h1, out_rep him has (fun ⟨c, hc⟩ => hfz ⟨c, List.mem_cons_of_mem _ hc⟩) j h4 (fun x hx => hσ x (by simpa [newsOf] using hx))⟩
  | [], us, ls, _, j, ⟨e, _⟩, _ => e
theorem parts_rep {σ' : Oid → Option Loc} {im' : Nat → Prop} : ∀ (ps : List (Bool × List RL)) (cs : List AV) (us : List Value), AV.RepL σ' im' w cs us → AV.RepL σ' im' w (partsA ps cs) (partsV ps us)
  | [], _, _, _ => rfl
  | (b, rs) :: ps, cs, us, h => by
    refine ⟨_, _, rfl, ?_, parts_rep ps _ _ (h.drop _)⟩
    cases b
    · cases cs with
      | nil => trivial
      | cons c cs => obtain ⟨u, us', e, h1, _⟩ := h; subst e; exact h1
    · exact ⟨_, rfl, h.take _⟩
theorem rv_rep {σ' : Oid → Option Loc} {im' : Nat → Prop} (r : RV) {cs : List AV} {us : List Value} (h : AV.RepL σ' im' w cs us) :
    AV.Rep σ' im' w (if r.tup then .tup (partsA r.ps cs) else (partsA r.ps cs).headD .any) (if r.tup then .tuple (partsV r.ps us).toArray else (partsV r.ps us).headD undef) := by
  have hp := parts_rep r.ps cs us h
  split
  · exact ⟨_, rfl, hp⟩
  · generalize partsA r.ps cs = xs at hp
    cases xs with
    | nil => trivial
    | cons c xs => obtain ⟨u, us', e, h1, _⟩ := hp; rw [e]; exact h1

def hasBody (P : Program) (g : FuncId) : Bool :=
  match P.funcs[g]? with
  | some fn => fn.body.isSome && fn.name != "runtime.NumGoroutine"
  | none => false
theorem callFunc_run {g : FuncId} {args : Array Value} (h : hasBody P g = true) : (callFunc g args).run P w = .ok (.enter g args) w := by
  unfold hasBody at h
  split at h
  · rename_i fn hfn
    simp only [Bool.and_eq_true, bne_iff_ne] at h
    obtain ⟨h1, h2⟩ := h
    have h3 : fn.body.isNone = false := by cases hb : fn.body <;> simp_all
    simp [callFunc, hfn, h2, h3]
    intro h; rw [h] at h1; cases h1
  · cases h
/-- A value's cells. -/
def AV.flat1 : AV → List AV
  | .agg cs => cs
  | c => [c]
theorem flat1_loc {c : AV} {v : Value} {im' : Nat → Prop} {i : Oid} {t : Ty} {off len : Nat} (h : AV.Rep σ im' w c v) (hi : AV.own i t off len ∈ c.flat1) : σ i ≠ none := by
  have one : ∀ v, AV.Rep σ im' w (.own i t off len) v → σ i ≠ none := by
    rintro v (⟨g, _⟩ | ⟨_, _, g, _⟩ | ⟨_, g, _⟩) <;> rw [g] <;> simp
  have lst : ∀ (cs : List AV) (vs : List Value), AV.RepL σ im' w cs vs → AV.own i t off len ∈ cs → σ i ≠ none := by
    intro cs
    induction cs with
    | nil => intro vs _ h; cases h
    | cons c cs ih =>
      rintro vs ⟨u, us, _, h1, h2⟩ hm
      rcases List.mem_cons.1 hm with rfl | hm
      · exact one u h1
      · exact ih us h2 hm
  by_cases hagg : ∃ cs, c = .agg cs
  · obtain ⟨cs, rfl⟩ := hagg
    obtain ⟨vs, _, hl⟩ := h
    exact lst cs vs hl hi
  · have : c.flat1 = [c] := by cases c <;> first | rfl | exact absurd ⟨_, rfl⟩ hagg
    rw [this] at hi
    obtain rfl := List.mem_singleton.1 hi
    exact one v h
mutual
/-- A value under other names. -/
def AV.ren (θ : Oid → Oid) : AV → AV
  | .own i t off len => .own (θ i) t off len
  | .box i k => .box (θ i) k
  | .elt i j k => .elt (θ i) j k
  | .mp i => .mp (θ i)
  | .agg cs => .agg (AV.renL θ cs)
  | .tup cs => .tup (AV.renL θ cs)
  | .fn f cs => .fn f (AV.renL θ cs)
  | .ref cs => .ref (AV.renL θ cs)
  | c => c
def AV.renL (θ : Oid → Oid) : List AV → List AV
  | [] => []
  | c :: cs => AV.ren θ c :: AV.renL θ cs
end
def Ob.ren (θ : Oid → Oid) : Ob → Ob
  | .cells ty cs => .cells ty (AV.renL θ cs)
  | .arr e t xs => .arr e t xs
  | .map mt t es => .map mt t es
  | .vec e sz n cs => .vec e sz n (AV.renL θ cs)
  | .pool e t xss => .pool e t xss
  | .mat e p t xss => .mat e (θ p) t xss
def Ob.isArr : Ob → Bool
  | .arr .. => true
  | _ => false
/-- Objects by a list; the rows that a row of rows leads to stand together. -/
def mkOb : List (Oid × Option Ob) → Oid → Option Ob
  | [], _ => none
  | (j, o) :: r, i => match o with
    | some (.pool e u xss) => if i.1.1 = j.1.1 ∧ i.2 = j.2 ∧ i.1.2 ≠ 0 then (xss[i.1.2 - 1]?).map (.arr e u) else mkOb r i
    | some (.mat e p u xss) => if i = j then some (.vec e 1 xss.length (hdL p u xss)) else mkOb r i
    | o => if i = j then o else mkOb r i
def someL (l : List (Oid × Ob)) : List (Oid × Option Ob) := l.map fun q => (q.1, some q.2)
/-- The objects one by one. -/
def exL : List (Oid × Ob) → List (Oid × Ob)
  | [] => []
  | (p, o) :: r => match o with
    | .pool e u xss => (xss.zipIdx.map fun x => (kid p x.2, Ob.arr e u x.1)) ++ exL r
    | .mat e q u xss => (p, .vec e 1 xss.length (hdL q u xss)) :: exL r
    | o => (p, o) :: exL r
/-- The names that such a list speaks of. -/
def nmL (l : List (Oid × Ob)) : List Oid := (exL l).map (·.1)
/-- The names of what a call makes. -/
def newN (θ : Oid → Oid) (i : Oid) (j : Oid) : Oid := if j.2 = 0 then θ j else ((i.1.1 * 16 + j.1.1, j.1.2), i.2)
/-- What becomes of the caller's objects: those that were given are given up, and others come. -/
def updM (θ : Oid → Oid) (i : Oid) (ol us : List (Oid × Ob)) : List (Oid × Option Ob) := ((exL ol).map fun q => (θ q.1, none)) ++ (exL us).map fun q => (newN θ i q.1, some (q.2.ren (newN θ i)))
/-- The blocks that are not those of the objects that are given. -/
def immO (θ : Oid → Oid) (ol : List (Oid × Ob)) (σ : Oid → Option Loc) (b : Nat) : Prop := ∀ q ∈ exL ol, ∀ c s, σ (θ q.1) ≠ some (.at_ b c s)
/-- A contract: the function is given objects, which it may change, and makes objects. The objects bear formal names; θ says which of the caller's they are. -/
def CallM (P : Program) (G : World → Prop) (g : FuncId) (args : List AV) (ol : List (Oid × Ob)) (v : AV) (us : List (Oid × Ob)) : Prop :=
  ∀ (θ : Oid → Oid) (i : Oid) (w0 : World) (ob : Oid → Option Ob) (σ : Oid → Option Loc) (K : Nat → Prop) (w : World) (vs : List Value), Mem0 G w0 ob σ K w → ¬ K i.2 → (∀ q ∈ exL ol, ob (θ q.1) = some (q.2.ren θ)) → (∀ j k, j ∈ nmL ol → k ∈ nmL ol → θ j = θ k → j = k) → (∀ j ∈ nmL ol, σ (θ j) ≠ none) → AV.RepL σ (immO θ ol σ) w (AV.renL θ args) vs →
    Calls P g vs.toArray w fun e w' => ∃ u, e = .returned u ∧ Goes G w0 (applyU (updM θ i ol us) ob) (fun n => K n ∨ n = i.2) σ (imm ob σ) w (v.ren (newN θ i)) u w'
mutual
/-- The names in a value. -/
def AV.nms : AV → List Oid
  | .own i _ _ _ => [i]
  | .box i _ => [i]
  | .elt i _ _ => [i]
  | .mp i => [i]
  | .agg cs => AV.nmsL cs
  | .tup cs => AV.nmsL cs
  | .fn _ cs => AV.nmsL cs
  | .ref cs => AV.nmsL cs
  | _ => []
def AV.nmsL : List AV → List Oid
  | [] => []
  | c :: cs => c.nms ++ AV.nmsL cs
end
/-- The objects that values lead to. -/
inductive Reached (raw : List AV) (ob : Oid → Option Ob) : Oid → Prop
  | arg {i : Oid} : i ∈ AV.nmsL raw → Reached raw ob i
  | cells {k i : Oid} {ty : TypeId} {cs : List AV} : Reached raw ob k → ob k = some (.cells ty cs) → i ∈ AV.nmsL cs → Reached raw ob i
  | vec {k i : Oid} {e : TypeId} {sz n : Nat} {cs : List AV} : Reached raw ob k → ob k = some (.vec e sz n cs) → i ∈ AV.nmsL cs → Reached raw ob i
/-- The objects but some. -/
def less (L : List Oid) (ob : Oid → Option Ob) (k : Oid) : Option Ob := if k ∈ L then none else ob k
mutual
/-- An argument: given as it is, under formal names; or only read. -/
inductive ArgR (θ : Oid → Oid) (ob : Oid → Option Ob) : AV → AV → Prop
  | ren {c d : AV} : c = d.ren θ → ArgR θ ob c d
  | gnd {c d : AV} : d.ren θ = d → gnd ob 8 c = some d → ArgR θ ob c d
  | nil {t : Ty} : ArgR θ ob .nils (.tree t [])
  | agg {cs ds : List AV} : ArgRL θ ob cs ds → ArgR θ ob (.agg cs) (.agg ds)
  | fn {f : FuncId} {cs ds : List AV} : ArgRL θ ob cs ds → ArgR θ ob (.fn f cs) (.fn f ds)
inductive ArgRL (θ : Oid → Oid) (ob : Oid → Option Ob) : List AV → List AV → Prop
  | nil : ArgRL θ ob [] []
  | cons {c d : AV} {cs ds : List AV} : ArgR θ ob c d → ArgRL θ ob cs ds → ArgRL θ ob (c :: cs) (d :: ds)
end
/-- What a call comes to: it only makes memory. -/
def CallR (P : Program) (G : World → Prop) (f : Nat → AV) (ob : Oid → Option Ob) (i : Oid) (tys : List (List (Option Ty))) (g : FuncId) (xs : List Opd) (r : AV × List (Oid × Option Ob)) : Prop :=
  hasBody P g = true ∧ ∃ args rv, mapO (gnd ob 8) (xs.map (Opd.ev f)) = some args ∧ CallOK P G g (nilTL tys args) rv ∧ rv.out (mkId i) (xs.map (Opd.ev f)) = r
/-- What a call comes to: it changes objects of the caller's, or makes such. -/
def CallN (P : Program) (G : World → Prop) (f : Nat → AV) (ob : Oid → Option Ob) (i : Oid) (g : FuncId) (xs : List Opd) (r : AV × List (Oid × Option Ob)) : Prop :=
  hasBody P g = true ∧ ∃ (θ : Oid → Oid) (args : List AV) (ol us : List (Oid × Ob)) (v : AV), ArgRL θ (less ((nmL ol).map θ) ob) (xs.map (Opd.ev f)) args ∧ (∀ q ∈ exL ol, ob (θ q.1) = some (q.2.ren θ)) ∧ (∀ j k, j ∈ nmL ol → k ∈ nmL ol → θ j = θ k → j = k) ∧
    (∀ j ∈ nmL ol, Reached (xs.map (Opd.ev f)) ob (θ j)) ∧ CallM P G g args ol v us ∧ (∀ j ∈ nmL us, j.2 ≠ 0 ∨ j ∈ nmL ol) ∧ r = (v.ren (newN θ i), updM θ i ol us)

/-- What a result comes to in the caller's state. -/
theorem RV.goes {r : RV} {u : Value} {im0 : Nat → Prop} (h : Mem0 G w0 ob σ K w) (hb : Below w.heap.size w w') (hK : ∀ n, K n → K' n) {i : Oid} (hi : ¬ K i.2) (hi' : K' i.2) {az : List AV} {vs : List Value} (has : AV.RepL σ (imm ob σ) w az vs) (hr : r.Rep w.heap.size im0 vs w' u) :
    Goes G w0 (applyU (r.out (mkId i) az).2 ob) K' σ (imm ob σ) w (r.out (mkId i) az).1 u w' := by
  obtain ⟨us, ls, h1, ⟨h2, h2'⟩, rfl⟩ := hr
  have hrows := newsOf_rows (mk := mkId i) 0 h1
  obtain ⟨hL, hM⟩ := h.news hb hK (newsOf (mkId i) 0 r.leaves ls) (newsOf_nd (mkId_ok i) _ _ _) (fun x hx => by
      obtain ⟨k, _, _, e⟩ := newsOf_ids _ _ _ x hx
      have e' : x.1.2 = i.2 := e
      exact ⟨Goes.fresh h (by rw [e']; exact hi), by rw [e']; exact hi'⟩) (fun x hx b c s e => (hrows x hx).1 b c s e) (apart_ns (by rw [newsOf_locs 0 h1]; exact h2)) (fun x hx σ' im' hσ' => (hrows x hx).2 _ σ' im' h.below.size hσ')
  have hmem : ∀ x ∈ newsOf (mkId i) 0 r.leaves ls, putLoc (newsOf (mkId i) 0 r.leaves ls) σ x.1 = some x.2.2 := fun x hx => fold_mem (fun x : Oid × Ob × Loc => some x.2.2) (·.1) _ σ x (newsOf_nd (mkId_ok i) _ _ _) hx
  have hob := out_ob (mk := mkId i) (az := az) 0 ob h1
  have has' := AV.RepL.later hL _ _ has
  have hfz : (∃ c, RL.frz c ∈ r.leaves) → ∀ b, w.heap.size ≤ b → imm (putOb (newsOf (mkId i) 0 r.leaves ls) ob) (putLoc (newsOf (mkId i) 0 r.leaves ls) σ) b := by
    intro hc b hb j o c s hj hs
    have hnil : newsOf (mkId i) 0 r.leaves ls = [] := by
      rw [h2' hc]
      have := newsOf_locs (mk := mkId i) 0 h1
      rw [h2' hc] at this
      exact List.map_eq_nil_iff.1 this
    rw [hnil] at hs
    have := (h.lt j b c s hs).2
    omega
  refine ⟨putLoc (newsOf (mkId i) 0 r.leaves ls) σ, ?_, ?_, ?_⟩
  · simp only [RV.out, hob]; exact hL
  · simp only [RV.out, hob]; exact hM
  · simp only [RV.out, hob]
    refine rv_rep r ?_
    have key : ∀ {rs : List RL} {us : List Value} {ls : List Loc}, RL.RepL w.heap.size im0 vs w' rs us ls → RL.RepL w.heap.size (fun _ => False) vs w' rs us ls := by
      intro rs
      induction rs with
      | nil => intro us ls h; exact h
      | cons l r ih =>
        intro us ls h
        cases l with
        | sc c => obtain ⟨u, us', e, q1, q2, q3⟩ := h; exact ⟨u, us', e, (by cases c <;> first | exact q1 | cases q2), q2, ih q3⟩
        | new e t xs => obtain ⟨l, ls', us', e1, e2, q1, q2, q3, q4⟩ := h; exact ⟨l, ls', us', e1, e2, q1, q2, q3, ih q4⟩
        | newM e e' u xss => obtain ⟨l, kl, ls', us', ks, e1, e2, q, q4⟩ := h; exact ⟨l, kl, ls', us', ks, e1, e2, q, ih q4⟩
        | arg i k => obtain ⟨u, us', e, q1, q3⟩ := h; exact ⟨u, us', e, q1, ih q3⟩
        | frz c => obtain ⟨u, us', e, q1, q2, q3⟩ := h; exact ⟨u, us', e, q1, q2, ih q3⟩
    exact out_rep (fun b _ hb => hb.elim) has' hfz 0 (key h1) hmem

/-- A call. -/
theorem evCall_does {o : Oper} {a : Act} {f : Nat → AV} {obL : Oid → Option Ob} {i : Oid} {v : AV} {us : List (Oid × Option Ob)} {c : Call} {fo : Operand} {fo' : Opd} {zs : List Opd} {g : FuncId} {caps : List AV} {capo : List Opd} {tys : List (List (Option Ty))} (ho : o.op = .call c) (hcb : c.callee = .value fo) (hfo : Opd.of fo = some fo') (hg : fo'.ev f = .fn g caps)
    (hxs : Opd.ofL c.args.toList = some zs) (hcap : capo.map (Opd.ev f) = caps) (he : CallR P G f obL i tys g (zs ++ capo) (v, us)) (hm : Mem0 G w0 ob σ K w) (hK : ∀ n, K n → K' n) (hi : ¬ K i.2) (hi' : K' i.2)
    (hob : ∀ i o l, obL i = some o → σ i = some l → o.Rep w0.heap.size σ (imm ob σ) w l)
    (hf : ∀ x ∈ o.op.operands, ∀ y, Opd.of x = some y → AV.Rep σ (imm ob σ) w (y.ev f) (a.eval x)) : Oper.does P o a w (Goes G w0 (applyU us ob) K' σ (imm ob σ) w v) := by
  have hops : o.op.operands = #[fo] ++ c.args := by rw [ho]; simp [Op.operands, Call.operands, hcb]
  have rf := hf fo (by rw [hops]; simp) fo' hfo
  rw [hg] at rf
  obtain ⟨cv, ef, hcv⟩ := rf
  have ra := ofL_rep (σ := σ) (w := w) (im := imm ob σ) (f := f) (a := a) hxs (fun x hx => hf x (by rw [hops]; simp; exact .inr (by simpa using hx)))
  have rall : AV.RepL σ (imm ob σ) w ((zs ++ capo).map (Opd.ev f)) (c.args.toList.map a.eval ++ cv) := by
    rw [List.map_append, hcap]; exact ra.append hcv
  have hexec : ∀ h : hasBody P g = true, (execOp a.eval o).run P w = .ok (.enter g (c.args.toList.map a.eval ++ cv).toArray) w := by
    intro h
    have hcf := callFunc_run (P := P) (w := w) (args := (c.args.toList.map a.eval ++ cv).toArray) h
    have e1 : Array.map a.eval c.args ++ cv.toArray = (c.args.toList.map a.eval ++ cv).toArray := by
      apply Array.ext'; simp
    simp [execOp, ho, resolve, hcb, ef, Deferred.ofValue, invoke, e1, hcf]
  have hG : ∀ w', Below w.heap.size w w' → G w' := fun w' hb => hm.inv w' (hm.below.trans (hb.mono hm.below.size))
  obtain ⟨hbody, args, rv, hargs, hok, hh⟩ := he
  have hrep := nilTL_rep (ts := tys) (mapO_rep (gnd_rep hob 8) hargs rall)
  refine Oper.does_enter (hexec hbody) ((hok w (fun _ => True) _ hG hrep).mono ?_)
  rintro e w' ⟨u, rfl, hb, hrv⟩
  have := RV.goes hm hb hK hi hi' rall hrv
  rw [hh] at this
  exact ⟨u, rfl, this⟩
mutual
/-- What an argument reads as, where only some blocks are read. -/
theorem nms_loc : ∀ (c : AV) (v : Value) (i : Oid), AV.Rep σ im w c v → i ∈ c.nms → σ i ≠ none
  | .any, _, _, _, h | .int _ _, _, _, _, h | .bool _, _, _, _, h | .str _, _, _, _, h | .nils, _, _, _, h | .abool _ _, _, _, _, h | .tree _ _, _, _, _, h | .giv _ _ _, _, _, _, h | .mtree _ _ _, _, _, _, h | .telt _ _ _, _, _, _, h => by simp [AV.nms] at h
  | .own _ _ _ _, _, _, hv, h => by
    obtain rfl := List.mem_singleton.1 h
    rcases hv with ⟨g, _⟩ | ⟨_, _, g, _⟩ | ⟨_, g, _⟩ <;> rw [g] <;> simp
  | .box _ _, _, _, ⟨_, _, _, g, _⟩, h => by obtain rfl := List.mem_singleton.1 h; rw [g]; simp
  | .elt _ _ _, _, _, ⟨_, _, _, g, _⟩, h => by obtain rfl := List.mem_singleton.1 h; rw [g]; simp
  | .mp _, _, _, ⟨_, _, _, g, _⟩, h => by obtain rfl := List.mem_singleton.1 h; rw [g]; simp
  | .agg cs, _, i, ⟨vs, _, hl⟩, h => nmsL_loc cs vs i hl h
  | .tup cs, _, i, ⟨vs, _, hl⟩, h => nmsL_loc cs vs i hl h
  | .fn _ cs, _, i, ⟨vs, _, hl⟩, h => nmsL_loc cs vs i hl h
  | .ref cs, _, i, ⟨_, _, vs, _, _, _, hl⟩, h => nmsL_loc cs vs i hl h
theorem nmsL_loc : ∀ (cs : List AV) (vs : List Value) (i : Oid), AV.RepL σ im w cs vs → i ∈ AV.nmsL cs → σ i ≠ none
  | [], _, _, _, h => by simp [AV.nmsL] at h
  | c :: cs, _, i, ⟨u, us, _, h1, h2⟩, h => by
    rcases List.mem_append.1 (show i ∈ c.nms ++ AV.nmsL cs from h) with h | h
    · exact nms_loc c u i h1 h
    · exact nmsL_loc cs us i h2 h
end
theorem Reached.loc {raw : List AV} {vs : List Value} {obL : Oid → Option Ob} (hm : Mem0 G w0 ob σ K w) (hag : ∀ id o l, obL id = some o → σ id = some l → ob id = some o) (hr : AV.RepL σ im w raw vs) {i : Oid} (h : Reached raw obL i) : σ i ≠ none := by
  induction h with
  | arg h => exact nmsL_loc _ _ _ hr h
  | @cells k i ty cs _ hk hi ih =>
    cases hs : σ k with
    | none => exact absurd hs ih
    | some l =>
      have := hm.obs k _ l (hag _ _ l hk hs) hs
      cases l with
      | nil => exact this.elim
      | at_ b c s =>
        obtain ⟨us, _, h2, _⟩ := this
        exact nmsL_loc _ _ _ h2 hi
  | @vec k i e sz n cs _ hk hi ih =>
    cases hs : σ k with
    | none => exact absurd hs ih
    | some l =>
      obtain ⟨us, _, h2, _⟩ := hm.obs k _ l (hag _ _ l hk hs) hs
      exact nmsL_loc _ _ _ h2 hi
mutual
theorem argR_rep {θ : Oid → Oid} {obR : Oid → Option Ob} {im' : Nat → Prop} (hi : ∀ b, im b → im' b) (hg : ∀ c d v, gnd obR 8 c = some d → AV.Rep σ im w c v → AV.Rep σ im' w d v) (hmono : ∀ c v, AV.Rep σ im w c v → AV.Rep σ im' w c v) : ∀ {c d : AV} {v : Value}, ArgR θ obR c d → AV.Rep σ im w c v → AV.Rep σ im' w (d.ren θ) v
  | _, _, v, .ren e, hr => by subst e; exact hmono _ v hr
  | _, _, v, .gnd e h, hr => by rw [e]; exact hg _ _ v h hr
  | _, _, v, .nil, hr => ⟨none, 0, [], hr, by simp, by simp [maxLen], fun _ => [], by simp, fun h => absurd h (by simp)⟩
  | _, _, v, .agg h, ⟨vs, e, hl⟩ => ⟨vs, e, argRL_rep hi hg hmono h hl⟩
  | _, _, v, .fn h, ⟨vs, e, hl⟩ => ⟨vs, e, argRL_rep hi hg hmono h hl⟩
theorem argRL_rep {θ : Oid → Oid} {obR : Oid → Option Ob} {im' : Nat → Prop} (hi : ∀ b, im b → im' b) (hg : ∀ c d v, gnd obR 8 c = some d → AV.Rep σ im w c v → AV.Rep σ im' w d v) (hmono : ∀ c v, AV.Rep σ im w c v → AV.Rep σ im' w c v) : ∀ {cs ds : List AV} {vs : List Value}, ArgRL θ obR cs ds → AV.RepL σ im w cs vs → AV.RepL σ im' w (AV.renL θ ds) vs
  | _, _, _, .nil, hr => hr
  | _, _, _, .cons h hs, ⟨u, us, e, h1, h2⟩ => ⟨u, us, e, argR_rep hi hg hmono h h1, argRL_rep hi hg hmono hs h2⟩
end
/-- A call that changes objects. -/
theorem callM_does {o : Oper} {a : Act} {f : Nat → AV} {obL : Oid → Option Ob} {i : Oid} {v : AV} {us : List (Oid × Option Ob)} {c : Call} {fo : Operand} {fo' : Opd} {zs : List Opd} {g : FuncId} {caps : List AV} {capo : List Opd} (ho : o.op = .call c) (hcb : c.callee = .value fo) (hfo : Opd.of fo = some fo') (hg : fo'.ev f = .fn g caps)
    (hxs : Opd.ofL c.args.toList = some zs) (hcap : capo.map (Opd.ev f) = caps) (he : CallN P G f obL i g (zs ++ capo) (v, us)) (hm : Mem0 G w0 ob σ K w) (hK : ∀ n, K n → K' n) (hi : ¬ K i.2) (hi' : K' i.2)
    (hag : ∀ id o l, obL id = some o → σ id = some l → ob id = some o)
    (hf : ∀ x ∈ o.op.operands, ∀ y, Opd.of x = some y → AV.Rep σ (imm ob σ) w (y.ev f) (a.eval x)) : Oper.does P o a w (Goes G w0 (applyU us ob) K' σ (imm ob σ) w v) := by
  have hops : o.op.operands = #[fo] ++ c.args := by rw [ho]; simp [Op.operands, Call.operands, hcb]
  have rf := hf fo (by rw [hops]; simp) fo' hfo
  rw [hg] at rf
  obtain ⟨cv, ef, hcv⟩ := rf
  have ra := ofL_rep (σ := σ) (w := w) (im := imm ob σ) (f := f) (a := a) hxs (fun x hx => hf x (by rw [hops]; simp; exact .inr (by simpa using hx)))
  have rall : AV.RepL σ (imm ob σ) w ((zs ++ capo).map (Opd.ev f)) (c.args.toList.map a.eval ++ cv) := by
    rw [List.map_append, hcap]; exact ra.append hcv
  have hexec : ∀ h : hasBody P g = true, (execOp a.eval o).run P w = .ok (.enter g (c.args.toList.map a.eval ++ cv).toArray) w := by
    intro h
    have hcf := callFunc_run (P := P) (w := w) (args := (c.args.toList.map a.eval ++ cv).toArray) h
    have e1 : Array.map a.eval c.args ++ cv.toArray = (c.args.toList.map a.eval ++ cv).toArray := by
      apply Array.ext'; simp
    simp [execOp, ho, resolve, hcb, ef, Deferred.ofValue, invoke, e1, hcf]
  obtain ⟨hbody, θ, args, ol, us0, v0, e1, e2, e3, e4, hok, _, e5⟩ := he
  obtain ⟨rfl, rfl⟩ := Prod.mk.inj e5
  have hloc : ∀ j ∈ nmL ol, σ (θ j) ≠ none := fun j hj => (e4 j hj).loc hm hag rall
  have hnm : ∀ q ∈ exL ol, q.1 ∈ nmL ol := fun q hq => List.mem_map.2 ⟨q, hq, rfl⟩
  have e2' : ∀ q ∈ exL ol, ob (θ q.1) = some (q.2.ren θ) := by
    intro q hq
    cases hs : σ (θ q.1) with
    | none => exact absurd hs (hloc q.1 (hnm q hq))
    | some l => exact hag _ _ l (e2 q hq) hs
  have hO : ∀ b, imm ob σ b → immO θ ol σ b := fun b hb q hq c s => hb (θ q.1) _ c s (e2' q hq)
  have hL : Later σ σ (imm ob σ) (immO θ ol σ) w w := ⟨fun _ _ h => h, fun b _ hb => hO b hb, fun _ _ _ => rfl, Nat.le_refl _⟩
  have hob : ∀ k o l, less ((nmL ol).map θ) obL k = some o → σ k = some l → o.Rep w0.heap.size σ (imm ob σ) w l ∧ ∀ b c s, l = .at_ b c s → immO θ ol σ b := by
    intro k o l hk hl
    unfold less at hk
    split at hk
    · cases hk
    · rename_i hnk
      have hko := hag k o l hk hl
      refine ⟨hm.obs k o l hko hl, fun b c s e q hq c' s' hq' => ?_⟩
      subst e
      have := hm.inj k (θ q.1) b c s c' s' _ _ hko (e2' q hq) hl hq'
      exact hnk (List.mem_map.2 ⟨q.1, hnm q hq, this.symm⟩)
  have hrep := argRL_rep (im' := immO θ ol σ) hO (fun c d v h hr => gnd_repW (fun k o l hk hl => (hob k o l hk hl).1) hO (fun k o b c s hk hl => (hob k o _ hk hl).2 b c s rfl) 8 c d v h hr) (fun c v hr => AV.Rep.later hL c v hr) e1 rall
  refine Oper.does_enter (hexec hbody) ((hok θ i w0 ob σ K w _ hm hi e2' e3 hloc hrep).mono ?_)
  rintro e w' ⟨u, rfl, σ', h1, h2, h3⟩
  exact ⟨u, rfl, σ', h1, h2.wide (fun n hn => hn.elim (hK n) (fun e => by subst e; exact hi')), h3⟩
end
end Go.Proofs.YtefolocdfgelcaaDoor
