/- An abstract machine: what a call comes to; no condition. -/
import Derived.Test.YthjdknddcceigaaDoorE10
namespace Go.Proofs.YthjdknddcceigaaDoor
open Go.RowKit Go.Deep

/-- The name of the j-th row that a call makes. -/
def mkId (i : Oid) (j : Nat) : Oid := (i.1 * 16 + j, i.2)
theorem mkId_inj {i : Oid} {j k : Nat} (h : mkId i j = mkId i k) : j = k := by
  have := congrArg Prod.fst h
  simp only [mkId] at this
  omega
section
variable {P : Program} {G : World → Prop} {w0 w w' : World} {ob : Oid → Option Ob} {σ : Oid → Option Loc} {K K' : Nat → Prop} {im : Nat → Prop}

def putOb (ns : List (Oid × Ob × Loc)) (ob : Oid → Option Ob) : Oid → Option Ob := ns.foldl (fun ob x => upd ob x.1 (some x.2.1)) ob
def putLoc (ns : List (Oid × Ob × Loc)) (σ : Oid → Option Loc) : Oid → Option Loc := ns.foldl (fun σ x => upd σ x.1 (some x.2.2)) σ
theorem fold_other {α β : Type} (g : β → α) (k : β → Oid) : ∀ (ns : List β) (f : Oid → α) (j : Oid), (∀ x ∈ ns, k x ≠ j) → ns.foldl (fun f x => upd f (k x) (g x)) f j = f j
  | [], _, _, _ => rfl
  | x :: r, f, j, h => by
    rw [List.foldl_cons, fold_other g k r _ j (fun y hy => h y (by simp [hy])), upd_other _ _ _ _ (fun e => h x (by simp) e.symm)]
theorem fold_mem {α β : Type} (g : β → α) (k : β → Oid) : ∀ (ns : List β) (f : Oid → α) (x : β), (ns.map k).Nodup → x ∈ ns → ns.foldl (fun f x => upd f (k x) (g x)) f (k x) = g x
  | [], _, _, _, h => by cases h
  | y :: r, f, x, nd, h => by
    rw [List.map_cons, List.nodup_cons] at nd
    rw [List.foldl_cons]
    rcases List.mem_cons.1 h with rfl | h
    · rw [fold_other g k r _ _ (fun z hz e => nd.1 (by rw [← e]; exact List.mem_map_of_mem hz)), upd_same]
    · exact fold_mem g k r _ x nd.2 h

/-- New rows in new blocks. -/
theorem Mem0.news (h : Mem0 G w0 ob σ K w) (hb : Below w.heap.size w w') (hK : ∀ n, K n → K' n) (ns : List (Oid × Ob × Loc)) (nd : (ns.map (·.1)).Nodup) (hi : ∀ x ∈ ns, σ x.1 = none ∧ K' x.1.2)
    (hl : ∀ x ∈ ns, ∀ b c s, x.2.2 = .at_ b c s → w.heap.size ≤ b ∧ b < w'.heap.size ∧ c ≤ maxLen) (hd : ∀ x ∈ ns, ∀ y ∈ ns, ∀ b c s c' s', x.2.2 = .at_ b c s → y.2.2 = .at_ b c' s' → x.1 = y.1)
    (ho : ∀ x ∈ ns, ∀ σ' im', x.2.1.Rep w0.heap.size σ' im' w' x.2.2) :
    Later σ (putLoc ns σ) (imm ob σ) (imm (putOb ns ob) (putLoc ns σ)) w w' ∧ Mem0 G w0 (putOb ns ob) (putLoc ns σ) K' w' := by
  have case : ∀ j, (∃ x ∈ ns, x.1 = j ∧ putOb ns ob j = some x.2.1 ∧ putLoc ns σ j = some x.2.2) ∨ ((∀ x ∈ ns, x.1 ≠ j) ∧ putOb ns ob j = ob j ∧ putLoc ns σ j = σ j) := by
    intro j
    by_cases hj : ∃ x ∈ ns, x.1 = j
    · obtain ⟨x, hx, rfl⟩ := hj
      exact .inl ⟨x, hx, rfl, fold_mem (fun x : Oid × Ob × Loc => some x.2.1) (·.1) ns ob x nd hx, fold_mem (fun x : Oid × Ob × Loc => some x.2.2) (·.1) ns σ x nd hx⟩
    · have hj' : ∀ x ∈ ns, x.1 ≠ j := fun x hx e => hj ⟨x, hx, e⟩
      exact .inr ⟨hj', fold_other (fun x : Oid × Ob × Loc => some x.2.1) (·.1) ns ob j hj', fold_other (fun x : Oid × Ob × Loc => some x.2.2) (·.1) ns σ j hj'⟩
  have hL : Later σ (putLoc ns σ) (imm ob σ) (imm (putOb ns ob) (putLoc ns σ)) w w' := by
    refine ⟨fun j k hj => ?_, fun b hlt him j o c s hoj hsj => ?_, fun b hlt _ => hb.block b hlt, hb.size⟩
    · rcases case j with ⟨x, hx, rfl, _, _⟩ | ⟨_, _, e⟩
      · rw [(hi x hx).1] at hj; cases hj
      · rw [e]; exact hj
    · rcases case j with ⟨x, hx, rfl, _, e⟩ | ⟨_, e1, e2⟩
      · rw [e] at hsj
        have := (hl x hx b c s (Option.some.inj hsj)).1
        omega
      · rw [e1] at hoj; rw [e2] at hsj
        exact him j o c s hoj hsj
  refine ⟨hL, h.below.trans (hb.mono h.below.size), h.inv, fun j l hj => ?_, fun j b c s hj => ?_, fun j b c s hj => ?_, fun j k b c s c' s' oj ok hoj hok hj hk => ?_, fun j o l hoj hj => ?_⟩
  · rcases case j with ⟨x, hx, rfl, _, _⟩ | ⟨_, _, e⟩
    · exact (hi x hx).2
    · rw [e] at hj; exact hK _ (h.gen j l hj)
  · rcases case j with ⟨x, hx, rfl, _, e⟩ | ⟨_, _, e⟩
    · rw [e] at hj
      have := hl x hx b c s (Option.some.inj hj)
      exact ⟨Nat.le_trans h.below.size this.1, this.2.1⟩
    · rw [e] at hj
      exact ⟨(h.lt j b c s hj).1, Nat.lt_of_lt_of_le (h.lt j b c s hj).2 hb.size⟩
  · rcases case j with ⟨x, hx, rfl, _, e⟩ | ⟨_, _, e⟩
    · rw [e] at hj
      exact (hl x hx b c s (Option.some.inj hj)).2.2
    · rw [e] at hj; exact h.cap j b c s hj
  · rcases case j with ⟨x, hx, rfl, _, e⟩ | ⟨_, e1, e2⟩ <;> rcases case k with ⟨y, hy, rfl, _, e'⟩ | ⟨_, e1', e2'⟩
    · rw [e] at hj; rw [e'] at hk
      exact hd x hx y hy b c s c' s' (Option.some.inj hj) (Option.some.inj hk)
    · rw [e] at hj; rw [e2'] at hk
      have := (hl x hx b c s (Option.some.inj hj)).1
      have := (h.lt k b c' s' hk).2
      omega
    · rw [e2] at hj; rw [e'] at hk
      have := (hl y hy b c' s' (Option.some.inj hk)).1
      have := (h.lt j b c s hj).2
      omega
    · rw [e1] at hoj; rw [e2] at hj; rw [e1'] at hok; rw [e2'] at hk
      exact h.inj j k b c s c' s' oj ok hoj hok hj hk
  · rcases case j with ⟨x, hx, rfl, e, e'⟩ | ⟨_, e1, e2⟩
    · rw [e] at hoj; rw [e'] at hj
      obtain rfl := Option.some.inj hoj
      obtain rfl := Option.some.inj hj
      exact ho x hx _ _
    · rw [e1] at hoj; rw [e2] at hj
      exact (h.obs j o l hoj hj).later hL fun b c s el => hb.block b (h.lt j b c s (el ▸ hj)).2

/-- The new rows of a result, and their names. -/
def newsOf (mk : Nat → Oid) : Nat → List RL → List Loc → List (Oid × Ob × Loc)
  | j, .new e t xs :: r, l :: ls => (mk j, .arr e t xs, l) :: newsOf mk (j + 1) r ls
  | j, .sc _ :: r, ls => newsOf mk j r ls
  | j, .arg _ _ :: r, ls => newsOf mk j r ls
  | j, .frz _ :: r, ls => newsOf mk j r ls
  | _, _, _ => []
theorem newsOf_ids {mk : Nat → Oid} : ∀ (rs : List RL) (ls : List Loc) (j : Nat) (x : Oid × Ob × Loc), x ∈ newsOf mk j rs ls → ∃ k, j ≤ k ∧ x.1 = mk k ∧ x.2.2 ∈ ls
  | .new e t xs :: r, l :: ls, j, x, h => by
    simp only [newsOf] at h
    rcases List.mem_cons.1 h with rfl | h
    · exact ⟨j, Nat.le_refl _, rfl, by simp⟩
    · obtain ⟨k, h1, h2, h3⟩ := newsOf_ids r ls (j + 1) x h
      exact ⟨k, by omega, h2, by simp [h3]⟩
  | .sc _ :: r, ls, j, x, h => newsOf_ids r ls j x (by simpa [newsOf] using h)
  | .arg _ _ :: r, ls, j, x, h => newsOf_ids r ls j x (by simpa [newsOf] using h)
  | .frz _ :: r, ls, j, x, h => newsOf_ids r ls j x (by simpa [newsOf] using h)
  | [], _, _, _, h => by simp [newsOf] at h
  | .new _ _ _ :: _, [], _, _, h => by simp [newsOf] at h
theorem newsOf_nd {mk : Nat → Oid} (hmk : ∀ j k, mk j = mk k → j = k) : ∀ (rs : List RL) (ls : List Loc) (j : Nat), ((newsOf mk j rs ls).map (·.1)).Nodup
  | .new e t xs :: r, l :: ls, j => by
    simp only [newsOf, List.map_cons, List.nodup_cons]
    refine ⟨fun h => ?_, newsOf_nd hmk r ls (j + 1)⟩
    obtain ⟨x, hx, e⟩ := List.mem_map.1 h
    obtain ⟨k, h1, h2, _⟩ := newsOf_ids r ls (j + 1) x hx
    have := hmk _ _ (h2.symm.trans e)
    omega
  | .sc _ :: r, ls, j => by simpa [newsOf] using newsOf_nd hmk r ls j
  | .arg _ _ :: r, ls, j => by simpa [newsOf] using newsOf_nd hmk r ls j
  | .frz _ :: r, ls, j => by simpa [newsOf] using newsOf_nd hmk r ls j
  | [], _, _ => by simp [newsOf]
  | .new _ _ _ :: _, [], _ => by simp [newsOf]
theorem newsOf_apart {mk : Nat → Oid} : ∀ (rs : List RL) (ls : List Loc) (j : Nat), apartL ls → ∀ x ∈ newsOf mk j rs ls, ∀ y ∈ newsOf mk j rs ls, ∀ b c s c' s', x.2.2 = .at_ b c s → y.2.2 = .at_ b c' s' → x.1 = y.1
  | .new e t xs :: r, l :: ls, j, ha, x, hx, y, hy, b, c, s, c', s', ex, ey => by
    simp only [newsOf] at hx hy
    rcases List.mem_cons.1 hx with rfl | hx <;> rcases List.mem_cons.1 hy with rfl | hy
    · rfl
    · obtain ⟨_, _, _, h3⟩ := newsOf_ids r ls (j + 1) y hy
      rw [ey] at h3
      exact absurd h3 (ha.1 b c s ex c' s')
    · obtain ⟨_, _, _, h3⟩ := newsOf_ids r ls (j + 1) x hx
      rw [ex] at h3
      exact absurd h3 (ha.1 b c' s' ey c s)
    · exact newsOf_apart r ls (j + 1) ha.2 x hx y hy b c s c' s' ex ey
  | .sc _ :: r, ls, j, ha, x, hx, y, hy, b, c, s, c', s', ex, ey => newsOf_apart r ls j ha x (by simpa [newsOf] using hx) y (by simpa [newsOf] using hy) b c s c' s' ex ey
  | .arg _ _ :: r, ls, j, ha, x, hx, y, hy, b, c, s, c', s', ex, ey => newsOf_apart r ls j ha x (by simpa [newsOf] using hx) y (by simpa [newsOf] using hy) b c s c' s' ex ey
  | .frz _ :: r, ls, j, ha, x, hx, y, hy, b, c, s, c', s', ex, ey => newsOf_apart r ls j ha x (by simpa [newsOf] using hx) y (by simpa [newsOf] using hy) b c s c' s' ex ey
  | [], _, _, _, _, hx, _, _, _, _, _, _, _, _, _ => by simp [newsOf] at hx
  | .new _ _ _ :: _, [], _, _, _, hx, _, _, _, _, _, _, _, _, _ => by simp [newsOf] at hx
theorem newsOf_rows {mk : Nat → Oid} {lo : Nat} {vs : List Value} : ∀ {rs : List RL} {us : List Value} {ls : List Loc} (j : Nat), RL.RepL lo im vs w rs us ls → ∀ x ∈ newsOf mk j rs ls, ∃ e t xs, x.2.1 = .arr e t xs ∧ t.flat = true ∧ w.ownsRow lo e t.size (x.2.2.val xs.length) xs.length (t.cells xs) ∧ ∀ b c s, x.2.2 = .at_ b c s → s = t.size
  | .new e t xs :: r, us, ls, j, ⟨l, ls', us', e1, e2, h1, h2, h3, h4⟩, x, hx => by
    subst e2
    simp only [newsOf] at hx
    rcases List.mem_cons.1 hx with rfl | hx
    · exact ⟨e, t, xs, rfl, h1, h2, h3⟩
    · exact newsOf_rows (j + 1) h4 x hx
  | .sc _ :: r, us, ls, j, ⟨_, _, _, _, _, h4⟩, x, hx => newsOf_rows j h4 x (by simpa [newsOf] using hx)
  | .arg _ _ :: r, us, ls, j, ⟨_, _, _, _, h4⟩, x, hx => newsOf_rows j h4 x (by simpa [newsOf] using hx)
  | .frz _ :: r, us, ls, j, ⟨_, _, _, _, _, h4⟩, x, hx => newsOf_rows j h4 x (by simpa [newsOf] using hx)
  | [], _, _, _, _, x, hx => by simp [newsOf] at hx
theorem out_ob {mk : Nat → Oid} {az : List AV} {vs : List Value} {lo : Nat} : ∀ {rs : List RL} {us : List Value} {ls : List Loc} (j : Nat) (ob : Oid → Option Ob), RL.RepL lo im vs w rs us ls → applyU (RL.out mk az j rs).2 ob = putOb (newsOf mk j rs ls) ob
  | .new e t xs :: r, us, ls, j, ob, ⟨l, ls', us', e1, e2, h1, h2, h3, h4⟩ => by
    subst e2
    simp only [RL.out, newsOf, applyU, putOb, List.foldl_cons]
    exact out_ob (j + 1) _ h4
  | .sc _ :: r, us, ls, j, ob, ⟨_, _, _, _, _, h4⟩ => by simpa [RL.out, newsOf] using out_ob (mk := mk) j ob h4
  | .arg _ _ :: r, us, ls, j, ob, ⟨_, _, _, _, h4⟩ => by simpa [RL.out, newsOf] using out_ob (mk := mk) j ob h4
  | .frz _ :: r, us, ls, j, ob, ⟨_, _, _, _, _, h4⟩ => by simpa [RL.out, newsOf] using out_ob (mk := mk) j ob h4
  | [], us, ls, j, ob, ⟨_, e⟩ => by subst e; simp [RL.out, newsOf, applyU, putOb]
mutual
theorem gnd_mono {σ' : Oid → Option Loc} {im im' : Nat → Prop} (hi : ∀ b, im b → im' b) : ∀ (c : AV), c.gndB = true → ∀ (v : Value), AV.Rep (fun _ => none) im w c v → AV.Rep σ' im' w c v
  | .int .., _, _, h => h
  | .bool .., _, _, h => h
  | .str .., _, _, h => h
  | .nils, _, _, h => h
  | .tree t xs, _, _, ⟨A, c, l, e, hs⟩ => ⟨A, c, l, e, sl_mono (fun b _ hb => hi b hb) hs⟩
  | .mtree mt t es, _, _, ⟨b, e, h1, h2⟩ => ⟨b, e, hi b h1, h2⟩
  | .mp _, hg, _, _ => by cases hg
  | .agg cs, hg, _, ⟨vs, e, h⟩ => ⟨vs, e, gnd_monoL hi cs hg vs h⟩
  | .tup cs, hg, _, ⟨vs, e, h⟩ => ⟨vs, e, gnd_monoL hi cs hg vs h⟩
  | .fn f cs, hg, _, ⟨vs, e, h⟩ => ⟨vs, e, gnd_monoL hi cs hg vs h⟩
  | .ref cs, hg, _, ⟨b, k, vs, e1, e2, e3, h⟩ => ⟨b, k, vs, e1, ⟨e2.1, hi b e2.2⟩, e3, gnd_monoL hi cs hg vs h⟩
  | .any, hg, _, _ => by cases hg
  | .own .., hg, _, _ => by cases hg
  | .box .., hg, _, _ => by cases hg
  | .elt .., hg, _, _ => by cases hg
  | .telt .., hg, _, _ => by cases hg
  | .giv .., hg, _, _ => by cases hg
  | .abool _ _, hg, _, _ => by cases hg
theorem gnd_monoL {σ' : Oid → Option Loc} {im im' : Nat → Prop} (hi : ∀ b, im b → im' b) : ∀ (cs : List AV), AV.gndBL cs = true → ∀ (vs : List Value), AV.RepL (fun _ => none) im w cs vs → AV.RepL σ' im' w cs vs
  | [], _, _, h => h
  | c :: cs, hg, _, ⟨u, us, e, h1, h2⟩ => by
    simp only [AV.gndBL, Bool.and_eq_true] at hg
    exact ⟨u, us, e, gnd_mono hi c hg.1 u h1, gnd_monoL hi cs hg.2 us h2⟩
end
theorem comp_rep {az : List AV} {vs : List Value} {σ' : Oid → Option Loc} {im' : Nat → Prop} (has : AV.RepL σ' im' w az vs) {i : Nat} {k : Option Nat} {u : Value} (h : compV vs i k = some u) : AV.Rep σ' im' w (compA az i k) u := by
  have get : ∀ {az : List AV} {vs : List Value}, AV.RepL σ' im' w az vs → ∀ {i : Nat} {u : Value}, vs[i]? = some u → AV.Rep σ' im' w (az.getD i .any) u := by
    intro az
    induction az with
    | nil => intro vs _ i u _; simp only [List.getD_nil]; trivial
    | cons a az ih =>
      rintro vs ⟨v, vs', rfl, h1, h2⟩ i u hu
      cases i with
      | zero => obtain rfl := Option.some.inj hu; exact h1
      | succ i => exact ih h2 hu
  cases k with
  | none => exact get has h
  | some k =>
    simp only [compV] at h
    split at h
    · rename_i a ha
      have := get has ha
      rw [List.getD_eq_getElem?_getD] at this
      simp only [compA]
      split
      · rename_i cs hcs
        rw [hcs] at this
        obtain ⟨ws, e, hw⟩ := this
        cases e
        exact get hw (by simpa using h)
      · trivial
    · cases h
/-- The leaves' values are what the machine says. -/
theorem out_rep {mk : Nat → Oid} {az : List AV} {vs : List Value} {lo : Nat} {im' : Nat → Prop} {σ' : Oid → Option Loc} (him : ∀ b, b < lo → im b → im' b) (has : AV.RepL σ' im' w az vs) : ∀ {rs : List RL} {us : List Value} {ls : List Loc} (hfz : (∃ c, RL.frz c ∈ rs) → ∀ b, lo ≤ b → im' b) (j : Nat), RL.RepL lo im vs w rs us ls → (∀ x ∈ newsOf mk j rs ls, σ' x.1 = some x.2.2) → AV.RepL σ' im' w (RL.out mk az j rs).1 us
  | .new e t xs :: r, us, ls, hfz, j, ⟨l, ls', us', e1, e2, h1, h2, h3, h4⟩, hσ => by
    subst e1 e2
    have hl := hσ (mk j, .arr e t xs, l) (by simp [newsOf])
    refine ⟨_, _, rfl, ?_, out_rep him has (fun ⟨c, hc⟩ => hfz ⟨c, List.mem_cons_of_mem _ hc⟩) (j + 1) h4 (fun x hx => hσ x (by simp [newsOf, hx]))⟩
    cases l with
    | nil =>
      rcases h2.2 with ⟨_, h0⟩ | ⟨_, _, _, e1, _⟩
      · exact .inl ⟨hl, rfl, h0, rfl⟩
      · cases e1
    | at_ b c s =>
      obtain rfl := h3 b c s rfl
      rcases h2.2 with ⟨e1, _⟩ | ⟨g, cap, cur, e1, _, _, hc, _⟩
      · cases e1
      · cases e1
        exact .inr (.inl ⟨b, c, hl, by omega, by simp [Loc.val]⟩)
  | .sc c :: r, us, ls, hfz, j, ⟨u, us', e, h1, h2, h4⟩, hσ => by
    subst e
    refine ⟨_, _, rfl, ?_, out_rep him has (fun ⟨c, hc⟩ => hfz ⟨c, List.mem_cons_of_mem _ hc⟩) j h4 (fun x hx => hσ x (by simpa [newsOf] using hx))⟩
    cases c <;> first | exact h1 | cases h2
  | .frz c :: r, us, ls, hfz, j, ⟨u, us', e, h1, h2, h4⟩, hσ => by
    subst e
    refine ⟨_, _, rfl, gnd_mono (hfz ⟨c, by simp⟩) c h2 u h1, out_rep him has (fun ⟨c, hc⟩ => hfz ⟨c, List.mem_cons_of_mem _ hc⟩) j h4 (fun x hx => hσ x (by simpa [newsOf] using hx))⟩
  | .arg i k :: r, us, ls, hfz, j, ⟨u, us', e, h1, h4⟩, hσ => by
    subst e
    refine ⟨_, _, rfl, comp_rep has h1, out_rep him has (fun ⟨c, hc⟩ => hfz ⟨c, List.mem_cons_of_mem _ hc⟩) j h4 (fun x hx => hσ x (by simpa [newsOf] using hx))⟩
  | [], us, ls, _, j, ⟨e, _⟩, _ => e
theorem parts_rep {σ' : Oid → Option Loc} {im' : Nat → Prop} : ∀ (ps : List (Bool × List RL)) (cs : List AV) (us : List Value), AV.RepL σ' im' w cs us → AV.RepL σ' im' w (partsA ps cs) (partsV ps us)
  | [], _, _, _ => rfl
  | (b, rs) :: ps, cs, us, h => by
    refine ⟨_, _, rfl, ?_, parts_rep ps _ _ (h.drop _)⟩
    cases b
    · cases cs with
      | nil => trivial
      | cons c cs => obtain ⟨u, us', e, h1, _⟩ := h; subst e; exact h1
    · exact ⟨_, rfl, h.take _⟩
theorem rv_rep {σ' : Oid → Option Loc} {im' : Nat → Prop} (r : RV) {cs : List AV} {us : List Value} (h : AV.RepL σ' im' w cs us) :
    AV.Rep σ' im' w (if r.tup then .tup (partsA r.ps cs) else (partsA r.ps cs).headD .any) (if r.tup then .tuple (partsV r.ps us).toArray else (partsV r.ps us).headD undef) := by
  have hp := parts_rep r.ps cs us h
  split
  · exact ⟨_, rfl, hp⟩
  · generalize partsA r.ps cs = xs at hp
    cases xs with
    | nil => trivial
    | cons c xs => obtain ⟨u, us', e, h1, _⟩ := hp; rw [e]; exact h1

def hasBody (P : Program) (g : FuncId) : Bool :=
  match P.funcs[g]? with
  | some fn => fn.body.isSome && fn.name != "runtime.NumGoroutine"
  | none => false
theorem callFunc_run {g : FuncId} {args : Array Value} (h : hasBody P g = true) : (callFunc g args).run P w = .ok (.enter g args) w := by
  unfold hasBody at h
  split at h
  · rename_i fn hfn
    simp only [Bool.and_eq_true, bne_iff_ne] at h
    obtain ⟨h1, h2⟩ := h
    have h3 : fn.body.isNone = false := by cases hb : fn.body <;> simp_all
    simp [callFunc, hfn, h2, h3]
    intro h; rw [h] at h1; cases h1
  · cases h
/-- A value's cells. -/
def AV.flat1 : AV → List AV
  | .agg cs => cs
  | c => [c]
theorem flat1_loc {c : AV} {v : Value} {im' : Nat → Prop} {i : Oid} {t : Ty} {off len : Nat} (h : AV.Rep σ im' w c v) (hi : AV.own i t off len ∈ c.flat1) : σ i ≠ none := by
  have one : ∀ v, AV.Rep σ im' w (.own i t off len) v → σ i ≠ none := by
    rintro v (⟨g, _⟩ | ⟨_, _, g, _⟩ | ⟨_, g, _⟩) <;> rw [g] <;> simp
  have lst : ∀ (cs : List AV) (vs : List Value), AV.RepL σ im' w cs vs → AV.own i t off len ∈ cs → σ i ≠ none := by
    intro cs
    induction cs with
    | nil => intro vs _ h; cases h
    | cons c cs ih =>
      rintro vs ⟨u, us, _, h1, h2⟩ hm
      rcases List.mem_cons.1 hm with rfl | hm
      · exact one u h1
      · exact ih us h2 hm
  by_cases hagg : ∃ cs, c = .agg cs
  · obtain ⟨cs, rfl⟩ := hagg
    obtain ⟨vs, _, hl⟩ := h
    exact lst cs vs hl hi
  · have : c.flat1 = [c] := by cases c <;> first | rfl | exact absurd ⟨_, rfl⟩ hagg
    rw [this] at hi
    obtain rfl := List.mem_singleton.1 hi
    exact one v h
mutual
/-- A value under other names. -/
def AV.ren (θ : Oid → Oid) : AV → AV
  | .own i t off len => .own (θ i) t off len
  | .box i k => .box (θ i) k
  | .elt i j k => .elt (θ i) j k
  | .mp i => .mp (θ i)
  | .agg cs => .agg (AV.renL θ cs)
  | .tup cs => .tup (AV.renL θ cs)
  | .fn f cs => .fn f (AV.renL θ cs)
  | .ref cs => .ref (AV.renL θ cs)
  | c => c
def AV.renL (θ : Oid → Oid) : List AV → List AV
  | [] => []
  | c :: cs => AV.ren θ c :: AV.renL θ cs
end
def Ob.ren (θ : Oid → Oid) : Ob → Ob
  | .cells ty cs => .cells ty (AV.renL θ cs)
  | .arr e t xs => .arr e t xs
  | .map mt t es => .map mt t es
def Ob.isArr : Ob → Bool
  | .arr .. => true
  | _ => false
/-- A contract: the function changes rows of the caller's. The rows bear formal names; θ says which rows of the caller's they are. -/
def CallM (P : Program) (G : World → Prop) (g : FuncId) (args : List AV) (ol : List (Oid × Ob)) (v : AV) (us : List (Oid × Ob)) : Prop :=
  ∀ (θ : Oid → Oid) (w0 : World) (ob : Oid → Option Ob) (σ : Oid → Option Loc) (K : Nat → Prop) (w : World) (vs : List Value), Mem0 G w0 ob σ K w → (∀ q ∈ ol, ob (θ q.1) = some q.2) → (ol.map fun q => θ q.1).Nodup → AV.RepL σ (imm ob σ) w (AV.renL θ args) vs →
    Calls P g vs.toArray w fun e w' => ∃ u, e = .returned u ∧ Goes G w0 (applyU (us.map fun q => (θ q.1, some q.2)) ob) K σ (imm ob σ) w v u w'
/-- What a call comes to: it only makes memory. -/
def CallR (P : Program) (G : World → Prop) (f : Nat → AV) (ob : Oid → Option Ob) (i : Oid) (tys : List (List (Option Ty))) (g : FuncId) (xs : List Opd) (r : AV × List (Oid × Option Ob)) : Prop :=
  hasBody P g = true ∧ ∃ args rv, mapO (gnd ob 8) (xs.map (Opd.ev f)) = some args ∧ CallOK P G g (nilTL tys args) rv ∧ rv.out (mkId i) (xs.map (Opd.ev f)) = r
/-- What a call comes to: it changes rows of the caller's. -/
def CallN (P : Program) (G : World → Prop) (f : Nat → AV) (ob : Oid → Option Ob) (g : FuncId) (xs : List Opd) (r : AV × List (Oid × Option Ob)) : Prop :=
  hasBody P g = true ∧ ∃ (θ : Oid → Oid) (args : List AV) (ol us : List (Oid × Ob)), xs.map (Opd.ev f) = AV.renL θ args ∧ (∀ q ∈ ol, ob (θ q.1) = some q.2) ∧ (ol.map fun q => θ q.1).Nodup ∧ (∀ q ∈ ol, ∃ t off len, AV.own (θ q.1) t off len ∈ (xs.map (Opd.ev f)).flatMap AV.flat1) ∧ (∀ q ∈ us, q.1 ∈ ol.map (·.1)) ∧ CallM P G g args ol r.1 us ∧ r.2 = us.map fun q => (θ q.1, some q.2)

/-- What a result comes to in the caller's state. -/
theorem RV.goes {r : RV} {u : Value} {im0 : Nat → Prop} (h : Mem0 G w0 ob σ K w) (hb : Below w.heap.size w w') (hK : ∀ n, K n → K' n) {i : Oid} (hi : ¬ K i.2) (hi' : K' i.2) {az : List AV} {vs : List Value} (has : AV.RepL σ (imm ob σ) w az vs) (hr : r.Rep w.heap.size im0 vs w' u) :
    Goes G w0 (applyU (r.out (mkId i) az).2 ob) K' σ (imm ob σ) w (r.out (mkId i) az).1 u w' := by
  obtain ⟨us, ls, h1, ⟨h2, h2'⟩, rfl⟩ := hr
  have hrows := newsOf_rows (mk := mkId i) 0 h1
  have hfacts : ∀ x ∈ newsOf (mkId i) 0 r.leaves ls, ∀ b c s, x.2.2 = .at_ b c s → w.heap.size ≤ b ∧ b < w'.heap.size ∧ c ≤ maxLen := by
    intro x hx b c s e
    obtain ⟨et, t, xs, _, _, q, _⟩ := hrows x hx
    rw [e] at q
    refine ⟨(q.lt b rfl).1, (q.lt b rfl).2, ?_⟩
    rcases q.2 with ⟨e1, _⟩ | ⟨_, _, _, e1, _, _, _, hm, _⟩
    · cases e1
    · cases e1; exact hm
  obtain ⟨hL, hM⟩ := h.news hb hK (newsOf (mkId i) 0 r.leaves ls) (newsOf_nd (fun j k => mkId_inj) _ _ _) (fun x hx => by
      obtain ⟨k, _, e, _⟩ := newsOf_ids _ _ _ x hx
      rw [e]
      exact ⟨Goes.fresh h hi, hi'⟩) hfacts (newsOf_apart _ _ _ h2) (fun x hx σ' im' => by
      obtain ⟨et, t, xs, e, q1, q2, q3⟩ := hrows x hx
      rw [e]
      refine ⟨q1, ⟨q2.1, ?_⟩, q3⟩
      rcases q2.2 with hn | ⟨g, cap, cur, e1, hb', rest⟩
      · exact .inl hn
      · exact .inr ⟨g, cap, cur, e1, Nat.le_trans h.below.size hb', rest⟩)
  have hmem : ∀ x ∈ newsOf (mkId i) 0 r.leaves ls, putLoc (newsOf (mkId i) 0 r.leaves ls) σ x.1 = some x.2.2 := fun x hx => fold_mem (fun x : Oid × Ob × Loc => some x.2.2) (·.1) _ σ x (newsOf_nd (fun j k => mkId_inj) _ _ _) hx
  have hob := out_ob (mk := mkId i) (az := az) 0 ob h1
  have has' := AV.RepL.later hL _ _ has
  have hfz : (∃ c, RL.frz c ∈ r.leaves) → ∀ b, w.heap.size ≤ b → imm (putOb (newsOf (mkId i) 0 r.leaves ls) ob) (putLoc (newsOf (mkId i) 0 r.leaves ls) σ) b := by
    intro hc b hb j o c s hj hs
    have hnil : newsOf (mkId i) 0 r.leaves ls = [] := by
      rw [h2' hc]
      cases hq : newsOf (mkId i) 0 r.leaves [] with
      | nil => rfl
      | cons x xs =>
        obtain ⟨_, _, _, h3⟩ := newsOf_ids r.leaves [] 0 x (by rw [hq]; simp)
        cases h3
    rw [hnil] at hs
    have := (h.lt j b c s hs).2
    omega
  refine ⟨putLoc (newsOf (mkId i) 0 r.leaves ls) σ, ?_, ?_, ?_⟩
  · simp only [RV.out, hob]; exact hL
  · simp only [RV.out, hob]; exact hM
  · simp only [RV.out, hob]
    refine rv_rep r ?_
    have key : ∀ {rs : List RL} {us : List Value} {ls : List Loc}, RL.RepL w.heap.size im0 vs w' rs us ls → RL.RepL w.heap.size (fun _ => False) vs w' rs us ls := by
      intro rs
      induction rs with
      | nil => intro us ls h; exact h
      | cons l r ih =>
        intro us ls h
        cases l with
        | sc c => obtain ⟨u, us', e, q1, q2, q3⟩ := h; exact ⟨u, us', e, (by cases c <;> first | exact q1 | cases q2), q2, ih q3⟩
        | new e t xs => obtain ⟨l, ls', us', e1, e2, q1, q2, q3, q4⟩ := h; exact ⟨l, ls', us', e1, e2, q1, q2, q3, ih q4⟩
        | arg i k => obtain ⟨u, us', e, q1, q3⟩ := h; exact ⟨u, us', e, q1, ih q3⟩
        | frz c => obtain ⟨u, us', e, q1, q2, q3⟩ := h; exact ⟨u, us', e, q1, q2, ih q3⟩
    exact out_rep (fun b _ hb => hb.elim) has' hfz 0 (key h1) hmem

/-- A call. -/
theorem evCall_does {o : Oper} {a : Act} {f : Nat → AV} {obL : Oid → Option Ob} {i : Oid} {v : AV} {us : List (Oid × Option Ob)} {c : Call} {fo : Operand} {fo' : Opd} {zs : List Opd} {g : FuncId} {caps : List AV} {capo : List Opd} {tys : List (List (Option Ty))} (ho : o.op = .call c) (hcb : c.callee = .value fo) (hfo : Opd.of fo = some fo') (hg : fo'.ev f = .fn g caps)
    (hxs : Opd.ofL c.args.toList = some zs) (hcap : capo.map (Opd.ev f) = caps) (he : CallR P G f obL i tys g (zs ++ capo) (v, us)) (hm : Mem0 G w0 ob σ K w) (hK : ∀ n, K n → K' n) (hi : ¬ K i.2) (hi' : K' i.2)
    (hob : ∀ i o l, obL i = some o → σ i = some l → o.Rep w0.heap.size σ (imm ob σ) w l)
    (hf : ∀ x ∈ o.op.operands, ∀ y, Opd.of x = some y → AV.Rep σ (imm ob σ) w (y.ev f) (a.eval x)) : Oper.does P o a w (Goes G w0 (applyU us ob) K' σ (imm ob σ) w v) := by
  have hops : o.op.operands = #[fo] ++ c.args := by rw [ho]; simp [Op.operands, Call.operands, hcb]
  have rf := hf fo (by rw [hops]; simp) fo' hfo
  rw [hg] at rf
  obtain ⟨cv, ef, hcv⟩ := rf
  have ra := ofL_rep (σ := σ) (w := w) (im := imm ob σ) (f := f) (a := a) hxs (fun x hx => hf x (by rw [hops]; simp; exact .inr (by simpa using hx)))
  have rall : AV.RepL σ (imm ob σ) w ((zs ++ capo).map (Opd.ev f)) (c.args.toList.map a.eval ++ cv) := by
    rw [List.map_append, hcap]; exact ra.append hcv
  have hexec : ∀ h : hasBody P g = true, (execOp a.eval o).run P w = .ok (.enter g (c.args.toList.map a.eval ++ cv).toArray) w := by
    intro h
    have hcf := callFunc_run (P := P) (w := w) (args := (c.args.toList.map a.eval ++ cv).toArray) h
    have e1 : Array.map a.eval c.args ++ cv.toArray = (c.args.toList.map a.eval ++ cv).toArray := by
      apply Array.ext'; simp
    simp [execOp, ho, resolve, hcb, ef, Deferred.ofValue, invoke, e1, hcf]
  have hG : ∀ w', Below w.heap.size w w' → G w' := fun w' hb => hm.inv w' (hm.below.trans (hb.mono hm.below.size))
  obtain ⟨hbody, args, rv, hargs, hok, hh⟩ := he
  have hrep := nilTL_rep (ts := tys) (mapO_rep (gnd_rep hob 8) hargs rall)
  refine Oper.does_enter (hexec hbody) ((hok w (fun _ => True) _ hG hrep).mono ?_)
  rintro e w' ⟨u, rfl, hb, hrv⟩
  have := RV.goes hm hb hK hi hi' rall hrv
  rw [hh] at this
  exact ⟨u, rfl, this⟩
/-- A call that changes rows. -/
theorem callM_does {o : Oper} {a : Act} {f : Nat → AV} {obL : Oid → Option Ob} {v : AV} {us : List (Oid × Option Ob)} {c : Call} {fo : Operand} {fo' : Opd} {zs : List Opd} {g : FuncId} {caps : List AV} {capo : List Opd} (ho : o.op = .call c) (hcb : c.callee = .value fo) (hfo : Opd.of fo = some fo') (hg : fo'.ev f = .fn g caps)
    (hxs : Opd.ofL c.args.toList = some zs) (hcap : capo.map (Opd.ev f) = caps) (he : CallN P G f obL g (zs ++ capo) (v, us)) (hm : Mem0 G w0 ob σ K w) (hK : ∀ n, K n → K' n) (hKB : ∃ B, ∀ n, K n → n < B)
    (hag : ∀ id o l, obL id = some o → σ id = some l → ob id = some o)
    (hf : ∀ x ∈ o.op.operands, ∀ y, Opd.of x = some y → AV.Rep σ (imm ob σ) w (y.ev f) (a.eval x)) : Oper.does P o a w (Goes G w0 (applyU us ob) K' σ (imm ob σ) w v) := by
  have hops : o.op.operands = #[fo] ++ c.args := by rw [ho]; simp [Op.operands, Call.operands, hcb]
  have rf := hf fo (by rw [hops]; simp) fo' hfo
  rw [hg] at rf
  obtain ⟨cv, ef, hcv⟩ := rf
  have ra := ofL_rep (σ := σ) (w := w) (im := imm ob σ) (f := f) (a := a) hxs (fun x hx => hf x (by rw [hops]; simp; exact .inr (by simpa using hx)))
  have rall : AV.RepL σ (imm ob σ) w ((zs ++ capo).map (Opd.ev f)) (c.args.toList.map a.eval ++ cv) := by
    rw [List.map_append, hcap]; exact ra.append hcv
  have hexec : ∀ h : hasBody P g = true, (execOp a.eval o).run P w = .ok (.enter g (c.args.toList.map a.eval ++ cv).toArray) w := by
    intro h
    have hcf := callFunc_run (P := P) (w := w) (args := (c.args.toList.map a.eval ++ cv).toArray) h
    have e1 : Array.map a.eval c.args ++ cv.toArray = (c.args.toList.map a.eval ++ cv).toArray := by
      apply Array.ext'; simp
    simp [execOp, ho, resolve, hcb, ef, Deferred.ofValue, invoke, e1, hcf]
  obtain ⟨hbody, θ, args, ol, us0, e1, e2, e3, e4, _, hok, e5⟩ := he
  have hloc : ∀ q ∈ ol, σ (θ q.1) ≠ none := by
    intro q hq
    obtain ⟨t, off, len, hin⟩ := e4 q hq
    obtain ⟨c, hc, hin⟩ := List.mem_flatMap.1 hin
    obtain ⟨k, hk⟩ := List.mem_iff_getElem?.1 hc
    obtain ⟨u, _, hu⟩ := rall.get hk
    exact flat1_loc hu hin
  have e2' : ∀ q ∈ ol, ob (θ q.1) = some q.2 := by
    intro q hq
    cases hs : σ (θ q.1) with
    | none => exact absurd hs (hloc q hq)
    | some l => exact hag _ _ l (e2 q hq) hs
  obtain rfl : us = us0.map fun q => (θ q.1, some q.2) := e5
  rw [e1] at rall
  refine Oper.does_enter (hexec hbody) ((hok θ w0 ob σ K w _ hm e2' e3 rall).mono ?_)
  rintro e w' ⟨u, rfl, σ', h1, h2, h3⟩
  exact ⟨u, rfl, σ', h1, h2.wide hK, h3⟩
end
end Go.Proofs.YthjdknddcceigaaDoor
