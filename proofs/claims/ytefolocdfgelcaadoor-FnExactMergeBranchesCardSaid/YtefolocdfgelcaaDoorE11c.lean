/- An abstract machine: slices of slices that nobody changes; no condition. -/
import Derived.Test.YtefolocdfgelcaaDoorE11b
namespace Go.Proofs.YtefolocdfgelcaaDoor
open Go.RowKit Go.Deep

section
variable {G : World → Prop} {w0 w : World} {ob ob' : Oid → Option Ob} {σ : Oid → Option Loc} {K K' : Nat → Prop}
theorem imm_sub (h : ∀ i o, ob' i = some o → ob i = some o) {b : Nat} (hb : imm ob σ b) : imm ob' σ b := fun i o c s ho => hb i o c s (h i o ho)
theorem Later.sub (h : ∀ i o, ob' i = some o → ob i = some o) : Later σ σ (imm ob σ) (imm ob' σ) w w := ⟨fun _ _ h => h, fun _ _ hb => imm_sub h hb, fun _ _ _ => rfl, Nat.le_refl _⟩
theorem Mem0.sub (hm : Mem0 G w0 ob σ K w) (h : ∀ i o, ob' i = some o → ob i = some o) : Mem0 G w0 ob' σ K w :=
  ⟨hm.below, hm.inv, hm.gen, hm.lt, hm.cap, fun i j b c s c' s' o o' hi hj => hm.inj i j b c s c' s' o o' (h i o hi) (h j o' hj), fun i o l hi hl => (hm.obs i o l (h i o hi) hl).later (Later.sub h) fun _ _ _ _ => rfl⟩
end

def freeOf : AV → List (Oid × Option Ob)
  | .own i _ _ _ => [(i, none)]
  | _ => []
def srcL (f : Nat → AV) (ob : Oid → Option Ob) (t : Ty) : List Opd → Option (List (List t.D))
  | [] => some []
  | x :: xs => match srcOf ob t (x.ev f), srcL f ob t xs with
    | some y, some ys => some (y :: ys)
    | _, _ => none
/-- A slice of slices; rows of the call's own are changed by nobody from here on. -/
def evMkT (f : Nat → AV) (ob : Oid → Option Ob) (t : Ty) (xs : List Opd) : Option (AV × List (Oid × Option Ob)) :=
  match srcL f ob t xs with
  | some yss => some (.tree (.slice t) yss, xs.flatMap fun x => freeOf (x.ev f))
  | none => none

section
variable {P : Program} {G : World → Prop} {w0 w w' : World} {ob : Oid → Option Ob} {σ : Oid → Option Loc} {K K' : Nat → Prop} {im : Nat → Prop}

theorem fill1 : ∀ (vs : List Value) (k : Nat) (cells : Array Value), (∀ v ∈ vs, v.cells = #[v]) → k + vs.length ≤ cells.size →
    ∃ cs, Instr.fill (fun i => some (i * 1, 1)) cells ((vs.zipIdx k).map fun x => (x.2, x.1)) = some cs ∧ cs.size = cells.size ∧ ∀ j, cs[j]? = if k ≤ j ∧ j < k + vs.length then vs[j - k]? else cells[j]?
  | [], k, cells, _, _ => ⟨cells, rfl, rfl, fun j => by rw [if_neg (by simp)]⟩
  | v :: vs, k, cells, h, hs => by
    simp only [List.length_cons] at hs
    have hv := h v (by simp)
    obtain ⟨cs, h1, h2, h3⟩ := fill1 vs (k + 1) (cells.setIfInBounds k v) (fun u hu => h u (by simp [hu])) (by rw [Array.size_setIfInBounds]; omega)
    refine ⟨cs, ?_, by rw [h2, Array.size_setIfInBounds], fun j => ?_⟩
    · simp only [List.zipIdx_cons, List.map_cons, Instr.fill, Nat.mul_one]
      rw [if_neg (by simp [hv]; omega)]
      simp only [hv]
      simpa using h1
    · rw [h3 j]
      by_cases e : j = k
      · subst e
        rw [if_neg (by omega), if_pos (by simp), Array.getElem?_setIfInBounds_self_of_lt (by omega)]
        simp
      · rw [Array.getElem?_setIfInBounds_ne (by omega)]
        by_cases c : k + 1 ≤ j ∧ j < k + 1 + vs.length
        · rw [if_pos c, if_pos (by simp only [List.length_cons]; omega), show j - k = (j - (k + 1)) + 1 by omega]
          simp
        · rw [if_neg c, if_neg (by simp only [List.length_cons]; omega)]

theorem applyU_free : ∀ (us : List (Oid × Option Ob)) (ob : Oid → Option Ob), (∀ u ∈ us, u.2 = none) → (∀ i o, applyU us ob i = some o → ob i = some o) ∧ ∀ u ∈ us, applyU us ob u.1 = none
  | [], _, _ => ⟨fun _ _ h => h, fun _ h => by cases h⟩
  | (j, x) :: us, ob, h => by
    obtain rfl : x = none := h (j, x) (by simp)
    obtain ⟨h1, h2⟩ := applyU_free us (upd ob j none) fun u hu => h u (by simp [hu])
    have key : ∀ i o, upd ob j none i = some o → ob i = some o := by
      intro i o hi
      by_cases e : i = j
      · subst e; rw [upd_same] at hi; cases hi
      · rw [upd_other _ _ _ _ e] at hi; exact hi
    refine ⟨fun i o hi => key i o (h1 i o hi), fun u hu => ?_⟩
    rcases List.mem_cons.1 hu with rfl | hu
    · show applyU us (upd ob j none) j = none
      cases hq : applyU us (upd ob j none) j with
      | none => rfl
      | some o =>
        have := h1 j o hq
        rw [upd_same] at this; cases this
    · exact h2 u hu

theorem src_sl {t : Ty} {v : AV} {u : Value} {ys : List t.D} (hm : Mem0 G w0 ob σ K w) (h : srcOf ob t v = some ys) (hr : AV.Rep σ (imm ob σ) w v u) :
    ∃ A c l, u = .slice A ys.length c ∧ Sl (fun b => imm ob σ b ∨ ∃ i t0 off len cap sz, v = .own i t0 off len ∧ σ i = some (.at_ b cap sz) ∧ ob i ≠ none) w t A c ys l := by
  unfold srcOf at h
  split at h
  · obtain rfl := Option.some.inj h
    exact ⟨none, 0, [], hr, by simp, by simp [maxLen], fun _ => [], by simp, fun h => absurd h (by simp)⟩
  · rename_i u0 xs
    split at h
    · rename_i hp hq
      obtain ⟨he⟩ := hp
      subst he
      obtain rfl := Option.some.inj h
      obtain ⟨A, c, l, e, hs⟩ := hr
      exact ⟨A, c, l, e, sl_mono (fun b _ hb => .inl hb) hs⟩
    · cases h
  · rename_i vg u0 xs
    split at h
    · rename_i hp hq
      obtain ⟨he⟩ := hp
      subst he
      obtain rfl := Option.some.inj h
      obtain ⟨A, c, l, e, hs⟩ := hr.2
      exact ⟨A, c, l, e, sl_mono (fun b _ hb => .inl hb) hs⟩
    · cases h
  · rename_i i t0 off len
    split at h
    · rename_i e u0 xs hj
      split at h
      · rename_i hle
        split at h
        · rename_i hp hq
          obtain ⟨he⟩ := hp
          subst he
          obtain rfl := Option.some.inj h
          simp only [castL_self]
          have hlen : ((xs.drop off).take len).length = len := by rw [List.length_take, List.length_drop]; omega
          rcases hr with ⟨g1, rfl, rfl, g4⟩ | ⟨b, cap, g1, g2, g3⟩ | ⟨lc, g1, g2, g3, A, c, g4, g5⟩
          rotate_left
          rotate_left
          · subst g3
            exact ⟨A, c, [], by rw [hlen]; exact g4, by simp, g5, fun _ => [], by simp, fun h => absurd h (by simp)⟩
          · exact ⟨none, 0, [], by rw [hlen]; exact g4, by simp, by simp [maxLen], fun _ => [], by simp, fun h => absurd h (by simp)⟩
          · obtain ⟨hfl, hown, hs⟩ := hm.obs _ _ _ hj g1
            have hs0 := hs b cap _ rfl
            obtain ⟨l, hl⟩ := own_sl hfl hown hle
            exact ⟨_, _, l, by rw [hlen, ← hs0]; exact g3, sl_mono (fun b' _ hb => by subst hb; exact .inr ⟨i, t0, off, len, cap, _, rfl, g1, by rw [hj]; simp⟩) hl⟩
        · cases h
      · cases h
    · cases h
  · cases h

def sliceElem (P : Program) (e : TypeId) : Bool :=
  match P.info? e with
  | some i => match i.zero with
    | some z => i.size == 1 && z.cells.size == 1
    | none => false
  | none => false
theorem sliceElem_spec {e : TypeId} (h : sliceElem P e = true) : ∃ i z, P.info? e = some i ∧ i.zero = some z ∧ i.size = 1 ∧ z.cells.size = 1 := by
  unfold sliceElem at h
  split at h
  · rename_i i hi
    split at h
    · rename_i z hz
      simp only [Bool.and_eq_true, beq_iff_eq] at h
      exact ⟨i, z, hi, hz, h.1, h.2⟩
    · cases h
  · cases h

theorem srcL_rep {f : Nat → AV} {a : Act} {t : Ty} (hm : Mem0 G w0 ob σ K w) : ∀ {xs : List Operand} {zs : List Opd} {yss : List (List t.D)}, Opd.ofL xs = some zs → srcL f ob t zs = some yss → (∀ x ∈ xs, ∀ y, Opd.of x = some y → AV.Rep σ (imm ob σ) w (y.ev f) (a.eval x)) →
    xs.length = yss.length ∧ ∀ (k : Nat) (x : Operand) (ys : List t.D), xs[k]? = some x → yss[k]? = some ys → ∃ z ∈ zs, ∃ A c l, a.eval x = .slice A ys.length c ∧ Sl (fun b => imm ob σ b ∨ ∃ i t0 off len cap sz, z.ev f = .own i t0 off len ∧ σ i = some (.at_ b cap sz) ∧ ob i ≠ none) w t A c ys l
  | [], zs, yss, h, he, _ => by
    obtain rfl : [] = zs := Option.some.inj h
    obtain rfl : [] = yss := Option.some.inj he
    exact ⟨rfl, fun k x ys hx => by simp at hx⟩
  | x :: xs, zs, yss, h, he, hf => by
    simp only [Opd.ofL] at h
    split at h
    · rename_i y ys' h1 h2
      obtain rfl := Option.some.inj h
      simp only [srcL] at he
      split at he
      · rename_i q qs h3 h4
        obtain rfl := Option.some.inj he
        obtain ⟨e1, e2⟩ := srcL_rep hm h2 h4 (fun x hx => hf x (by simp [hx]))
        refine ⟨by simp [e1], fun k x' ys hx hy => ?_⟩
        cases k with
        | zero =>
          obtain rfl := Option.some.inj hx
          obtain rfl := Option.some.inj hy
          exact ⟨y, by simp, src_sl hm h3 (hf x (by simp) y h1)⟩
        | succ k =>
          obtain ⟨z, hz, r⟩ := e2 k x' ys hx hy
          exact ⟨z, by simp [hz], r⟩
      · cases he
    · cases h

theorem evMkT_does {o : Oper} {a : Act} {f : Nat → AV} {v : AV} {us : List (Oid × Option Ob)} {ty e : TypeId} {t : Ty} {n : Nat} {parts : Array (Nat × Operand)} {zs : List Opd} (ho : o.op = .buildSlice ty n parts) (ht : P.underlying ty = some (.slice e)) (hel : sliceElem P e = true)
    (hp : parts.toList.map (·.1) = List.range n) (h2 : Opd.ofL (parts.toList.map (·.2)) = some zs) (hn : n ≤ 16777216)
    (he : evMkT f ob t zs = some (v, us)) (hm : Mem0 G w0 ob σ K w) (hK : ∀ n, K n → K' n)
    (hf : ∀ x ∈ o.op.operands, ∀ y, Opd.of x = some y → AV.Rep σ (imm ob σ) w (y.ev f) (a.eval x)) : Oper.does P o a w (Goes G w0 (applyU us ob) K' σ (imm ob σ) w v) := by
  obtain ⟨inf, z, q1, q2, q3, q4⟩ := sliceElem_spec hel
  unfold evMkT at he
  split at he
  · rename_i yss hyss
    obtain ⟨rfl, rfl⟩ := Prod.mk.inj (Option.some.inj he)
    have hops : o.op.operands = (parts.toList.map (·.2)).toArray := by rw [ho]; rfl
    obtain ⟨hlen, hc⟩ := srcL_rep hm h2 hyss (fun x hx => hf x (by rw [hops]; simpa using hx))
    have hpn : parts.size = n := by
      have := congrArg List.length hp
      simpa using this
    have hyn : yss.length = n := by rw [← hlen]; simpa using hpn
    have hvals : ((parts.toList.map (·.2)).map a.eval).length = n := by simp [hpn]
    have hps : (parts.toList.map fun x => (x.1, a.eval x.2)) = (((parts.toList.map (·.2)).map a.eval).zipIdx 0).map fun x => (x.2, x.1) := by
      apply List.ext_getElem?
      intro j
      simp only [List.getElem?_map, List.getElem?_zipIdx]
      cases hq : parts.toList[j]? with
      | none => simp
      | some q =>
        have hj := (List.getElem?_eq_some_iff.1 hq).1
        have e1 : (parts.toList.map (·.1))[j]? = some q.1 := by rw [List.getElem?_map, hq]; rfl
        rw [hp, List.getElem?_range (by simpa [hpn] using hj)] at e1
        simp [Option.some.inj e1]
    have hone : ∀ u ∈ (parts.toList.map (·.2)).map a.eval, u.cells = #[u] := by
      intro u hu
      obtain ⟨k, hk⟩ := List.getElem?_of_mem hu
      rw [List.getElem?_map] at hk
      obtain ⟨x, hx, rfl⟩ := Option.map_eq_some_iff.1 hk
      have hkl : k < yss.length := by rw [← hlen]; exact (List.getElem?_eq_some_iff.1 hx).1
      obtain ⟨_, _, A, c, l, e1, _⟩ := hc k x _ hx (List.getElem?_eq_getElem hkl)
      rw [e1]; rfl
    have hfill : ∀ cells : Array Value, cells.size = n → Instr.fill (fun i => some (i * 1, 1)) cells (parts.toList.map fun x => (x.1, a.eval x.2)) = some ((parts.toList.map (·.2)).map a.eval).toArray := by
      intro cells hcells
      obtain ⟨cs, g1, g2, g3⟩ := fill1 ((parts.toList.map (·.2)).map a.eval) 0 cells hone (by omega)
      rw [hps, g1]
      congr 1
      apply Array.ext'
      apply List.ext_getElem?
      intro j
      have := g3 j
      rw [Array.getElem?_toList, this]
      split
      · simp
      · rename_i hge
        rw [List.getElem?_eq_none (by simp; omega), Array.getElem?_eq_none (by omega)]
    have hrun : (execOp a.eval o).run P w = .ok (.value (.slice (some ⟨w.heap.size, 0, none⟩) n n)) (w.alloc (.cells ((parts.toList.map (·.2)).map a.eval).toArray e)) := by
      have hle : ¬ (16777216 < n) := by omega
      by_cases h0 : n = 0
      · simp [execOp, ho, Instr.buildSlice, run_underlying ht, sizeOf, typeInfo, q1, q3, h0, newRow]
        have := hfill (Array.map (fun _ => default) (Array.range 0)) (by simp [h0])
        simp only [Nat.mul_one] at this
        rw [this]
        simp
      · simp [execOp, ho, Instr.buildSlice, run_underlying ht, sizeOf, typeInfo, q1, q2, q3, h0, hle, newRow, zeroValue]
        have := hfill (Array.map (fun x => z.cells[x % z.cells.size]!) (Array.range n)) (by simp)
        simp at this
        rw [this]
        simp
    have hfree : ∀ u ∈ zs.flatMap (fun x => freeOf (x.ev f)), u.2 = none := by
      intro u hu
      obtain ⟨x, _, hx⟩ := List.mem_flatMap.1 hu
      unfold freeOf at hx
      split at hx
      · obtain rfl := List.mem_singleton.1 hx; rfl
      · cases hx
    obtain ⟨hsub, hgone⟩ := applyU_free _ ob hfree
    refine Oper.does_value hrun ?_
    have hb : Below w.heap.size w (w.alloc (.cells ((parts.toList.map (·.2)).map a.eval).toArray e)) := (Below.refl _ _).alloc (Nat.le_refl _) _
    have hL : Later σ σ (imm ob σ) (imm (applyU (zs.flatMap fun x => freeOf (x.ev f)) ob) σ) w (w.alloc (.cells ((parts.toList.map (·.2)).map a.eval).toArray e)) :=
      ⟨fun _ _ h => h, fun b _ h => imm_sub hsub h, fun b hlt _ => hb.block b hlt, hb.size⟩
    refine ⟨σ, hL, (hm.sub hsub).grow hb hK, ?_⟩
    have hR : ∀ z ∈ zs, ∀ b, (imm ob σ b ∨ ∃ i t0 off len cap sz, z.ev f = .own i t0 off len ∧ σ i = some (.at_ b cap sz) ∧ ob i ≠ none) → imm (applyU (zs.flatMap fun x => freeOf (x.ev f)) ob) σ b := by
      rintro z hz b (h | ⟨i, t0, off, len, cap, sz, e1, e2, e3⟩)
      · exact imm_sub hsub h
      · intro j o c s hj hs
        have hij : j = i := by
          cases ho : ob i with
          | none => exact absurd ho e3
          | some o' => exact hm.inj j i b c s cap sz o o' (hsub _ _ hj) ho hs e2
        subst hij
        have := hgone (j, none) (List.mem_flatMap.2 ⟨z, hz, by rw [e1]; simp [freeOf]⟩)
        rw [this] at hj; cases hj
    have hpick : ∀ k : Nat, ∃ l, ∀ (x : Operand) (ys : List t.D), (parts.toList.map (·.2))[k]? = some x → yss[k]? = some ys → ∃ A c, a.eval x = .slice A ys.length c ∧ Sl (imm (applyU (zs.flatMap fun x => freeOf (x.ev f)) ob) σ) w t A c ys l := by
      intro k
      cases hx : (parts.toList.map (·.2))[k]? with
      | none => exact ⟨[], fun _ _ h => by cases h⟩
      | some x =>
        cases hy : yss[k]? with
        | none => exact ⟨[], fun _ _ _ h => by cases h⟩
        | some ys =>
          obtain ⟨z, hz, A, c, l, e1, e2⟩ := hc k x ys hx hy
          refine ⟨l, fun x' ys' hx' hy' => ?_⟩
          obtain rfl := Option.some.inj hx'
          obtain rfl := Option.some.inj hy'
          exact ⟨A, c, e1, sl_mono (fun b _ h => hR z hz b h) e2⟩
    refine ⟨some ⟨w.heap.size, 0, none⟩, n, _, by rw [hyn], by rw [hyn]; exact Nat.le_refl _, by simp only [maxLen]; omega, fun k => Classical.choose (hpick k), rfl, fun _ => ⟨_, rfl, ?_, fun k hk => ?_⟩⟩
    · intro i o c s _ hs
      have := (hm.lt i _ c s hs).2
      exact absurd this (Nat.lt_irrefl _)
    · have hkx : k < (parts.toList.map (·.2)).length := by rw [hlen]; exact hk
      obtain ⟨A, c, e1, e2⟩ := Classical.choose_spec (hpick k) _ _ (List.getElem?_eq_getElem hkx) (List.getElem?_eq_getElem hk)
      refine ⟨A, c, ?_, sl_below e2 hb⟩
      have hkn : k < parts.size := by simpa using hkx
      rw [add_mk, ← e1]
      simp only [World.cell?, World.alloc, Ty.size, Nat.mul_one, Nat.zero_add, Array.getElem?_push_size]
      simp [hkn]
  · cases he
theorem evMkT_free {f : Nat → AV} {t : Ty} {zs : List Opd} {v : AV} {us : List (Oid × Option Ob)} (he : evMkT f ob t zs = some (v, us)) : ∀ u ∈ us, ob u.1 ≠ none := by
  unfold evMkT at he
  split at he
  · rename_i yss hyss
    obtain ⟨_, rfl⟩ := Prod.mk.inj (Option.some.inj he)
    have key : ∀ (zs : List Opd) (yss : List (List t.D)), srcL f ob t zs = some yss → ∀ z ∈ zs, ∃ ys, srcOf ob t (z.ev f) = some ys := by
      intro zs
      induction zs with
      | nil => intro _ _ z hz; cases hz
      | cons z zs ih =>
        intro yss h z' hz
        simp only [srcL] at h
        split at h
        · rename_i y ys h1 h2
          rcases List.mem_cons.1 hz with rfl | hz
          · exact ⟨y, h1⟩
          · exact ih _ h2 z' hz
        · cases h
    intro u hu
    obtain ⟨z, hz, hx⟩ := List.mem_flatMap.1 hu
    obtain ⟨ys, hs⟩ := key zs yss hyss z hz
    unfold freeOf at hx
    split at hx
    · rename_i i t0 off len hv
      obtain rfl := List.mem_singleton.1 hx
      rw [hv] at hs
      intro hn
      simp only [srcOf, hn] at hs
      cases hs
    · cases hx
  · cases he
end
end Go.Proofs.YtefolocdfgelcaaDoor
