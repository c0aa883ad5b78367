/- An abstract machine: how a represented memory goes on: new blocks, new objects, changed objects; no condition. -/
import Derived.Test.YtefolocdfgelcaaDoorE1
namespace Go.Proofs.YtefolocdfgelcaaDoor
open Go.RowKit Go.Deep

def upd {ι α : Type} [DecidableEq ι] (f : ι → α) (i : ι) (v : α) (j : ι) : α := if j = i then v else f j
section
variable {ι α : Type} [DecidableEq ι] (f : ι → α) (i j : ι) (v : α)
theorem upd_same : upd f i v i = v := by simp [upd]
theorem upd_other (h : j ≠ i) : upd f i v j = f j := by simp [upd, h]
end

section
variable {G : World → Prop} {w0 w w' : World} {ob ob' : Oid → Option Ob} {σ σ' : Oid → Option Loc} {K K' : Nat → Prop} {lo : Nat}

theorem own_block_eq {base : Nat} {e : TypeId} {sz : Nat} {l : Loc} {n : Nat} {cells : List Value} (h : ownsV w base e sz (l.val n) n cells) (hb : ∀ b c s, l = .at_ b c s → w'.heap[b]? = w.heap[b]?) : ownsV w' base e sz (l.val n) n cells := by
  refine h.block fun k hk => ?_
  cases l with
  | nil => cases hk
  | at_ b c s => cases hk; exact hb _ _ _ rfl

/-- An object reads as it did if its own block is as it was and all that is not written stays. -/
theorem Ob.Rep.later {im im' : Nat → Prop} (h : Later σ σ' im im' w w') : ∀ {o : Ob} {l : Loc}, o.Rep lo σ im w l → (∀ b c s, l = .at_ b c s → w'.heap[b]? = w.heap[b]?) → o.Rep lo σ' im' w' l
  | .cells _ _, .at_ b c s, ⟨vs, h1, h2, h3⟩, hb => ⟨vs, (hb b c s rfl).trans h1, AV.RepL.later h _ _ h2, h3⟩
  | .cells _ _, .nil, hh, _ => hh
  | .map _ _ _, .at_ b c s, hh, hb => MapRep.same hh (hb b c s rfl)
  | .map _ _ _, .nil, hh, _ => hh
  | .arr _ _ _, _, ⟨h1, h2, h3⟩, hb => ⟨h1, own_block_eq h2 hb, h3⟩
  | .vec _ _ _ _, _, ⟨vs, h1, h2, h3, h4⟩, hb => ⟨vs, own_block_eq h1 hb, AV.RepL.later h _ _ h2, h3, h4⟩
  | .pool _ _ _, _, hh, _ => hh
  | .mat _ _ _ _, _, hh, _ => hh

theorem Mem0.im_lt (h : Mem0 G w0 ob σ K w) {i : Oid} {b c s : Nat} (hi : σ i = some (.at_ b c s)) : b < w.heap.size := (h.lt i b c s hi).2

/-- Only new blocks. -/
theorem Later.below (hb : Below w.heap.size w w') : Later σ σ (imm ob σ) (imm ob σ) w w' :=
  ⟨fun _ _ h => h, fun _ _ h => h, fun b hlt _ => hb.block b hlt, hb.size⟩
theorem Mem0.grow (h : Mem0 G w0 ob σ K w) (hb : Below w.heap.size w w') (hK : ∀ n, K n → K' n) : Mem0 G w0 ob σ K' w' where
  below := h.below.trans (hb.mono h.below.size)
  inv := h.inv
  gen i l hi := hK _ (h.gen i l hi)
  lt i b c s hi := ⟨(h.lt i b c s hi).1, Nat.lt_of_lt_of_le (h.lt i b c s hi).2 hb.size⟩
  cap := h.cap
  inj := h.inj
  obs i o l ho hi := (h.obs i o l ho hi).later (Later.below hb) fun b c s e => hb.block b (h.lt i b c s (e ▸ hi)).2

/-- A new object in a new block. -/
theorem Later.new {i : Oid} {l : Loc} {o : Ob} (hi : σ i = none) (hb : Below w.heap.size w w') (hl : ∀ b c s, l = .at_ b c s → w.heap.size ≤ b) :
    Later σ (upd σ i (some l)) (imm ob σ) (imm (upd ob i (some o)) (upd σ i (some l))) w w' := by
  refine ⟨fun j k hj => ?_, fun b hlt him j o' c s ho hs => ?_, fun b hlt _ => hb.block b hlt, hb.size⟩
  · have : j ≠ i := fun e => by rw [e, hi] at hj; cases hj
    rw [upd_other _ _ _ _ this]; exact hj
  · by_cases e : j = i
    · subst e
      rw [upd_same] at hs
      have := hl b c s (Option.some.inj hs)
      omega
    · rw [upd_other _ _ _ _ e] at ho hs
      exact him j o' c s ho hs
theorem Mem0.new (h : Mem0 G w0 ob σ K w) {i : Oid} {l : Loc} {o : Ob} (hi : σ i = none) (hb : Below w.heap.size w w') (hl : ∀ b c s, l = .at_ b c s → w.heap.size ≤ b ∧ b < w'.heap.size ∧ c ≤ maxLen)
    (hK : ∀ n, K n → K' n) (hi' : K' i.2) (ho : o.Rep w0.heap.size (upd σ i (some l)) (imm (upd ob i (some o)) (upd σ i (some l))) w' l) : Mem0 G w0 (upd ob i (some o)) (upd σ i (some l)) K' w' := by
  have hL := Later.new (ob := ob) (o := o) hi hb (fun b c s e => (hl b c s e).1)
  refine ⟨h.below.trans (hb.mono h.below.size), h.inv, fun j k hj => ?_, fun j b c s hj => ?_, fun j b c s hj => ?_, fun j k b c s c' s' oj ok hoj hok hj hk => ?_, fun j oj lj hoj hj => ?_⟩
  · by_cases e : j = i
    · subst e; exact hi'
    · rw [upd_other _ _ _ _ e] at hj; exact hK _ (h.gen j k hj)
  · by_cases e : j = i
    · subst e
      rw [upd_same] at hj
      have := hl b c s (Option.some.inj hj)
      exact ⟨Nat.le_trans h.below.size this.1, this.2.1⟩
    · rw [upd_other _ _ _ _ e] at hj
      exact ⟨(h.lt j b c s hj).1, Nat.lt_of_lt_of_le (h.lt j b c s hj).2 hb.size⟩
  · by_cases e : j = i
    · subst e
      rw [upd_same] at hj
      exact (hl b c s (Option.some.inj hj)).2.2
    · rw [upd_other _ _ _ _ e] at hj
      exact h.cap j b c s hj
  · by_cases e : j = i <;> by_cases e' : k = i
    · rw [e, e']
    · subst e
      rw [upd_same] at hj
      rw [upd_other _ _ _ _ e'] at hk
      have := (hl b c s (Option.some.inj hj)).1
      have := (h.lt k b c' s' hk).2
      omega
    · subst e'
      rw [upd_same] at hk
      rw [upd_other _ _ _ _ e] at hj
      have := (hl b c' s' (Option.some.inj hk)).1
      have := (h.lt j b c s hj).2
      omega
    · rw [upd_other _ _ _ _ e] at hj hoj
      rw [upd_other _ _ _ _ e'] at hk hok
      exact h.inj j k b c s c' s' oj ok hoj hok hj hk
  · by_cases e : j = i
    · subst e
      rw [upd_same] at hj hoj
      obtain rfl := Option.some.inj hj
      obtain rfl := Option.some.inj hoj
      exact ho
    · rw [upd_other _ _ _ _ e] at hj hoj
      exact (h.obs j oj lj hoj hj).later hL fun b c s e' => hb.block b (h.lt j b c s (e' ▸ hj)).2

/-- Of the blocks that were there, only one has changed, and that is an object's own. -/
structure Only (b : Nat) (w w' : World) : Prop where
  os : w'.os = w.os
  tape : w'.tape = w.tape
  output : w'.output = w.output
  size : w.heap.size ≤ w'.heap.size
  block : ∀ k, k < w.heap.size → k ≠ b → w'.heap[k]? = w.heap[k]?
theorem Only.setCell (w : World) (p : Addr) (v : Value) : Only p.block w (w.setCell p v) := ⟨rfl, rfl, rfl, by simp [World.setCell], fun k _ hk => Below.heap_setCell w p v k hk⟩
theorem Only.trans {b : Nat} {w'' : World} (h : Only b w w') (k : Only b w' w'') : Only b w w'' :=
  ⟨k.os.trans h.os, k.tape.trans h.tape, k.output.trans h.output, Nat.le_trans h.size k.size, fun i h1 h2 => (k.block i (Nat.lt_of_lt_of_le h1 h.size) h2).trans (h.block i h1 h2)⟩
theorem Only.below {b : Nat} (h : Only b w w') (hB : lo ≤ b) (hl : lo ≤ w.heap.size) : Below lo w w' := ⟨h.os, h.tape, h.output, h.size, fun k hk => h.block k (by omega) (by omega)⟩
theorem Only.of_below {b : Nat} (h : Below w.heap.size w w') : Only b w w' := ⟨h.os, h.tape, h.output, h.size, fun k hk _ => h.block k hk⟩

/-- An object is replaced by another that lies in the same block (the same name, or a new one). -/
theorem Later.swap {i i' : Oid} {b c s c' s' : Nat} {o o' : Ob} (ho : ob i = some o) (hi : σ i = some (.at_ b c s)) (hi' : i' = i ∧ c' = c ∧ s' = s ∨ σ i' = none) (hb : Only b w w') :
    Later σ (upd σ i' (some (.at_ b c' s'))) (imm ob σ) (imm (upd (upd ob i none) i' (some o')) (upd σ i' (some (.at_ b c' s')))) w w' := by
  refine ⟨fun j k hj => ?_, fun b' hlt him j oj cj sj hoj hj => ?_, fun b' hlt hp => ?_, hb.size⟩
  · by_cases e : j = i'
    · subst e
      rcases hi' with ⟨rfl, rfl, rfl⟩ | hn
      · rw [upd_same, ← hi]; exact hj
      · rw [hn] at hj; cases hj
    · rw [upd_other _ _ _ _ e]; exact hj
  · by_cases e : j = i'
    · subst e
      rw [upd_same] at hj
      obtain ⟨rfl, _⟩ := Loc.at_.inj (Option.some.inj hj)
      exact him i o c s ho hi
    · rw [upd_other _ _ _ _ e] at hoj hj
      by_cases e2 : j = i
      · subst e2; rw [upd_same] at hoj; cases hoj
      · rw [upd_other _ _ _ _ e2] at hoj
        exact him j oj cj sj hoj hj
  · exact hb.block b' hlt fun e => hp i o c s ho (by rw [e]; exact hi)
theorem Mem0.swap (h : Mem0 G w0 ob σ K w) {i i' : Oid} {b c s c' s' : Nat} {o o' : Ob} (ho : ob i = some o) (hi : σ i = some (.at_ b c s)) (hi' : i' = i ∧ c' = c ∧ s' = s ∨ σ i' = none) (hb : Only b w w')
    (hK : ∀ n, K n → K' n) (hk : K' i'.2) (hcap : c' ≤ maxLen) (hr : o'.Rep w0.heap.size (upd σ i' (some (.at_ b c' s'))) (imm (upd (upd ob i none) i' (some o')) (upd σ i' (some (.at_ b c' s')))) w' (.at_ b c' s')) :
    Mem0 G w0 (upd (upd ob i none) i' (some o')) (upd σ i' (some (.at_ b c' s'))) K' w' := by
  have hL := Later.swap (o' := o') ho hi hi' hb
  have hbl := h.lt i b c s hi
  refine ⟨h.below.trans (hb.below hbl.1 h.below.size), h.inv, fun j k hj => ?_, fun j b' cj sj hj => ?_, fun j b' cj sj hj => ?_, fun j k b' cj sj ck sk oj ok hoj hok hj hk' => ?_, fun j oj lj hoj hj => ?_⟩
  · by_cases e : j = i'
    · subst e; exact hk
    · rw [upd_other _ _ _ _ e] at hj; exact hK _ (h.gen j k hj)
  · by_cases e : j = i'
    · subst e
      rw [upd_same] at hj
      obtain ⟨rfl, _⟩ := Loc.at_.inj (Option.some.inj hj)
      exact ⟨hbl.1, Nat.lt_of_lt_of_le hbl.2 hb.size⟩
    · rw [upd_other _ _ _ _ e] at hj
      exact ⟨(h.lt j b' cj sj hj).1, Nat.lt_of_lt_of_le (h.lt j b' cj sj hj).2 hb.size⟩
  · by_cases e : j = i'
    · subst e
      rw [upd_same] at hj
      obtain ⟨_, rfl, _⟩ := Loc.at_.inj (Option.some.inj hj)
      exact hcap
    · rw [upd_other _ _ _ _ e] at hj
      exact h.cap j b' cj sj hj
  · have key : ∀ j b' cj sj oj, upd (upd ob i none) i' (some o') j = some oj → upd σ i' (some (.at_ b c' s')) j = some (.at_ b' cj sj) → (j = i' ∧ b' = b) ∨ (j ≠ i' ∧ j ≠ i ∧ ob j = some oj ∧ σ j = some (.at_ b' cj sj)) := by
      intro j b' cj sj oj hoj hj
      by_cases e : j = i'
      · subst e
        rw [upd_same] at hj
        exact .inl ⟨rfl, (Loc.at_.inj (Option.some.inj hj)).1.symm⟩
      · rw [upd_other _ _ _ _ e] at hoj hj
        by_cases e2 : j = i
        · subst e2; rw [upd_same] at hoj; cases hoj
        · rw [upd_other _ _ _ _ e2] at hoj
          exact .inr ⟨e, e2, hoj, hj⟩
    rcases key j b' cj sj oj hoj hj with ⟨rfl, rfl⟩ | ⟨n1, n2, a1, a2⟩ <;> rcases key k b' ck sk ok hok hk' with ⟨rfl, e⟩ | ⟨m1, m2, c1, c2⟩
    · rfl
    · exact absurd (h.inj k i b' ck sk c s ok o c1 ho c2 hi) m2
    · subst e; exact absurd (h.inj j i b' cj sj c s oj o a1 ho a2 hi) n2
    · exact h.inj j k b' cj sj ck sk oj ok a1 c1 a2 c2
  · by_cases e : j = i'
    · subst e
      rw [upd_same] at hoj hj
      obtain rfl := Option.some.inj hoj
      obtain rfl := Option.some.inj hj
      exact hr
    · rw [upd_other _ _ _ _ e] at hoj hj
      by_cases e2 : j = i
      · subst e2; rw [upd_same] at hoj; cases hoj
      · rw [upd_other _ _ _ _ e2] at hoj
        refine (h.obs j oj lj hoj hj).later hL fun b' cj sj el => ?_
        subst el
        refine hb.block b' (h.lt j b' cj sj hj).2 fun eb => e2 ?_
        subst eb
        exact h.inj j i b' cj sj c s oj o hoj ho hj hi
end
end Go.Proofs.YtefolocdfgelcaaDoor
