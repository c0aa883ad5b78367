/- An abstract machine: abstract values and objects, and when a frame and a memory represent an abstract state; no condition. -/
import Derived.Test.YtefolocdfgelcaaDoorMapE
import Derived.Test.YtefolocdfgelcaaDoorOwnV
namespace Go.Proofs.YtefolocdfgelcaaDoor
open Go.RowKit Go.Deep

/-- The program is the seat's. -/
class IsP (P : Program) : Prop where
  eq : P = Tryd.prog
instance : IsP Tryd.prog := ⟨rfl⟩
/-- The site at which an object was made (and for the rows that a row of rows leads to: which row, from 1 on), and the count of its making. -/
abbrev Oid := (Nat × Nat) × Nat
/-- The r-th row that a row of rows leads to. -/
def kid (p : Oid) (r : Nat) : Oid := ((p.1.1, r + 1), p.2)
theorem kid_inj {p : Oid} {r s : Nat} (h : kid p r = kid p s) : r = s := by
  have := congrArg (fun i : Oid => i.1.2) h
  simp only [kid] at this
  omega

/-- Abstract values. -/
inductive AV where
  | any
  | int (k : IntKind) (n : Int)
  | bool (b : Bool)
  | str (s : ByteArray)
  | nils
  | tree (t : Ty) (xs : List t.D)
  | own (i : Oid) (t : Ty) (off len : Nat)
  | box (i : Oid) (k : Nat)
  | elt (i : Oid) (j k : Nat)
  | telt (t : Ty) (x : t.D) (k : Nat)
  | agg (cs : List AV)
  | tup (vs : List AV)
  | fn (f : FuncId) (caps : List AV)
  | ref (cs : List AV)
  | giv (v : Value) (t : Ty) (xs : List t.D)
  | abool (pos : Bool) (n : Nat)
  | mp (i : Oid)
  | mtree (mt : TypeId) (t : Ty) (es : List (Int × t.D))

/-- Objects that the call itself has made: a variable's cells; a row that may grow; a map; a row whose cells hold other things than plain data; the rows that a row of rows leads to (they lie under names of their own); a row of rows by its contents (in lists only). -/
inductive Ob where
  | cells (ty : TypeId) (cs : List AV)
  | arr (e : TypeId) (t : Ty) (xs : List t.D)
  | map (mt : TypeId) (t : Ty) (es : List (Int × t.D))
  | vec (e : TypeId) (sz n : Nat) (cs : List AV)
  | pool (e : TypeId) (t : Ty) (xss : List (List t.D))
  | mat (e : TypeId) (p : Oid) (t : Ty) (xss : List (List t.D))

/-- Where an object lies: nowhere (a nil slice), or in a block: how many elements have room, how many cells an element has. -/
inductive Loc where
  | nil
  | at_ (b cap sz : Nat)

def Loc.val : Loc → Nat → Value
  | .nil, _ => .slice none 0 0
  | .at_ b cap _, n => .slice (some ⟨b, 0, none⟩) n cap

mutual
/-- The value v is what the abstract value says: σ: where the objects lie; im: blocks that nobody writes. -/
def AV.Rep (σ : Oid → Option Loc) (im : Nat → Prop) (w : World) : AV → Value → Prop
  | .any, _ => True
  | .int k n, v => v = .int k n
  | .bool b, v => v = .bool b
  | .str s, v => v = .string s
  | .nils, v => v = .slice none 0 0
  | .tree t xs, v => ∃ A c l, v = .slice A xs.length c ∧ Sl im w t A c xs l
  | .abool pos n, v => ∃ b, v = .bool b ∧ (b = pos → n = 0)
  | .giv u t xs, v => v = u ∧ ∃ A c l, v = .slice A xs.length c ∧ Sl im w t A c xs l
  | .own i t off len, v => (σ i = some .nil ∧ off = 0 ∧ len = 0 ∧ v = .slice none 0 0) ∨ (∃ b cap, σ i = some (.at_ b cap t.size) ∧ off + len ≤ cap ∧ v = .slice (some ⟨b, off * t.size, none⟩) len (cap - off)) ∨ ∃ lc, σ i = some lc ∧ off ≠ 0 ∧ len = 0 ∧ ∃ A c, v = .slice A 0 c ∧ c ≤ maxLen
  | .box i k, v => ∃ b cap sz, σ i = some (.at_ b cap sz) ∧ v = .pointer (some ⟨b, k, none⟩)
  | .elt i j k, v => ∃ b cap sz, σ i = some (.at_ b cap sz) ∧ v = .pointer (some ⟨b, j * sz + k, none⟩)
  | .mp i, v => ∃ b cap sz, σ i = some (.at_ b cap sz) ∧ v = .map (some b)
  | .mtree mt t es, v => ∃ b, v = .map (some b) ∧ im b ∧ MapRep Tryd.prog mt t es w b
  | .telt t x k, v => ∃ a l, v = .pointer (some (a.add k)) ∧ Ty.Mem im w t a x l ∧ im a.block
  | .agg cs, v => ∃ vs : List Value, v = .agg vs.toArray ∧ AV.RepL σ im w cs vs
  | .tup cs, v => ∃ vs : List Value, v = .tuple vs.toArray ∧ AV.RepL σ im w cs vs
  | .fn f caps, v => ∃ vs : List Value, v = .func (.func f) #[] vs.toArray ∧ AV.RepL σ im w caps vs
  | .ref cs, v => ∃ (b k : Nat) (vs : List Value), v = .pointer (some ⟨b, k, none⟩) ∧ (b < w.heap.size ∧ im b) ∧ (∀ (j : Nat) (u : Value), vs[j]? = some u → w.cell? ⟨b, k + j, none⟩ = some u) ∧ AV.RepL σ im w cs vs
def AV.RepL (σ : Oid → Option Loc) (im : Nat → Prop) (w : World) : List AV → List Value → Prop
  | [], vs => vs = []
  | c :: cs, vs => ∃ u us, vs = u :: us ∧ AV.Rep σ im w c u ∧ AV.RepL σ im w cs us
end

/-- From one memory to a later one: the objects stay where they are, blocks that nobody writes stay such blocks, and their cells stay. -/
structure Later (σ σ' : Oid → Option Loc) (im im' : Nat → Prop) (w w' : World) : Prop where
  loc : ∀ i l, σ i = some l → σ' i = some l
  im_ : ∀ b, b < w.heap.size → im b → im' b
  blk : ∀ b, b < w.heap.size → im b → w'.heap[b]? = w.heap[b]?
  size : w.heap.size ≤ w'.heap.size
theorem Later.cell {σ σ' : Oid → Option Loc} {im im' : Nat → Prop} {w w' : World} (h : Later σ σ' im im' w w') (p : Addr) (u : Value) (hp : im p.block) (hc : w.cell? p = some u) : w'.cell? p = some u :=
  (World.cell?_of_block (h.blk _ (World.block_lt_of_cell? w p hc) hp)).trans hc

section
variable {σ σ' σ'' : Oid → Option Loc} {im im' im'' : Nat → Prop} {w w' w'' : World}
theorem Later.mem (h : Later σ σ' im im' w w') {t : Ty} {a : Addr} {x : t.D} {l : List Addr} (ha : im a.block) (hm : Ty.Mem im w t a x l) : im' a.block ∧ Ty.Mem im' w' t a x l := by
  have hlt := hm.lt
  refine ⟨h.im_ _ hlt ha, ?_⟩
  have h1 : Ty.Mem (fun b => im b ∧ b < w.heap.size) w t a x l := hm.mono fun b hb hi => ⟨hi, hb⟩
  have h2 : Ty.Mem (fun b => im b ∧ b < w.heap.size) w' t a x l := h1.keep (R := fun b => im b ∧ b < w.heap.size) ⟨ha, hlt⟩ (fun p u hr hc _ => h.cell p u hr.1 hc)
  exact h2.mono fun b _ hb => h.im_ b hb.2 hb.1
theorem Later.sl (h : Later σ σ' im im' w w') {t : Ty} {A : Option Addr} {c : Nat} {xs : List t.D} {l : List Addr} (hs : Sl im w t A c xs l) : Sl im' w' t A c xs l := by
  obtain ⟨h1, h2, f, e2, hf⟩ := hs
  refine ⟨h1, h2, f, e2, fun h0 => ?_⟩
  obtain ⟨ad, e', hr, hm⟩ := hf h0
  have hb := (h.mem (by rw [block_of_add]; exact hr) (hm 0 h0)).1
  rw [block_of_add] at hb
  exact ⟨ad, e', hb, fun i hlt => (h.mem (by rw [block_of_add]; exact hr) (hm i hlt)).2⟩

mutual
theorem AV.Rep.later (h : Later σ σ' im im' w w') : ∀ (c : AV) (v : Value), AV.Rep σ im w c v → AV.Rep σ' im' w' c v
  | .any, _, _ => trivial
  | .int _ _, _, h => h
  | .bool _, _, h => h
  | .str _, _, h => h
  | .nils, _, h => h
  | .tree _ _, _, ⟨A, c, l, e, hs⟩ => ⟨A, c, l, e, h.sl hs⟩
  | .giv _ _ _, _, ⟨h0, A, c, l, e, hs⟩ => ⟨h0, A, c, l, e, h.sl hs⟩
  | .abool _ _, _, h => h
  | .own _ _ _ _, _, hv => by
      rcases hv with ⟨h1, h2⟩ | ⟨b, cap, h1, h2⟩ | ⟨lc, h1, h2⟩
      · exact .inl ⟨h.loc _ _ h1, h2⟩
      · exact .inr (.inl ⟨b, cap, h.loc _ _ h1, h2⟩)
      · exact .inr (.inr ⟨lc, h.loc _ _ h1, h2⟩)
  | .box _ _, _, ⟨b, cap, sz, h1, h2⟩ => ⟨b, cap, sz, h.loc _ _ h1, h2⟩
  | .elt _ _ _, _, ⟨b, cap, sz, h1, h2⟩ => ⟨b, cap, sz, h.loc _ _ h1, h2⟩
  | .mp _, _, ⟨b, cap, sz, h1, h2⟩ => ⟨b, cap, sz, h.loc _ _ h1, h2⟩
  | .mtree _ _ _, _, ⟨b, e, h1, h2⟩ => ⟨b, e, h.im_ _ h2.lt h1, h2.same (h.blk _ h2.lt h1)⟩
  | .telt _ _ _, _, ⟨a, l, e, h1, h2⟩ => ⟨a, l, e, (h.mem h2 h1).2, (h.mem h2 h1).1⟩
  | .agg cs, _, ⟨vs, e, hl⟩ => ⟨vs, e, AV.RepL.later h cs vs hl⟩
  | .tup cs, _, ⟨vs, e, hl⟩ => ⟨vs, e, AV.RepL.later h cs vs hl⟩
  | .fn _ cs, _, ⟨vs, e, hl⟩ => ⟨vs, e, AV.RepL.later h cs vs hl⟩
  | .ref cs, _, ⟨b, k, vs, e, hb, hc, hl⟩ => ⟨b, k, vs, e, ⟨Nat.lt_of_lt_of_le hb.1 h.size, h.im_ _ hb.1 hb.2⟩, fun j u hu => h.cell _ _ hb.2 (hc j u hu), AV.RepL.later h cs vs hl⟩
theorem AV.RepL.later (h : Later σ σ' im im' w w') : ∀ (cs : List AV) (vs : List Value), AV.RepL σ im w cs vs → AV.RepL σ' im' w' cs vs
  | [], _, h => h
  | c :: cs, _, ⟨u, us, e, h1, h2⟩ => ⟨u, us, e, AV.Rep.later h c u h1, AV.RepL.later h cs us h2⟩
end
theorem Later.refl (σ : Oid → Option Loc) (im : Nat → Prop) (w : World) : Later σ σ im im w w := ⟨fun _ _ h => h, fun _ _ h => h, fun _ _ _ => rfl, Nat.le_refl _⟩

theorem AV.RepL.length : ∀ {cs : List AV} {vs : List Value}, AV.RepL σ im w cs vs → vs.length = cs.length
  | [], _, h => by rw [show _ = [] from h]; rfl
  | _ :: _, _, ⟨_, _, e, _, h⟩ => by subst e; simp [AV.RepL.length h]
theorem AV.RepL.get : ∀ {cs : List AV} {vs : List Value} {k : Nat} {c : AV}, AV.RepL σ im w cs vs → cs[k]? = some c → ∃ v, vs[k]? = some v ∧ AV.Rep σ im w c v
  | [], _, _, _, _, hk => by simp at hk
  | _ :: _, _, 0, _, ⟨u, _, e, h1, _⟩, hk => by subst e; simp at hk; subst hk; exact ⟨u, by simp, h1⟩
  | _ :: _, _, k + 1, _, ⟨_, _, e, _, h2⟩, hk => by
    subst e
    obtain ⟨v, hv, hr⟩ := AV.RepL.get h2 (by simpa using hk)
    exact ⟨v, by simpa using hv, hr⟩
theorem AV.RepL.of_get : ∀ {cs : List AV} {vs : List Value}, vs.length = cs.length → (∀ (k : Nat) (c : AV) (v : Value), cs[k]? = some c → vs[k]? = some v → AV.Rep σ im w c v) → AV.RepL σ im w cs vs
  | [], _, hl, _ => List.length_eq_zero_iff.1 (by simpa using hl)
  | _ :: _, [], hl, _ => by simp at hl
  | c :: _, v :: vs, hl, h => ⟨v, vs, rfl, h 0 c v (by simp) (by simp), AV.RepL.of_get (by simpa using hl) (fun k c' v' h1 h2 => h (k + 1) c' v' (by simpa using h1) (by simpa using h2))⟩
theorem AV.RepL.set {cs : List AV} {vs : List Value} {k : Nat} {c : AV} {v : Value} (h : AV.RepL σ im w cs vs) (hv : AV.Rep σ im w c v) : AV.RepL σ im w (cs.set k c) (vs.set k v) := by
  refine AV.RepL.of_get (by simp [h.length]) (fun j c' v' h1 h2 => ?_)
  rw [List.getElem?_set] at h1 h2
  by_cases hj : k = j
  · subst hj
    simp at h1 h2
    obtain ⟨_, rfl⟩ := h1
    obtain ⟨_, rfl⟩ := h2
    exact hv
  · simp [hj] at h1 h2
    obtain ⟨u, hu, hr⟩ := h.get h1
    rw [h2] at hu
    obtain rfl := Option.some.inj hu
    exact hr
theorem AV.RepL.append {cs ds : List AV} {vs us : List Value} (h : AV.RepL σ im w cs vs) (h' : AV.RepL σ im w ds us) : AV.RepL σ im w (cs ++ ds) (vs ++ us) := by
  induction cs generalizing vs with
  | nil => rw [show vs = [] from h]; exact h'
  | cons c cs ih => obtain ⟨u, ws, rfl, h1, h2⟩ := h; exact ⟨u, _, rfl, h1, ih h2⟩
theorem AV.RepL.take {cs : List AV} {vs : List Value} (h : AV.RepL σ im w cs vs) (n : Nat) : AV.RepL σ im w (cs.take n) (vs.take n) := by
  refine AV.RepL.of_get (by simp [h.length]) (fun j c' v' h1 h2 => ?_)
  rw [List.getElem?_take] at h1 h2
  split at h1 <;> simp_all
  obtain ⟨u, hu, hr⟩ := h.get h1
  rw [h2] at hu
  obtain rfl := Option.some.inj hu
  exact hr
theorem AV.RepL.drop {cs : List AV} {vs : List Value} (h : AV.RepL σ im w cs vs) (n : Nat) : AV.RepL σ im w (cs.drop n) (vs.drop n) := by
  refine AV.RepL.of_get (by simp [h.length]) (fun j c' v' h1 h2 => ?_)
  rw [List.getElem?_drop] at h1 h2
  obtain ⟨u, hu, hr⟩ := h.get h1
  rw [h2] at hu
  obtain rfl := Option.some.inj hu
  exact hr
end

/-- Values of one cell. -/
def AV.one : AV → Bool
  | .any | .agg _ | .tup _ => false
  | _ => true
theorem AV.one_rep {σ : Oid → Option Loc} {im : Nat → Prop} {w : World} {c : AV} {v : Value} (h : c.one = true) (hr : AV.Rep σ im w c v) : v.oneCell' = true := by
  cases c with
  | any => cases h
  | agg _ => cases h
  | tup _ => cases h
  | int k n => rw [show v = .int k n from hr]; rfl
  | bool b => rw [show v = .bool b from hr]; rfl
  | str s => rw [show v = .string s from hr]; rfl
  | nils => rw [show v = .slice none 0 0 from hr]; rfl
  | tree t xs => obtain ⟨_, _, _, e, _⟩ := hr; subst e; rfl
  | abool _ _ => obtain ⟨_, e, _⟩ := hr; subst e; rfl
  | giv _ _ _ => obtain ⟨_, _, _, _, e, _⟩ := hr; subst e; rfl
  | own i t off len => rcases hr with ⟨_, _, _, e⟩ | ⟨_, _, _, _, e⟩ | ⟨_, _, _, _, _, _, e, _⟩ <;> subst e <;> rfl
  | box i k => obtain ⟨_, _, _, _, e⟩ := hr; subst e; rfl
  | elt i j k => obtain ⟨_, _, _, _, e⟩ := hr; subst e; rfl
  | telt t x k => obtain ⟨_, _, e, _⟩ := hr; subst e; rfl
  | mp i => obtain ⟨_, _, _, _, e⟩ := hr; subst e; rfl
  | mtree mt t es => obtain ⟨_, e, _⟩ := hr; subst e; rfl
  | fn f caps => obtain ⟨_, e, _⟩ := hr; subst e; rfl
  | ref cs => obtain ⟨_, _, _, e, _⟩ := hr; subst e; rfl
theorem AV.one_repL {σ : Oid → Option Loc} {im : Nat → Prop} {w : World} : ∀ {cs : List AV} {vs : List Value}, cs.all AV.one = true → AV.RepL σ im w cs vs → ∀ v ∈ vs, v.oneCell' = true
  | [], _, _, h, v, hv => by rw [show _ = [] from h] at hv; cases hv
  | c :: cs, _, hc, ⟨u, us, e, h1, h2⟩, v, hv => by
    subst e
    simp only [List.all_cons, Bool.and_eq_true] at hc
    rcases List.mem_cons.1 hv with rfl | hv
    · exact AV.one_rep hc.1 h1
    · exact AV.one_repL hc.2 h2 v hv

/-- A value that was given, without its mark. -/
def AV.un : AV → AV
  | .giv _ t xs => .tree t xs
  | c => c
theorem un_rep {σ : Oid → Option Loc} {im : Nat → Prop} {w : World} {c : AV} {v : Value} (h : AV.Rep σ im w c v) : AV.Rep σ im w c.un v := by
  cases c <;> first | exact h | exact h.2

/-- How the cells of an object read. -/
def Ob.Rep (lo : Nat) (σ : Oid → Option Loc) (im : Nat → Prop) (w : World) : Ob → Loc → Prop
  | .cells ty cs, .at_ b _ _ => ∃ vs : List Value, w.heap[b]? = some (.cells vs.toArray ty (0, 0)) ∧ AV.RepL σ im w cs vs ∧ ∀ v ∈ vs, v.oneCell' = true
  | .cells _ _, .nil => False
  | .map mt t es, .at_ b _ _ => MapRep Tryd.prog mt t es w b
  | .map _ _ _, .nil => False
  | .arr e t xs, l => t.flat = true ∧ ownsV w lo e t.size (l.val xs.length) xs.length (t.cells xs) ∧ ∀ b c s, l = .at_ b c s → s = t.size
  | .vec e sz n cs, l => ∃ vs : List Value, ownsV w lo e sz (l.val n) n vs ∧ AV.RepL σ im w cs vs ∧ (∀ v ∈ vs, v.oneCell' = true) ∧ ∀ b c s, l = .at_ b c s → s = sz
  | .pool _ _ _, _ => False
  | .mat _ _ _ _, _ => False

/-- The blocks that nobody writes: all but those of the objects that live. -/
def imm (ob : Oid → Option Ob) (σ : Oid → Option Loc) (b : Nat) : Prop := ∀ i o c s, ob i = some o → σ i ≠ some (.at_ b c s)

/-- The memory w represents the objects 'ob', as far as they have been made; G: what is kept of the memory besides; K: the counts that have been used. -/
structure Mem0 (G : World → Prop) (w0 : World) (ob : Oid → Option Ob) (σ : Oid → Option Loc) (K : Nat → Prop) (w : World) : Prop where
  below : Below w0.heap.size w0 w
  inv : ∀ w', Below w0.heap.size w0 w' → G w'
  gen : ∀ i l, σ i = some l → K i.2
  lt : ∀ i b c s, σ i = some (.at_ b c s) → w0.heap.size ≤ b ∧ b < w.heap.size
  cap : ∀ i b c s, σ i = some (.at_ b c s) → c ≤ maxLen
  inj : ∀ i j b c s c' s' o o', ob i = some o → ob j = some o' → σ i = some (.at_ b c s) → σ j = some (.at_ b c' s') → i = j
  obs : ∀ i o l, ob i = some o → σ i = some l → o.Rep w0.heap.size σ (imm ob σ) w l

end Go.Proofs.YtefolocdfgelcaaDoor
