/- Plain data in memory: what it is that a value, or the memory at an address, reads as a datum of a type of integers, bools, strings, slices and pairs; no condition. -/
import Derived.Test.YtefolocdfgelcaaDoorRows
import Derived.WalkKit
import Derived.ProofKit
import Derived.OpenShut
import Derived.Deep.Slices
import Derived.Deep.Fields
import Derived.Lib.Hide
namespace Go.Proofs.YtefolocdfgelcaaDoor
open Go.ChangeShapes Go.WideShapes Go.ChangeAt Go.RowKit

theorem block_of_add (a : Addr) (n : Nat) : (a.add n).block = a.block := by unfold Addr.add; split <;> rfl
theorem add_of_add (a : Addr) (i j : Nat) : (a.add i).add j = a.add (i + j) := by
  unfold Addr.add
  by_cases hi : i = 0 <;> by_cases hj : j = 0 <;> simp [hi, hj, Nat.add_assoc]

/-- The types of plain data. A struct is the pair of its first field and the rest. -/
inductive Ty where
  | int | bool | str
  | slice (t : Ty)
  | pair (a b : Ty)

@[reducible] def Ty.D : Ty → Type
  | .int => Int
  | .bool => Bool
  | .str => ByteArray
  | .slice t => List t.D
  | .pair a b => a.D × b.D

def Ty.dflt : (t : Ty) → t.D
  | .int => (0 : Int)
  | .bool => false
  | .str => ByteArray.empty
  | .slice _ => []
  | .pair a b => (a.dflt, b.dflt)

def Ty.size : Ty → Nat
  | .int | .bool | .str | .slice _ => 1
  | .pair a b => a.size + b.size

/-- Elements of sz cells each, behind an address in a block of R: each reads by M; the leaves' addresses, in order, are 'ls'. -/
def Elems {α : Type} (R : Nat → Prop) (M : Addr → α → List Addr → Prop) (sz : Nat) (A : Option Addr) (c : Nat) (xs : List α) (ls : List Addr) : Prop :=
  xs.length ≤ c ∧ c ≤ maxLen ∧ ∃ f : Nat → List Addr, ls = (List.range xs.length).flatMap f ∧
    (0 < xs.length → ∃ ad, A = some ad ∧ R ad.block ∧ ∀ (i : Nat) (h : i < xs.length), M (ad.add (i * sz)) xs[i] (f i))

def Ty.Mem (R : Nat → Prop) (w : World) : (t : Ty) → Addr → t.D → List Addr → Prop
  | .int, a, n, ls => w.cell? a = some (.int .i64 n) ∧ ls = [a]
  | .bool, a, b, ls => w.cell? a = some (.bool b) ∧ ls = [a]
  | .str, a, s, ls => w.cell? a = some (.string s) ∧ ls = [a]
  | .slice t, a, xs, ls => ∃ A c, w.cell? a = some (.slice A xs.length c) ∧ Elems R (Ty.Mem R w t) t.size A c xs ls
  | .pair t u, a, x, ls => ∃ l1 l2, Ty.Mem R w t a x.1 l1 ∧ Ty.Mem R w u (a.add t.size) x.2 l2 ∧ ls = l1 ++ l2

/-- The cells 'cs' of a value read as x; 'ls': the addresses of the leaves in the memory behind it. -/
def Ty.Val (R : Nat → Prop) (w : World) : (t : Ty) → List Value → t.D → List Addr → Prop
  | .int, cs, n, ls => cs = [.int .i64 n] ∧ ls = []
  | .bool, cs, b, ls => cs = [.bool b] ∧ ls = []
  | .str, cs, s, ls => cs = [.string s] ∧ ls = []
  | .slice t, cs, xs, ls => ∃ A c, cs = [.slice A xs.length c] ∧ Elems R (Ty.Mem R w t) t.size A c xs ls
  | .pair t u, cs, x, ls => ∃ c1 c2 l1 l2, cs = c1 ++ c2 ∧ Ty.Val R w t c1 x.1 l1 ∧ Ty.Val R w u c2 x.2 l2 ∧ ls = l1 ++ l2

/-- Every integer fits 64 bits, every string the model's greatest length. -/
def Ty.In : (t : Ty) → t.D → Prop
  | .int, n => -9223372036854775808 ≤ n ∧ n ≤ 9223372036854775807
  | .bool, _ => True
  | .str, s => s.size ≤ maxLen
  | .slice t, xs => ∀ x ∈ xs, Ty.In t x
  | .pair t u, x => Ty.In t x.1 ∧ Ty.In u x.2

abbrev Sl (R : Nat → Prop) (w : World) (t : Ty) (A : Option Addr) (c : Nat) (xs : List t.D) (ls : List Addr) : Prop := Elems R (Ty.Mem R w t) t.size A c xs ls

/-- Does the program's type t have the form ty? -/
def Ty.fitsL (P : Program) (F : Ty → TypeId → Bool) : Ty → List Field → Nat → Bool
  | ty, [f], o => f.offset == o && (P.cellsOf f.type == ty.size && F ty f.type)
  | .pair a b, f :: g :: fs, o => (f.offset == o && (P.cellsOf f.type == a.size && F a f.type)) && Ty.fitsL P F b (g :: fs) (o + a.size)
  | _, _, _ => false
def Ty.fits (P : Program) : Nat → Ty → TypeId → Bool
  | 0, _, _ => false
  | n + 1, ty, t =>
    match P.underlying t with
    | some (.int .i64) => (match ty with | .int => true | _ => false)
    | some .bool => (match ty with | .bool => true | _ => false)
    | some .string => (match ty with | .str => true | _ => false)
    | some (.slice e) => (match ty with | .slice u => P.cellsOf e == u.size && Ty.fits P n u e | _ => false)
    | some (.struct fs) => P.cellsOf t == ty.size && Ty.fitsL P (Ty.fits P n) ty fs.toList 0
    | _ => false

theorem Ty.Val.length {R : Nat → Prop} {w : World} : ∀ {t : Ty} {cs : List Value} {x : t.D} {ls : List Addr}, Ty.Val R w t cs x ls → cs.length = t.size
  | .int, _, _, _, h => by rw [h.1]; rfl
  | .bool, _, _, _, h => by rw [h.1]; rfl
  | .str, _, _, _, h => by rw [h.1]; rfl
  | .slice _, _, _, _, ⟨_, _, h, _⟩ => by rw [h]; rfl
  | .pair _ _, _, _, _, ⟨_, _, _, _, h, h1, h2, _⟩ => by
    rw [h, List.length_append, Ty.Val.length h1, Ty.Val.length h2]; rfl

/-- A value that lies at an address. -/
theorem Ty.Val.mem {R : Nat → Prop} {w : World} : ∀ {t : Ty} {cs : List Value} {x : t.D} {ls : List Addr} {a : Addr}, Ty.Val R w t cs x ls → (∀ j, j < cs.length → w.cell? (a.add j) = cs[j]?) → ∃ bs, Ty.Mem R w t a x bs
  | .int, _, _, _, a, h, hc => by
    obtain ⟨rfl, _⟩ := h
    exact ⟨_, by simpa [Addr.add] using hc 0 (by simp), rfl⟩
  | .bool, _, _, _, a, h, hc => by
    obtain ⟨rfl, _⟩ := h
    exact ⟨_, by simpa [Addr.add] using hc 0 (by simp), rfl⟩
  | .str, _, _, _, a, h, hc => by
    obtain ⟨rfl, _⟩ := h
    exact ⟨_, by simpa [Addr.add] using hc 0 (by simp), rfl⟩
  | .slice t, _, _, ls, a, h, hc => by
    obtain ⟨A, c, rfl, he⟩ := h
    exact ⟨ls, A, c, by simpa [Addr.add] using hc 0 (by simp), he⟩
  | .pair t u, _, x, _, a, h, hc => by
    obtain ⟨c1, c2, l1, l2, rfl, h1, h2, _⟩ := h
    obtain ⟨b1, m1⟩ := Ty.Val.mem (a := a) h1 (fun j hj => by
      rw [hc j (by rw [List.length_append]; omega), List.getElem?_append_left hj])
    obtain ⟨b2, m2⟩ := Ty.Val.mem (a := a.add t.size) h2 (fun j hj => by
      rw [add_of_add, hc _ (by rw [List.length_append, h1.length]; omega), List.getElem?_append_right (by rw [h1.length]; omega), h1.length]
      congr 1; omega)
    exact ⟨_, b1, b2, m1, m2, rfl⟩

section
variable {H : Type} {enc : TypeId × Value → H} {P : Program} {w : World} {base : Nat} {spare : Nat → Bool} {held : Bool}

theorem Ty.openL {n : Nat} (ih : ∀ (ty : Ty) (t : TypeId) (cs : List Value) (x : DataW H × List MemPlace) (fuel : Nat), Ty.fits P n ty t = true → DataW.trod enc P w base spare held fuel t cs = some x → ∃ d ls, Ty.Val (fun _ => True) w ty cs d ls ∧ Ty.In ty d)
    (fuel : Nat) (cs : List Value) : ∀ (fs : List Field) (ty : Ty) (o : Nat), Ty.fitsL P (Ty.fits P n) ty fs o = true → cs.length = o + ty.size →
      (∀ f ∈ fs, ∃ x, DataW.trod enc P w base spare held fuel f.type ((cs.drop f.offset).take (P.cellsOf f.type)) = some x) → ∃ d ls, Ty.Val (fun _ => True) w ty (cs.drop o) d ls ∧ Ty.In ty d
  | [], ty, o, hf, _, _ => by simp [Ty.fitsL] at hf
  | [f], ty, o, hf, hl, ht => by
    have hf' : f.offset = o ∧ P.cellsOf f.type = ty.size ∧ Ty.fits P n ty f.type = true := by
      cases ty <;> simpa [Ty.fitsL] using hf
    obtain ⟨ho, hc, hF⟩ := hf'
    obtain ⟨x, hx⟩ := ht f (by simp)
    rw [ho, hc, List.take_of_length_le (by rw [List.length_drop]; omega)] at hx
    exact ih _ _ _ _ _ hF hx
  | f :: g :: fs, .pair a b, o, hf, hl, ht => by
    simp only [Ty.fitsL, Bool.and_eq_true, beq_iff_eq] at hf
    obtain ⟨⟨ho, hc, hF⟩, hr⟩ := hf
    obtain ⟨x, hx⟩ := ht f (by simp)
    rw [ho, hc] at hx
    obtain ⟨d1, l1, v1, i1⟩ := ih _ _ _ _ _ hF hx
    have hl' : cs.length = o + (a.size + b.size) := hl
    obtain ⟨d2, l2, v2, i2⟩ := Ty.openL ih fuel cs (g :: fs) b (o + a.size) hr (by omega) (fun f' hf' => ht f' (List.mem_cons_of_mem _ hf'))
    exact ⟨(d1, d2), _, ⟨_, _, l1, l2, by rw [← List.drop_drop, List.take_append_drop], v1, v2, rfl⟩, i1, i2⟩
  | f :: g :: fs, .int, o, hf, _, _ => by simp [Ty.fitsL] at hf
  | f :: g :: fs, .bool, o, hf, _, _ => by simp [Ty.fitsL] at hf
  | f :: g :: fs, .str, o, hf, _, _ => by simp [Ty.fitsL] at hf
  | f :: g :: fs, .slice _, o, hf, _, _ => by simp [Ty.fitsL] at hf

/-- What the form reads, reads as data here. -/
theorem Ty.open_ : ∀ (n : Nat) (ty : Ty) (t : TypeId) (cs : List Value) (x : DataW H × List MemPlace) (fuel : Nat), Ty.fits P n ty t = true → DataW.trod enc P w base spare held fuel t cs = some x → ∃ d ls, Ty.Val (fun _ => True) w ty cs d ls ∧ Ty.In ty d
  | 0, _, _, _, _, _, hf, _ => by simp [Ty.fits] at hf
  | n + 1, ty, t, cs, x, fuel, hf, h => by
    unfold Ty.fits at hf
    split at hf
    · rename_i hu
      obtain ⟨k, rfl, _, hwf⟩ := DataW.trod_int hu h
      cases ty <;> simp at hf
      exact ⟨k, [], ⟨rfl, rfl⟩, bounds_i64 hwf⟩
    · rename_i hu
      obtain ⟨k, rfl, _⟩ := DataW.trod_bool hu h
      cases ty <;> simp at hf
      exact ⟨k, [], ⟨rfl, rfl⟩, trivial⟩
    · rename_i hu
      obtain ⟨k, rfl, _, hl⟩ := DataW.trod_string hu h
      cases ty <;> simp at hf
      exact ⟨k, [], ⟨rfl, rfl⟩, hl⟩
    · rename_i e hu
      cases ty <;> simp at hf
      rename_i u
      obtain ⟨hc, hF⟩ := hf
      rcases Deep.open_slice hu h with ⟨rfl, _⟩ | ⟨a, len, cap, m, n', D, Pl, rfl, hb, hl, hm, hmm, _, hi⟩
      · exact ⟨([] : List u.D), [], ⟨none, 0, rfl, by simp, by simp [maxLen], fun _ => [], by simp, fun h0 => absurd h0 (by simp)⟩, fun y hy => by cases hy⟩
      · have hlm : len ≤ m := by rw [hmm]; split <;> omega
        have hex : ∀ i, i < len → ∃ d : u.D × List Addr, Ty.Mem (fun _ => True) w u (a.add (i * u.size)) d.1 d.2 ∧ Ty.In u d.1 := by
          intro i hilt
          obtain ⟨cs', hcs', ht'⟩ := hi i (by omega)
          obtain ⟨_, hcl, hat⟩ := World.cells?_some hcs'
          obtain ⟨d, ls, hv, hin⟩ := Ty.open_ n u e cs' _ n' hF ht'
          rw [hc] at hat
          obtain ⟨bs, hm'⟩ := Ty.Val.mem hv (a := a.add (i * u.size)) (fun j hj => hat j (by omega))
          exact ⟨(d, bs), hm', hin⟩
        have hg : ∃ g : Nat → u.D × List Addr, ∀ i, i < len → Ty.Mem (fun _ => True) w u (a.add (i * u.size)) (g i).1 (g i).2 ∧ Ty.In u (g i).1 := by
          rcases Nat.eq_zero_or_pos len with h0 | h0
          · exact ⟨fun _ => (Ty.dflt u, []), fun i hi' => absurd hi' (by omega)⟩
          · have : Inhabited (u.D × List Addr) := ⟨(hex 0 h0).choose⟩
            exact Deep.choose_lt hex
        obtain ⟨g, hg⟩ := hg
        have hlen : ((List.range len).map fun i => (g i).1).length = len := by simp
        refine ⟨((List.range len).map fun i => (g i).1 : List u.D), _, ⟨some a, cap, by rw [hlen], by rw [hlen]; exact hl, hm, fun i => (g i).2, rfl, fun _ => ⟨a, rfl, trivial, fun i hi' => ?_⟩⟩, ?_⟩
        · rw [hlen] at hi'
          simpa using (hg i hi').1
        · intro y hy
          obtain ⟨i, hi', rfl⟩ := List.mem_map.1 hy
          exact (hg i (by simpa using hi')).2
    · rename_i fs hu
      simp only [Bool.and_eq_true, beq_iff_eq] at hf
      obtain ⟨hc, hF⟩ := hf
      obtain ⟨xs, n', _, _, hcl, hxl, hg⟩ := DataW.trod_struct hu h
      have := Ty.openL (enc := enc) (base := base) (spare := spare) (held := held) (Ty.open_ n) n' cs fs.toList ty 0 hF (by omega) (fun f hf' => by
        obtain ⟨i, hi, rfl⟩ := List.mem_iff_getElem.1 hf'
        have hi' : i < fs.size := by simpa using hi
        refine ⟨xs[i]'(by omega), ?_⟩
        rw [hg i _ (by simp [hi']), List.getElem?_eq_getElem])
      simpa using this
    · simp at hf

end
end Go.Proofs.YtefolocdfgelcaaDoor
