/- An abstract machine: slices that are made; conditions: their elements are flat. -/
import Derived.Test.YtefolocdfgelcaaDoorE6
namespace Go.Proofs.YtefolocdfgelcaaDoor
open Go.RowKit Go.Deep

/-- The same type? -/
def Ty.eq? : (a b : Ty) → Option (PLift (a = b))
  | .int, .int => some ⟨rfl⟩
  | .bool, .bool => some ⟨rfl⟩
  | .str, .str => some ⟨rfl⟩
  | .slice a, .slice b => match Ty.eq? a b with
    | some ⟨h⟩ => some ⟨congrArg Ty.slice h⟩
    | none => none
  | .pair a b, .pair c d => match Ty.eq? a c, Ty.eq? b d with
    | some ⟨h⟩, some ⟨k⟩ => some ⟨by rw [h, k]⟩
    | _, _ => none
  | _, _ => none
theorem Ty.eq?_self : ∀ a : Ty, Ty.eq? a a = some ⟨rfl⟩
  | .int => rfl
  | .bool => rfl
  | .str => rfl
  | .slice a => by simp [Ty.eq?, Ty.eq?_self a]
  | .pair a b => by simp [Ty.eq?, Ty.eq?_self a, Ty.eq?_self b]
def castL {a b : Ty} (h : PLift (a = b)) (xs : List a.D) : List b.D := h.down ▸ xs
theorem castL_self {a : Ty} (h : PLift (a = a)) (xs : List a.D) : castL h xs = xs := rfl

def pairUp : List (Option Ty) → Option Ty
  | [] => none
  | [x] => x
  | x :: y :: r => match x, pairUp (y :: r) with
    | some a, some b => some (.pair a b)
    | _, _ => none
def Ty.ofP (P : Program) : Nat → TypeId → Option Ty
  | 0, _ => none
  | n + 1, t => match P.underlying t with
    | some (.int .i64) => some .int
    | some .bool => some .bool
    | some .string => some .str
    | some (.slice e) => (Ty.ofP P n e).map .slice
    | some (.struct fs) => pairUp (fs.toList.map fun f => Ty.ofP P n f.type)
    | some (.array m e) => pairUp (List.replicate m (Ty.ofP P n e))
    | _ => none
/-- The cells of the zero value. -/
def Ty.zeroB : Ty → List Value → Bool
  | .int, [.int .i64 n] => n == 0
  | .bool, [.bool b] => !b
  | .str, [.string s] => s.data.toList.isEmpty
  | .pair a b, vs => a.zeroB (vs.take a.size) && b.zeroB (vs.drop a.size)
  | _, _ => false
def elemB (P : Program) (e : TypeId) (t : Ty) (bytes : Nat) : Bool :=
  match P.info? e with
  | some i => match i.zero with
    | some z => i.size == t.size && (i.bytes == bytes && (t.flat && (t.zeroB z.cells.toList && (decide (0 < t.size) && z.cells.size == t.size))))
    | none => false
  | none => false

theorem Ty.zeroB_eq : ∀ {t : Ty} {vs : List Value}, t.zeroB vs = true → vs = t.enc t.dflt
  | .int, vs, h => by
    unfold Ty.zeroB at h
    split at h <;> first | (cases h; done) | skip
    all_goals simp_all [Ty.enc, Ty.dflt]
  | .bool, vs, h => by
    unfold Ty.zeroB at h
    split at h <;> first | (cases h; done) | skip
    all_goals simp_all [Ty.enc, Ty.dflt]
  | .str, vs, h => by
    unfold Ty.zeroB at h
    split at h <;> first | (cases h; done) | skip
    all_goals simp_all [Ty.enc, Ty.dflt]
    exact ByteArray.ext h
  | .slice _, vs, h => by
    unfold Ty.zeroB at h
    cases h
  | .pair a b, vs, h => by
    simp only [Ty.zeroB, Bool.and_eq_true] at h
    have e1 := Ty.zeroB_eq h.1
    have e2 := Ty.zeroB_eq h.2
    rw [← List.take_append_drop a.size vs, e1, e2]
    rfl
theorem elemB_spec {P : Program} {e : TypeId} {t : Ty} {bytes : Nat} (h : elemB P e t bytes = true) : ∃ i z, P.info? e = some i ∧ i.zero = some z ∧ i.size = t.size ∧ i.bytes = bytes ∧ t.flat = true ∧ z.cells.toList = t.enc t.dflt ∧ 0 < t.size ∧ z.cells.size = t.size := by
  unfold elemB at h
  split at h
  · rename_i i hi
    split at h
    · rename_i z hz
      simp only [Bool.and_eq_true, beq_iff_eq, decide_eq_true_eq] at h
      obtain ⟨h1, h2, h3, h4, h5, h6⟩ := h
      exact ⟨i, z, hi, hz, h1, h2, h3, Ty.zeroB_eq h4, h5, h6⟩
    · cases h
  · cases h

/-- What a slice value reads as. -/
def srcOf (ob : Oid → Option Ob) (t : Ty) : AV → Option (List t.D)
  | .nils => some []
  | .tree u xs => match Ty.eq? u t with
    | some h => some (castL h xs)
    | none => none
  | .giv _ u xs => match Ty.eq? u t with
    | some h => some (castL h xs)
    | none => none
  | .own i _ off len => match ob i with
    | some (.arr _ u xs) => if off + len ≤ xs.length then match Ty.eq? u t with
      | some h => some (((castL h xs).drop off).take len)
      | none => none
      else none
    | _ => none
  | _ => none

section
variable {P : Program} {G : World → Prop} {w0 w w' : World} {ob : Oid → Option Ob} {σ : Oid → Option Loc} {K K' : Nat → Prop} {im : Nat → Prop}

theorem castL_len {a b : Ty} (h : PLift (a = b)) (xs : List a.D) : (castL h xs).length = xs.length := by
  obtain ⟨h⟩ := h; subst h; rfl
theorem cells_seg {t : Ty} (hfl : t.flat = true) (xs : List t.D) (off len : Nat) : t.cells ((xs.drop off).take len) = ((t.cells xs).drop (off * t.size)).take (len * t.size) := by
  have hd : ∀ (n : Nat) (xs : List t.D), t.cells (xs.drop n) = (t.cells xs).drop (n * t.size) := by
    intro n
    induction n with
    | zero => simp
    | succ n ih =>
      intro xs
      cases xs with
      | nil => simp [Ty.cells]
      | cons x r =>
        have e1 : t.cells (x :: r) = t.enc x ++ t.cells r := by simp [Ty.cells]
        rw [List.drop_succ_cons, ih, e1, Nat.succ_mul, List.drop_append, Ty.enc_length x hfl, List.drop_of_length_le (l := t.enc x) (by rw [Ty.enc_length x hfl]; omega), List.nil_append, Nat.add_sub_cancel]
  have ht : ∀ (n : Nat) (xs : List t.D), t.cells (xs.take n) = (t.cells xs).take (n * t.size) := by
    intro n
    induction n with
    | zero => simp [Ty.cells]
    | succ n ih =>
      intro xs
      cases xs with
      | nil => simp [Ty.cells]
      | cons x r =>
        have e1 : t.cells (x :: r) = t.enc x ++ t.cells r := by simp [Ty.cells]
        have e2 : t.cells (x :: r.take n) = t.enc x ++ t.cells (r.take n) := by simp [Ty.cells]
        rw [List.take_succ_cons, e2, ih, e1, Nat.succ_mul, List.take_append, Ty.enc_length x hfl, List.take_of_length_le (l := t.enc x) (by rw [Ty.enc_length x hfl]; omega), Nat.add_sub_cancel]
  rw [ht, hd]

theorem sl_cells {t : Ty} (hfl : t.flat = true) {R : Nat → Prop} {ad : Addr} {c : Nat} {ys : List t.D} {l : List Addr} (hy : Sl R w t (some ad) c ys l) {j : Nat} {u : Value} (hj : (t.cells ys)[j]? = some u) : w.cell? (ad.add j) = some u := by
  have hlt' := (List.getElem?_eq_some_iff.1 hj).1
  rw [Ty.cells_length hfl] at hlt'
  have hsz : 0 < t.size := by
    rcases Nat.eq_zero_or_pos t.size with h | h
    · rw [h] at hlt'; omega
    · exact h
  have hi' : j / t.size < ys.length := Nat.div_lt_of_lt_mul (by rw [Nat.mul_comm]; exact hlt')
  have h0 : 0 < ys.length := Nat.lt_of_le_of_lt (Nat.zero_le _) hi'
  have hm := Nat.mod_lt j hsz
  have hj' : j / t.size * t.size + j % t.size = j := by rw [Nat.mul_comm]; exact Nat.div_add_mod j t.size
  obtain ⟨_, _, f, _, hf⟩ := hy
  obtain ⟨ad', he, _, hmem⟩ := hf h0
  obtain rfl := Option.some.inj he
  have := ((hmem _ hi').flat hfl).1 _ hm
  rw [add_of_add, hj', ← Ty.cells_get hfl ys _ hi' _ hm, hj'] at this
  rw [this]; exact hj

/-- Where the cells of a slice value lie. -/
theorem srcOf_rep {t : Ty} {c : AV} {v : Value} {ys : List t.D} {obL : Oid → Option Ob} {lo : Nat} (hfl : t.flat = true) (h : srcOf obL t c = some ys) (hob : ∀ i o l, obL i = some o → σ i = some l → o.Rep lo σ im w l) (hr : AV.Rep σ im w c v) :
    ∃ A cp, v = .slice A ys.length cp ∧ (A = none → ys = []) ∧ ∀ ad, A = some ad → ∀ j u, (t.cells ys)[j]? = some u → w.cell? (ad.add j) = some u := by
  unfold srcOf at h
  split at h
  · obtain rfl := Option.some.inj h
    exact ⟨none, 0, hr, fun _ => rfl, fun _ e => by cases e⟩
  · rename_i u xs
    split at h
    · rename_i hh _
      obtain rfl := Option.some.inj h
      obtain ⟨hh⟩ := hh
      subst hh
      obtain ⟨A, cp, l, rfl, hs⟩ := hr
      refine ⟨A, cp, rfl, fun e => ?_, fun ad e j u' hu => ?_⟩
      · subst e
        rcases Nat.eq_zero_or_pos xs.length with h0 | h0
        · exact List.length_eq_zero_iff.1 h0
        · obtain ⟨_, _, _, _, hf⟩ := hs
          obtain ⟨ad, he, _⟩ := hf h0
          cases he
      · subst e
        exact sl_cells hfl hs hu
    · cases h
  · rename_i vg u xs
    split at h
    · rename_i hh _
      obtain rfl := Option.some.inj h
      obtain ⟨hh⟩ := hh
      subst hh
      obtain ⟨A, cp, l, rfl, hs⟩ := hr.2
      refine ⟨A, cp, rfl, fun e => ?_, fun ad e j u' hu => ?_⟩
      · subst e
        rcases Nat.eq_zero_or_pos xs.length with h0 | h0
        · exact List.length_eq_zero_iff.1 h0
        · obtain ⟨_, _, _, _, hf⟩ := hs
          obtain ⟨ad, he, _⟩ := hf h0
          cases he
      · subst e
        exact sl_cells hfl hs hu
    · cases h
  · rename_i i u0 off len
    split at h
    · rename_i e' u xs hj
      split at h
      · rename_i hle
        split at h
        · rename_i hh _
          obtain rfl := Option.some.inj h
          obtain ⟨hh⟩ := hh
          subst hh
          have hlen : (((castL ⟨rfl⟩ xs : List u.D).drop off).take len).length = len := by
            rw [castL_self, List.length_take, List.length_drop]; omega
          rcases hr with ⟨e1, e2, e3, e4⟩ | ⟨b, cap, e1, e2, e3⟩ | ⟨lc, e1, e2, e3, A, c, e4, e5⟩
          rotate_left
          rotate_left
          · subst e3
            exact ⟨A, c, by rw [hlen]; exact e4, fun _ => by simp, fun ad _ j u' hu => by simp [castL_self, Ty.cells] at hu⟩
          · subst e2 e3
            exact ⟨none, 0, by rw [hlen]; exact e4, fun _ => by simp, fun _ e => by cases e⟩
          · obtain ⟨_, hown, hsz⟩ := hob i _ _ hj e1
            have hs0 := hsz b cap _ rfl
            refine ⟨some ⟨b, off * u0.size, none⟩, cap - off, by rw [hlen]; exact e3, (fun e => by cases e), fun ad e j u' hu => ?_⟩
            obtain rfl := Option.some.inj e
            rw [castL_self, cells_seg hfl, List.getElem?_take] at hu
            split at hu
            · rw [List.getElem?_drop] at hu
              have := hown.cells (g := b) rfl _ _ hu
              rw [add_mk, Nat.zero_add] at this
              rw [add_mk, hs0]
              exact this
            · cases hu
        · cases h
      · cases h
    · cases h
  · cases h
end
end Go.Proofs.YtefolocdfgelcaaDoor
