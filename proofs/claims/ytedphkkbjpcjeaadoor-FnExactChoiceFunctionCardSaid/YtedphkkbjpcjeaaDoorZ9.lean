/- Lemmas on the program and on partial functions that stand in place of its code (part 9); no condition beyond those that each one states. -/
import Derived.Test.YtedphkkbjpcjeaaDoorZ8
import Derived.Deep.RegionHeld3
namespace Go.Proofs.YtedphkkbjpcjeaaDoor
def Cg (p a b : Int) : Prop := ∃ q, a = b + p * q
section
variable {p a b c d : Int}
theorem Cg.rf : Cg p a a := ⟨0, by simp⟩
theorem Cg.of (h : a = b) : Cg p a b := h ▸ Cg.rf
theorem Cg.symm (h : Cg p a b) : Cg p b a := by obtain ⟨q, rfl⟩ := h; exact ⟨-q, by grind⟩
theorem Cg.trans (h1 : Cg p a b) (h2 : Cg p b c) : Cg p a c := by obtain ⟨q, rfl⟩ := h1; obtain ⟨r, rfl⟩ := h2; exact ⟨q + r, by grind⟩
theorem Cg.add (h1 : Cg p a b) (h2 : Cg p c d) : Cg p (a + c) (b + d) := by obtain ⟨q, rfl⟩ := h1; obtain ⟨r, rfl⟩ := h2; exact ⟨q + r, by grind⟩
theorem Cg.sub (h1 : Cg p a b) (h2 : Cg p c d) : Cg p (a - c) (b - d) := by obtain ⟨q, rfl⟩ := h1; obtain ⟨r, rfl⟩ := h2; exact ⟨q - r, by grind⟩
theorem Cg.mul (h1 : Cg p a b) (h2 : Cg p c d) : Cg p (a * c) (b * d) := by obtain ⟨q, rfl⟩ := h1; obtain ⟨r, rfl⟩ := h2; exact ⟨q * d + b * r + p * q * r, by grind⟩
theorem Cg.md : Cg p (a % p) a := ⟨-(a / p), by have := Int.emod_add_mul_ediv a p; grind⟩
theorem Cg.to (h : Cg p a b) : a % p = b % p := by obtain ⟨q, rfl⟩ := h; rw [Int.add_mul_emod_self_left]
theorem Cg.fr (h : a % p = b % p) : Cg p a b := (Cg.md.symm.trans (Cg.of h)).trans Cg.md
theorem Cg.eq (h : Cg p a b) (h1 : 0 <= a ∧ a < p) (h2 : 0 <= b ∧ b < p) : a = b := by
 have := h.to
 rwa [Int.emod_eq_of_lt h1.1 h1.2, Int.emod_eq_of_lt h2.1 h2.2] at this
end
def sm : Nat -> (Nat -> Int) -> Int
 | 0, _ => 0
 | k + 1, f => sm k f + f k
section
variable {p : Int} {f g : Nat -> Int}
theorem sm_cg : ∀ {k : Nat}, (∀ i, i < k -> Cg p (f i) (g i)) -> Cg p (sm k f) (sm k g)
 | 0, _ => Cg.rf
 | k + 1, h => (sm_cg fun i hi => h i (by omega)).add (h k (by omega))
theorem sm_eq : ∀ {k : Nat}, (∀ i, i < k -> f i = g i) -> sm k f = sm k g
 | 0, _ => rfl
 | k + 1, h => by unfold sm; rw [sm_eq fun i hi => h i (by omega), h k (by omega)]
theorem sm_add : ∀ {k : Nat}, sm k (fun i => f i + g i) = sm k f + sm k g
 | 0 => rfl
 | k + 1 => by unfold sm; rw [sm_add]; dsimp only; omega
theorem sm_mul {a : Int} : ∀ {k : Nat}, sm k (fun i => a * f i) = a * sm k f
 | 0 => by simp [sm]
 | k + 1 => by unfold sm; rw [sm_mul]; grind
theorem sm_zero : ∀ {k : Nat}, (∀ i, i < k -> f i = 0) -> sm k f = 0
 | 0, _ => rfl
 | k + 1, h => by unfold sm; rw [sm_zero fun i hi => h i (by omega), h k (by omega)]; rfl
theorem sm_one {t : Nat} : ∀ {k : Nat}, t < k -> (∀ i, i < k -> i ≠ t -> f i = 0) -> sm k f = f t
 | 0, h, _ => by omega
 | k + 1, h, h0 => by
  unfold sm
  by_cases e : t = k
  ·subst e
   rw [sm_zero fun i hi => h0 i (by omega) (by omega)]; omega
  ·rw [sm_one (t := t) (by omega) fun i hi => h0 i (by omega), h0 k (by omega) (by omega)]; omega
end
def en (m : List (List Int)) (i j : Nat) : Int := (m.getD i []).getD j 0
inductive Span (p : Int) (n : Nat) (m : List (List Int)) : (Nat -> Int) -> Prop
 | zero {f : Nat -> Int} : (∀ j, j < n -> Cg p (f j) 0) -> Span p n m f
 | add {f g : Nat -> Int} (i : Nat) (k : Int) : i < m.length -> Span p n m g -> (∀ j, j < n -> Cg p (f j) (g j + k * en m i j)) -> Span p n m f
section
variable {p : Int} {n : Nat} {m m' : List (List Int)} {f g : Nat -> Int}
theorem span_row {i : Nat} (h : i < m.length) : Span p n m (en m i) := .add i 1 h (.zero (f := fun _ => 0) fun _ _ => Cg.rf) fun _ _ => Cg.of (by omega)
theorem span_cg (h : Span p n m f) (hf : ∀ j, j < n -> Cg p (g j) (f j)) : Span p n m g := by
 cases h with
 | zero h => exact .zero fun j hj => (hf j hj).trans (h j hj)
 | add i k hi h hs => exact .add i k hi h fun j hj => (hf j hj).trans (hs j hj)
theorem span_add (h : Span p n m f) (hg : Span p n m g) : Span p n m (fun j => f j + g j) := by
 induction hg with
 | zero h0 => exact span_cg h fun j hj => (Cg.rf.add (h0 j hj)).trans (Cg.of (by omega))
 | add i k hi _ hs ih => exact .add i k hi ih fun j hj => (Cg.rf.add (hs j hj)).trans (Cg.of (by omega))
theorem span_mul (a : Int) (h : Span p n m f) : Span p n m (fun j => a * f j) := by
 induction h with
 | zero h0 => exact .zero fun j hj => (Cg.rf.mul (h0 j hj)).trans (Cg.of (by omega))
 | add i k hi _ hs ih => exact .add i (a * k) hi ih fun j hj => (Cg.rf.mul (hs j hj)).trans (Cg.of (by grind))
theorem span_le (h : ∀ i, i < m.length -> Span p n m' (en m i)) (hf : Span p n m f) : Span p n m' f := by
 induction hf with
 | zero h0 => exact .zero h0
 | add i k hi _ hs ih => exact span_cg (span_add ih (span_mul k (h i hi))) hs
structure RInv (c r : Nat) (m : List (List Int)) (pv : Nat -> Nat) : Prop where
 rl : r <= m.length
 lt : ∀ i, i < r -> pv i < c
 mono : ∀ i k, i < k -> k < r -> pv i < pv k
 low : ∀ i, i < r -> ∀ j, j < pv i -> en m i j = 0
 one : ∀ i, i < r -> en m i (pv i) = 1
 zero : ∀ i, i < r -> ∀ k, k ≠ i -> en m k (pv i) = 0
 tail : ∀ i, r <= i -> ∀ j, j < c -> en m i j = 0
theorem en_out {i j : Nat} (h : m.length <= i) : en m i j = 0 := by
 unfold en
 rw [List.getD_eq_getElem?_getD (l := m), List.getElem?_eq_none h]; rfl
theorem coords {pv : Nat -> Nat} (h : RInv n m.length m pv) (hs : Span p n m f) : ∀ j, j < n -> Cg p (f j) (sm m.length fun i => f (pv i) * en m i j) := by
 induction hs with
 | zero h0 =>
  intro j hj
  refine (h0 j hj).trans ?_
  refine Cg.symm ((sm_cg (g := fun _ => 0) fun i hi => ?_).trans (Cg.of (sm_zero fun _ _ => rfl)))
  exact ((h0 _ (h.lt i hi)).mul Cg.rf).trans (Cg.of (by omega))
 | @add f g t k ht _ hs ih =>
  intro j hj
  refine (hs j hj).trans (((ih j hj).add Cg.rf).trans ?_)
  have e : sm m.length (fun i => (g (pv i) + k * en m t (pv i)) * en m i j) = sm m.length (fun i => g (pv i) * en m i j) + k * en m t j := by
   rw [sm_eq (g := fun i => g (pv i) * en m i j + k * (en m t (pv i) * en m i j)) fun i _ => by grind, sm_add (f := fun i => g (pv i) * en m i j), sm_mul (f := fun i => en m t (pv i) * en m i j), sm_one (f := fun i => en m t (pv i) * en m i j) ht fun i hi hne => by rw [h.zero i hi t (Ne.symm hne)]; omega, h.one t ht, Int.one_mul]
  rw [← e]
  exact (sm_cg fun i hi => (hs _ (h.lt i hi)).mul Cg.rf).symm
theorem piv_mem {pv : Nat -> Nat} (h : RInv n m.length m pv) (hs : Span p n m f) {q : Nat} (hq : q < n) (h0 : ∀ j, j < q -> Cg p (f j) 0) (h1 : ¬ Cg p (f q) 0) : ∃ i, i < m.length ∧ pv i = q := by
 refine Classical.byContradiction fun hn => h1 ?_
 refine (coords h hs q hq).trans ((sm_cg (g := fun _ => 0) fun i hi => ?_).trans (Cg.of (sm_zero fun _ _ => rfl)))
 rcases Nat.lt_trichotomy (pv i) q with hlt | he | hgt
 ·exact ((h0 _ hlt).mul Cg.rf).trans (Cg.of (by omega))
 ·exact (hn ⟨i, hi, he⟩).elim
 ·exact Cg.of (by rw [h.low i hi q hgt]; omega)
theorem mono_le {u v : Nat -> Nat} {k l : Nat} (hu : ∀ i j, i < j -> j < k -> u i < u j) (hv : ∀ i j, i < j -> j < l -> v i < v j) (h1 : ∀ i, i < k -> ∃ t, t < l ∧ v t = u i) (h2 : ∀ i, i < l -> ∃ t, t < k ∧ u t = v i) :
  ∀ i, i < k -> i < l -> u i = v i := by
 intro i
 induction i using Nat.strongRecOn with
 | _ i ih =>
  intro hk hl
  obtain ⟨t, ht, e⟩ := h1 i hk
  obtain ⟨s, hs, e'⟩ := h2 i hl
  have a1 : v i <= u i := by
   rcases Nat.lt_trichotomy t i with hlt | he | hgt
   ·have := ih t hlt (by omega) ht
    have := hu t i hlt hk
    omega
   ·subst he; omega
   ·have := hv i t hgt ht; omega
  have a2 : u i <= v i := by
   rcases Nat.lt_trichotomy s i with hlt | he | hgt
   ·have := ih s hlt hs (by omega)
    have := hv s i hlt hl
    omega
   ·subst he; omega
   ·have := hu i s hgt hs; omega
  omega
theorem mono_len {u v : Nat -> Nat} {k l : Nat} (hu : ∀ i j, i < j -> j < k -> u i < u j) (hv : ∀ i j, i < j -> j < l -> v i < v j) (h1 : ∀ i, i < k -> ∃ t, t < l ∧ v t = u i) (h2 : ∀ i, i < l -> ∃ t, t < k ∧ u t = v i) : l <= k := by
 refine Nat.le_of_not_lt fun hlt => ?_
 obtain ⟨t, ht, e⟩ := h2 k hlt
 have := mono_le hu hv h1 h2 t ht (by omega)
 have := hv t k ht hlt
 omega
theorem one_ne (hp : 2 <= p) : ¬ Cg p 1 0 := fun h => by
 have := h.eq ⟨by omega, by omega⟩ ⟨by omega, by omega⟩
 omega
theorem en_in {i j : Nat} (hp : 2 <= p) (hm : MatW p n m) : 0 <= en m i j ∧ en m i j < p := by
 unfold en
 by_cases h : i < m.length
 ·have hx := hm _ (getD_mem h)
  generalize m.getD i [] = x at hx
  by_cases hj : j < x.length
  ·rw [getD_of (List.getElem?_eq_getElem hj)]; exact hx.2 _ (List.getElem_mem hj)
  ·rw [List.getD_eq_getElem?_getD, List.getElem?_eq_none (by omega)]; exact ⟨by simp, by simp; omega⟩
 ·rw [List.getD_eq_getElem?_getD (l := m), List.getElem?_eq_none (by omega)]; simp; omega
theorem mat_ext (hm : MatW p n m) (hm' : MatW p n m') (hl : m.length = m'.length) (h : ∀ i, i < m.length -> ∀ j, j < n -> en m i j = en m' i j) : m = m' := by
 refine List.ext_getElem hl fun i h1 h2 => ?_
 have e1 := hm _ (List.getElem_mem h1)
 have e2 := hm' _ (List.getElem_mem h2)
 refine List.ext_getElem (e1.1.trans e2.1.symm) fun j k1 k2 => ?_
 have := h i h1 j (by have := e1.1; omega)
 unfold en at this
 rw [getD_of (List.getElem?_eq_getElem h1), getD_of (List.getElem?_eq_getElem h2), getD_of (List.getElem?_eq_getElem k1), getD_of (List.getElem?_eq_getElem k2)] at this
 exact this
theorem rref_uniq {pv pv' : Nat -> Nat} (hp : 2 <= p) (h : RInv n m.length m pv) (h' : RInv n m'.length m' pv') (hm : MatW p n m) (hm' : MatW p n m') (h1 : ∀ f, Span p n m f -> Span p n m' f) (h2 : ∀ f, Span p n m' f -> Span p n m f) : m = m' := by
 have k1 : ∀ i, i < m.length -> ∃ t, t < m'.length ∧ pv' t = pv i := fun i hi =>
  piv_mem h' (h1 _ (span_row hi)) (h.lt i hi) (fun j hj => Cg.of (h.low i hi j hj)) (by rw [h.one i hi]; exact one_ne hp)
 have k2 : ∀ i, i < m'.length -> ∃ t, t < m.length ∧ pv t = pv' i := fun i hi =>
  piv_mem h (h2 _ (span_row hi)) (h'.lt i hi) (fun j hj => Cg.of (h'.low i hi j hj)) (by rw [h'.one i hi]; exact one_ne hp)
 have hl : m.length = m'.length := Nat.le_antisymm (mono_len h'.mono h.mono k2 k1) (mono_len h.mono h'.mono k1 k2)
 have hpv := mono_le h.mono h'.mono k1 k2
 refine mat_ext hm hm' hl fun i hi j hj => ?_
 refine Cg.eq (Cg.symm ((coords h (h2 _ (span_row (i := i) (by omega))) j hj).trans (Cg.of ?_))) (en_in hp hm) (en_in hp hm')
 rw [sm_one hi fun t ht hne => ?_, hpv i hi (by omega), h'.one i (by omega)]
 ·omega
 ·rw [hpv t ht (by omega), h'.zero t (by omega) i (Ne.symm hne)]; omega
theorem en_swp {r k i j : Nat} (hr : r < m.length) (hk : k < m.length) : en (swpV m r k) i j = if i = k then en m r j else if i = r then en m k j else en m i j := by
 unfold en swpV
 by_cases h1 : i = k
 ·subst h1
  rw [if_pos rfl, List.getD_eq_getElem?_getD (l := List.set _ _ _), List.getElem?_set_self (by rw [List.length_set]; exact hk)]; rfl
 ·rw [if_neg h1, List.getD_eq_getElem?_getD (l := List.set _ _ _), List.getElem?_set_ne (Ne.symm h1)]
  by_cases h2 : i = r
  ·subst h2
   rw [if_pos rfl, List.getElem?_set_self hr]; rfl
  ·rw [if_neg h2, List.getElem?_set_ne (Ne.symm h2), ← List.getD_eq_getElem?_getD]
theorem rmul_getD {k : Int} {x : List Int} {j : Nat} : (rmulV p k x).getD j 0 = x.getD j 0 * k % p := by
 unfold rmulV
 rw [List.getD_eq_getElem?_getD, List.getElem?_map, List.getD_eq_getElem?_getD]
 cases x[j]? with
 | none => simp
 | some a => rfl
theorem rsub_getD {k : Int} {x v : List Int} {j : Nat} (h : x.length = v.length) : (rsubV p k x v).getD j 0 = (x.getD j 0 - k * v.getD j 0) % p := by
 unfold rsubV
 rw [List.getD_eq_getElem?_getD, List.getElem?_zipWith, List.getD_eq_getElem?_getD, List.getD_eq_getElem?_getD]
 by_cases hj : j < x.length
 ·rw [List.getElem?_eq_getElem hj, List.getElem?_eq_getElem (show j < v.length by omega)]; rfl
 ·rw [List.getElem?_eq_none (show x.length <= j by omega), List.getElem?_eq_none (show v.length <= j by omega)]; simp
theorem en_elm {c r i j : Nat} {pr : List Int} (hm : MatW p n m) (hpr : pr.length = n) (hi : i < m.length) : en (elmV p c r pr m) i j = if i = r then pr.getD j 0 else (en m i j - en m i c * pr.getD j 0) % p := by
 have hx := hm _ (List.getElem_mem hi)
 unfold en elmV
 rw [List.getD_eq_getElem?_getD (l := List.mapIdx _ _), List.getElem?_mapIdx, List.getElem?_eq_getElem hi, getD_of (List.getElem?_eq_getElem hi)]
 show (if i = r then pr else rsubV p (m[i].getD c 0) m[i] pr).getD j 0 = _
 split
 ·rfl
 ·rw [rsub_getD (by rw [hx.1, hpr])]
def InvOK (p : Int) : Prop := ∀ a, 1 <= a -> a < p -> a * invV p a % p = 1
theorem gjS_inv {c : Nat} {s : Nat × List (List Int)} {pv : Nat -> Nat} (hp : 2 <= p) (hI : InvOK p) (hm : MatW p n s.2) (h : RInv c s.1 s.2 pv) :
  (∃ pv', RInv (c + 1) (gjS p c s).1 (gjS p c s).2 pv') ∧ (∀ f, Span p n (gjS p c s).2 f ↔ Span p n s.2 f) := by
 obtain ⟨r, m⟩ := s
 dsimp only at hm h
 unfold gjS
 dsimp only
 by_cases h1 : r < m.length
 ·rw [if_pos h1]
  by_cases h2 : pivV m c r = m.length
  ·rw [if_pos h2]
   refine ⟨⟨pv, h.rl, fun i hi => Nat.lt_succ_of_lt (h.lt i hi), h.mono, h.low, h.one, h.zero, fun i hi j hj => ?_⟩, fun f => Iff.rfl⟩
   dsimp only at hi ⊢
   by_cases hjc : j < c
   ·exact h.tail i hi j hjc
   ·obtain rfl : j = c := by omega
    by_cases hil : i < m.length
    ·exact piv_zero hi (by omega) h.rl
    ·exact en_out (by omega)
  ·rw [if_neg h2]
   have hk1 := piv_le (c := c) h.rl
   have hk2 := piv_ge m c r
   have hnz := piv_nz h2 h.rl
   have hkl : pivV m c r < m.length := by omega
   have hx := hm _ (getD_mem hkl)
   have ha : en m (pivV m c r) c ≠ 0 := hnz
   generalize hk : pivV m c r = k at *
   have hab := en_in (i := k) (j := c) hp hm
   have hinv := hI (en m k c) (by omega) hab.2
   generalize hv : invV p (en m k c) = v at hinv
   have hpr : ∀ j, (prV p c (m.getD k [])).getD j 0 = en m k j * v % p := fun j => by
    unfold prV
    rw [rmul_getD]
    show _ * invV p (en m k c) % p = _
    rw [hv]; rfl
   have hprl : (prV p c (m.getD k [])).length = n := (vec_rmul hp hx.1).1
   generalize prV p c (m.getD k []) = pr at *
   have hW := mat_swp hm h1 hkl
   have hWl := swp_len m r k
   have hWe : ∀ i j, en (swpV m r k) i j = if i = k then en m r j else if i = r then en m k j else en m i j := fun i j => en_swp h1 hkl
   generalize swpV m r k = W at *
   have hE : ∀ i j, i < m.length -> en (elmV p c r pr W) i j = if i = r then en m k j * v % p else (en W i j - en W i c * (en m k j * v % p)) % p := fun i j hi => by
    rw [en_elm hW hprl (by omega), hpr]
   have hEl := elm_len p c r pr W
   have h0 : ∀ i j, i < m.length -> i ≠ r -> en m k j = 0 -> en (elmV p c r pr W) i j = en W i j := fun i j hi hne h0 => by
    have hb := en_in (i := i) (j := j) hp hW
    rw [hE i j hi, if_neg hne, h0, Int.zero_mul, Int.zero_emod, Int.mul_zero, Int.sub_zero, Int.emod_eq_of_lt hb.1 hb.2]
   have hkj : ∀ j, j < c -> en m k j = 0 := fun j hj => h.tail k (by omega) j hj
   have hkp : ∀ i, i < r -> en m k (pv i) = 0 := fun i hi => h.zero i hi k (by omega)
   have hcc : en m k c * v % p = 1 := hinv
   have hsp : ∀ i j, i < m.length -> i ≠ r -> Cg p (en (elmV p c r pr W) i j) (en W i j + -en W i c * en (elmV p c r pr W) r j) := fun i j hi hne => by
    rw [hE i j hi, if_neg hne, hE r j h1, if_pos rfl]
    exact Cg.md.trans (Cg.of (by grind))
   have hWr : ∀ j, Cg p (en W r j) (en m k c * en (elmV p c r pr W) r j) := fun j => by
    have e : en W r j = en m k j := by
     rw [hWe]
     by_cases e : r = k
     ·rw [if_pos e, e]
     ·rw [if_neg e, if_pos rfl]
    rw [e, hE r j h1, if_pos rfl]
    obtain ⟨q, hq⟩ := Cg.fr (p := p) (a := en m k c * v) (b := 1) (by rw [hcc]; exact (Int.emod_eq_of_lt (by omega) (by omega)).symm)
    refine Cg.trans ⟨-q * en m k j, ?_⟩ (Cg.rf.mul Cg.md.symm)
    grind
   refine ⟨⟨fun i => if i = r then c else pv i, ?_, ?_, ?_, ?_, ?_, ?_, ?_⟩, fun f => ⟨span_le fun i hi => ?_, span_le fun i hi => ?_⟩⟩
   ·show r + 1 <= (elmV p c r pr W).length
    omega
   ·intro i hi
    try dsimp only
    split
    ·omega
    ·have := h.lt i (by omega); omega
   ·intro i l hil hl
    try dsimp only
    rw [if_neg (by omega : i ≠ r)]
    split
    ·exact h.lt i (by omega)
    ·exact h.mono i l hil (by omega)
   ·intro i hi j hj
    dsimp only at hj ⊢
    by_cases e : i = r
    ·subst e
     rw [if_pos rfl] at hj
     rw [hE i j h1, if_pos rfl, hkj j hj, Int.zero_mul, Int.zero_emod]
    ·rw [if_neg e] at hj
     have := h.lt i (by omega)
     rw [h0 i j (by omega) e (hkj j (by omega)), hWe, if_neg (by omega), if_neg e]
     exact h.low i (by omega) j hj
   ·intro i hi
    dsimp only
    by_cases e : i = r
    ·subst e
     rw [if_pos rfl, hE i c h1, if_pos rfl, hcc]
    ·rw [if_neg e, h0 i (pv i) (by omega) e (hkp i (by omega)), hWe, if_neg (by omega), if_neg e]
     exact h.one i (by omega)
   ·intro i hi l hl
    dsimp only
    by_cases hll : l < m.length
    ·by_cases e : i = r
     ·subst e
      rw [if_pos rfl, hE l c hll, if_neg hl, hcc, Int.mul_one, Int.sub_self, Int.zero_emod]
     ·rw [if_neg e]
      by_cases e2 : l = r
      ·subst e2
       rw [hE l (pv i) hll, if_pos rfl, hkp i (by omega), Int.zero_mul, Int.zero_emod]
      ·rw [h0 l (pv i) hll e2 (hkp i (by omega)), hWe]
       by_cases e3 : l = k
       ·rw [if_pos e3]; exact h.zero i (by omega) r (by omega)
       ·rw [if_neg e3, if_neg e2]; exact h.zero i (by omega) l hl
    ·exact en_out (by omega)
   ·intro i hi j hj
    dsimp only at hi ⊢
    by_cases hil : i < m.length
    ·by_cases e : j = c
     ·subst e
      rw [hE i j hil, if_neg (by omega), hcc, Int.mul_one, Int.sub_self, Int.zero_emod]
     ·rw [h0 i j hil (by omega) (hkj j (by omega)), hWe]
      by_cases e3 : i = k
      ·rw [if_pos e3]; exact h.tail r (Nat.le_refl r) j (by omega)
      ·rw [if_neg e3, if_neg (by omega)]; exact h.tail i (by omega) j (by omega)
    ·exact en_out (by omega)
   ·have hi : i < m.length := by dsimp only at hi; omega
    have hrow : ∀ t, t < m.length -> Span p n m (en W t) := fun t ht => by
     by_cases e1 : t = k
     ·exact span_cg (span_row h1) fun j hj => Cg.of (by rw [hWe, if_pos e1])
     ·by_cases e2 : t = r
      ·exact span_cg (span_row hkl) fun j hj => Cg.of (by rw [hWe, if_neg e1, if_pos e2])
      ·exact span_cg (span_row ht) fun j hj => Cg.of (by rw [hWe, if_neg e1, if_neg e2])
    have hr' : Span p n m (en (elmV p c r pr W) r) := span_cg (span_mul v (span_row hkl)) fun j hj => by
     rw [hE r j h1, if_pos rfl]
     exact Cg.md.trans (Cg.of (by grind))
    by_cases e : i = r
    ·subst e; exact hr'
    ·exact span_cg (span_add (hrow i hi) (span_mul (-en W i c) hr')) fun j hj => hsp i j hi e
   ·have hE' : ∀ t, t < m.length -> Span p n (elmV p c r pr W) (en W t) := fun t ht => by
     by_cases e : t = r
     ·subst e
      exact span_cg (span_mul (en m k c) (span_row (i := t) (by omega))) fun j hj => hWr j
     ·refine span_cg (span_add (span_row (i := t) (by omega)) (span_mul (en W t c) (span_row (i := r) (by omega)))) fun j hj => ?_
      exact Cg.symm (((hsp t j ht e).add Cg.rf).trans (Cg.of (by grind)))
    by_cases e1 : i = r
    ·subst e1
     exact span_cg (hE' k hkl) fun j hj => Cg.of (by rw [hWe, if_pos rfl])
    ·by_cases e2 : i = k
     ·subst e2
      exact span_cg (hE' r h1) fun j hj => Cg.of (by rw [hWe, if_neg (by omega), if_pos rfl])
     ·exact span_cg (hE' i hi) fun j hj => Cg.of (by rw [hWe, if_neg e2, if_neg e1])
 ·rw [if_neg h1]
  have := h.rl
  refine ⟨⟨pv, h.rl, fun i hi => Nat.lt_succ_of_lt (h.lt i hi), h.mono, h.low, h.one, h.zero, fun i hi j hj => en_out (m := m) (by dsimp only at hi; omega)⟩, fun f => Iff.rfl⟩
theorem gjT_inv {m : List (List Int)} (hp : 2 <= p) (hI : InvOK p) (hm : MatW p n m) : ∀ c, (∃ pv, RInv c (gjT p m c).1 (gjT p m c).2 pv) ∧ ∀ f, Span p n (gjT p m c).2 f ↔ Span p n m f
 | 0 => ⟨⟨fun _ => 0, Nat.zero_le _, by intro i hi; simp [gjT] at hi, by intro i k _ hk; simp [gjT] at hk, by intro i hi; simp [gjT] at hi, by intro i hi; simp [gjT] at hi, by intro i hi; simp [gjT] at hi, fun _ _ j hj => by omega⟩, fun _ => Iff.rfl⟩
 | c + 1 => by
  obtain ⟨⟨pv, h1⟩, h2⟩ := gjT_inv hp hI hm c
  obtain ⟨h3, h4⟩ := gjS_inv hp hI (gjT_ok hp hm c).1 h1
  exact ⟨h3, fun f => (h4 f).trans (h2 f)⟩
theorem en_take {r i j : Nat} (h : i < r) : en (m.take r) i j = en m i j := by
 unfold en
 rw [List.getD_eq_getElem?_getD (l := m.take r), List.getElem?_take, if_pos h, ← List.getD_eq_getElem?_getD]
theorem span_cut {k : Nat} (hk : k <= n) (h : Span p n m f) : Span p k m f := by
 induction h with
 | zero h0 => exact .zero fun j hj => h0 j (by omega)
 | add i k hi _ hs ih => exact .add i k hi ih fun j hj => hs j (by omega)
theorem gj_rref_ {c : Nat} (hp : 2 <= p) (hI : InvOK p) (hm : MatW p n m) (hc : c <= n) : (∃ pv, RInv c (gj p c m).length (gj p c m) pv) ∧ ∀ f, Span p c (gj p c m) f ↔ Span p c m f := by
 obtain ⟨⟨pv, h⟩, h2⟩ := gjT_inv hp hI hm c
 have hl := gj_len (n := c) hp hm
 have hrl := h.rl
 refine ⟨⟨pv, Nat.le_refl _, ?_, ?_, ?_, ?_, ?_, ?_⟩, fun f => Iff.trans (b := Span p c (gjT p m c).2 f) ⟨span_le fun i hi => ?_, span_le fun i hi => ?_⟩ ⟨span_le fun i hi => span_cut hc ((h2 _).1 (span_row hi)), span_le fun i hi => span_cut hc ((h2 _).2 (span_row hi))⟩⟩
 ·rw [hl]; exact h.lt
 ·rw [hl]; exact h.mono
 ·rw [hl]; intro i hi j hj; unfold gj; rw [en_take hi]; exact h.low i hi j hj
 ·rw [hl]; intro i hi; unfold gj; rw [en_take hi]; exact h.one i hi
 ·rw [hl]; intro i hi k hk
  by_cases hkl : k < (gjT p m c).1
  ·unfold gj; rw [en_take hkl]; exact h.zero i hi k hk
  ·exact en_out (by omega)
 ·intro i hi j _; exact en_out hi
 ·rw [hl] at hi
  exact span_cg (span_row (i := i) (by omega)) fun j hj => Cg.of (by unfold gj; rw [en_take hi])
 ·by_cases hir : i < (gjT p m c).1
  ·exact span_cg (span_row (i := i) (by omega)) fun j hj => Cg.of (by unfold gj; rw [en_take hir])
  ·exact .zero fun j hj => Cg.of (h.tail i (by omega) j hj)
theorem gj_rref (hp : 2 <= p) (hI : InvOK p) (hm : MatW p n m) : (∃ pv, RInv n (gj p n m).length (gj p n m) pv) ∧ ∀ f, Span p n (gj p n m) f ↔ Span p n m f := gj_rref_ hp hI hm (Nat.le_refl n)
theorem gj_uniq {pv : Nat -> Nat} (hp : 2 <= p) (hI : InvOK p) (hm : MatW p n m) (hm' : MatW p n m') (h : RInv n m'.length m' pv) (hs : ∀ f, Span p n m f ↔ Span p n m' f) : gj p n m = m' := by
 obtain ⟨⟨pv', h1⟩, h2⟩ := gj_rref hp hI hm
 exact rref_uniq hp h1 h (gj_mat hp hm) hm' (fun f hf => (hs f).1 ((h2 f).1 hf)) fun f hf => (h2 f).2 ((hs f).2 hf)
end
end Go.Proofs.YtedphkkbjpcjeaaDoor
namespace Go.Proofs.YtedphkkbjpcjeaaDoor
def leadV (x : List Int) : Nat := x.findIdx fun a => a != 0
section
variable {p : Int} {n : Nat} {m m' B : List (List Int)} {o : List Int}
theorem lead_row {c r i : Nat} {pv : Nat -> Nat} (h : RInv c r m pv) (hm : MatW p n m) (hc : c <= n) (hi : i < r) : leadV (m.getD i []) = pv i := by
 have hl := h.rl
 have hx := (hm _ (getD_mem (show i < m.length by omega))).1
 have hlt := h.lt i hi
 have e : ∀ (j : Nat) (hj : j < (m.getD i []).length), (m.getD i [])[j] = en m i j := fun j hj => (getD_of (List.getElem?_eq_getElem hj)).symm
 unfold leadV
 refine (List.findIdx_eq (show pv i < (m.getD i []).length by omega)).2 ⟨?_, fun j hj => ?_⟩
 ·rw [e, h.one i hi]; rfl
 ·rw [e, h.low i hi j hj]; rfl
theorem mono_id {u : Nat -> Nat} {k : Nat} (h : ∀ i j, i < j -> j < k -> u i < u j) (hl : ∀ i, i < k -> u i < k) : ∀ i, i < k -> u i = i := by
 have h1 : ∀ i, i < k -> i <= u i := by
  intro i
  induction i with
  | zero => intro _; omega
  | succ i ih => intro hi; have := ih (by omega); have := h i (i + 1) (by omega) hi; omega
 have h2 : ∀ d i, i + d < k -> u i + d <= u (i + d) := by
  intro d
  induction d with
  | zero => intro i _; exact Nat.le_refl _
  | succ d ih => intro i hi; have := ih i (by omega); have := h (i + d) (i + (d + 1)) (by omega) hi; omega
 intro i hi
 have a := h1 i hi
 have b := h2 (k - 1 - i) i (by omega)
 have c := hl (i + (k - 1 - i)) (by omega)
 omega
structure OrdV (n : Nat) (o : List Int) : Prop where
 nd : o.Nodup
 mem : ∀ q, q ∈ o ↔ 0 <= q ∧ q < (n : Int)
theorem OrdV.len (h : OrdV n o) : o.length = n := by
 have h1 : ((List.range n).map Int.ofNat).Nodup := by
  rw [List.Nodup, List.pairwise_map]
  exact List.Pairwise.imp (fun hne e => hne (Int.ofNat.inj e)) (List.nodup_range (n := n))
 have h2 : o.Perm ((List.range n).map Int.ofNat) := by
  rw [List.perm_ext_iff_of_nodup h.nd h1]
  intro a
  rw [h.mem, List.mem_map]
  constructor
  ·intro ha
   exact ⟨a.toNat, List.mem_range.2 (by omega), by show ((a.toNat : Nat) : Int) = a; omega⟩
  ·rintro ⟨b, hb, rfl⟩
   have := List.mem_range.1 hb
   show 0 <= (b : Int) ∧ (b : Int) < n
   omega
 have := h2.length_eq
 simpa using this
def ordN (o : List Int) (j : Nat) : Nat := (o.getD j 0).toNat
def invN (o : List Int) (q : Nat) : Nat := o.idxOf (q : Int)
theorem OrdV.at (h : OrdV n o) {j : Nat} (hj : j < n) : ∃ hj' : j < o.length, o[j] = ((ordN o j : Nat) : Int) ∧ ordN o j < n := by
 have hl := h.len
 refine ⟨by omega, ?_⟩
 have h1 := (h.mem (o[j]'(by omega))).1 (List.getElem_mem _)
 have e : ordN o j = (o[j]'(by omega)).toNat := congrArg Int.toNat (getD_of (List.getElem?_eq_getElem (by omega)))
 omega
theorem OrdV.inv (h : OrdV n o) {q : Nat} (hq : q < n) : invN o q < n ∧ ordN o (invN o q) = q := by
 have hl := h.len
 have h1 : invN o q < o.length := List.idxOf_lt_length_of_mem ((h.mem _).2 (by omega))
 refine ⟨by omega, ?_⟩
 have h2 : o[invN o q] = (q : Int) := List.getElem_idxOf h1
 obtain ⟨_, h3, _⟩ := h.at (show invN o q < n by omega)
 omega
theorem OrdV.ni (h : OrdV n o) {j : Nat} (hj : j < n) : invN o (ordN o j) = j := by
 obtain ⟨h1, h2, _⟩ := h.at hj
 unfold invN
 rw [← h2]
 exact h.nd.idxOf_getElem j h1
def colsV (o : List Int) (b : List Int) : List Int := o.map fun q => b.getD q.toNat 0
theorem cols_vec {b : List Int} (hp : 2 <= p) (hb : VecW p n b) : VecW p o.length (colsV o b) := by
 refine ⟨List.length_map .., fun a ha => ?_⟩
 obtain ⟨q, _, rfl⟩ := List.mem_map.1 ha
 by_cases h : q.toNat < b.length
 ·rw [getD_of (List.getElem?_eq_getElem h)]; exact hb.2 _ (List.getElem_mem h)
 ·rw [List.getD_eq_getElem?_getD, List.getElem?_eq_none (by omega)]; simp; omega
theorem cols_mat (hp : 2 <= p) (hB : MatW p n B) : MatW p o.length (B.map (colsV o)) := fun x hx => by
 obtain ⟨b, hb, rfl⟩ := List.mem_map.1 hx
 exact cols_vec hp (hB b hb)
theorem en_cols {i j : Nat} (hi : i < B.length) (hj : j < o.length) : en (B.map (colsV o)) i j = en B i (ordN o j) := by
 unfold en
 rw [getD_of (m := B.map (colsV o)) (x := colsV o (B.getD i [])) (by rw [List.getElem?_map, List.getElem?_eq_getElem hi, getD_of (List.getElem?_eq_getElem hi)]; rfl)]
 exact getD_of (by unfold colsV; rw [List.getElem?_map, List.getElem?_eq_getElem hj]; simp only [ordN, getD_of (List.getElem?_eq_getElem hj)]; rfl)
theorem span_cols {n' : Nat} {f : Nat -> Int} {σ : Nat -> Nat} (hl : m'.length = m.length) (hσ : ∀ j, j < n' -> σ j < n) (he : ∀ i, i < m.length -> ∀ j, j < n' -> en m' i j = en m i (σ j)) (h : Span p n m f) : Span p n' m' (fun j => f (σ j)) := by
 induction h with
 | zero h0 => exact .zero fun j hj => h0 _ (hσ j hj)
 | add i k hi _ hs ih => exact .add i k (by omega) ih fun j hj => (hs _ (hσ j hj)).trans (Cg.of (by rw [he i hi j hj]))
theorem perm_rank (hp : 2 <= p) (hI : InvOK p) (hB : MatW p n B) (hr : gj p n B = B) (O : OrdV n o) : (gj p n (B.map (colsV o))).length = B.length := by
 have hl := O.len
 have hW : MatW p n (B.map (colsV o)) := by have := cols_mat (o := o) hp hB; rwa [hl] at this
 have hle : (gj p n (B.map (colsV o))).length <= B.length := by
  have := gjT_ok hp hW n
  rw [gj_len hp hW]
  have h2 := this.2.1
  rw [this.2.2, List.length_map] at h2
  exact h2
 refine Nat.le_antisymm hle ?_
 obtain ⟨_, hs⟩ := gj_rref hp hI hW
 have hR := gj_mat (n := n) hp hW
 obtain ⟨⟨pv, hpv⟩, _⟩ := gj_rref hp hI hB
 rw [hr] at hpv
 generalize hRe : gj p n (B.map (colsV o)) = R at *
 -- the columns of R put back
 have e2 : ∀ i, i < (R.map (colsV ((List.range n).map fun q => ((invN o q : Nat) : Int)))).length -> ∀ j, j < n -> en (R.map (colsV ((List.range n).map fun q => ((invN o q : Nat) : Int)))) i j = en R i (invN o j) := fun i hi j hj => by
  rw [en_cols (by simpa using hi) (by simpa using hj)]
  congr 1
  unfold ordN
  rw [getD_of (x := ((invN o j : Nat) : Int)) (by simp [hj])]
  rfl
 have hm2 : MatW p n (R.map (colsV ((List.range n).map fun q => ((invN o q : Nat) : Int)))) := by
  have := cols_mat (o := (List.range n).map fun q => ((invN o q : Nat) : Int)) hp hR
  simpa using this
 have hl2 : (R.map (colsV ((List.range n).map fun q => ((invN o q : Nat) : Int)))).length = R.length := List.length_map ..
 generalize R.map (colsV ((List.range n).map fun q => ((invN o q : Nat) : Int))) = B' at *
 have key : gj p n B' = B := by
  refine gj_uniq hp hI hm2 hB hpv fun f => ⟨fun hf => ?_, fun hf => ?_⟩
  ·have h1 : Span p n R (fun j => f (ordN o j)) := span_cols hl2.symm (fun j hj => (O.at hj).2.2) (fun i hi j hj => by
    rw [e2 i hi _ (O.at hj).2.2, O.ni hj]) hf
   have h2 := (hs _).1 h1
   have h3 : Span p n B (fun q => f (ordN o (invN o q))) := span_cols (σ := invN o) (List.length_map ..).symm (fun q hq => (O.inv hq).1) (fun i hi q hq => by
    rw [en_cols (by simpa using hi) (by have := (O.inv hq).1; omega), (O.inv hq).2]) h2
   exact span_cg h3 fun q hq => Cg.of (by rw [(O.inv hq).2])
  ·have h1 : Span p n (B.map (colsV o)) (fun j => f (ordN o j)) := span_cols (List.length_map ..) (fun j hj => (O.at hj).2.2) (fun i hi j hj => by
    rw [en_cols hi (by omega)]) hf
   have h2 := (hs _).2 h1
   have h3 : Span p n B' (fun q => f (ordN o (invN o q))) := span_cols (σ := invN o) hl2 (fun q hq => (O.inv hq).1) (fun i hi q hq => by
    rw [e2 i (by omega) q hq]) h2
   exact span_cg h3 fun q hq => Cg.of (by rw [(O.inv hq).2])
 have h1 := (gjT_ok hp hm2 n).2
 have h2 := gj_len (n := n) hp hm2
 rw [key] at h2
 omega
theorem solve_iff {W : List (List Int)} (hp : 2 <= p) (hI : InvOK p) (hW : MatW p n W) (hk : W.length <= n) (hr : (gj p n W).length = W.length) :
  ((∀ i, i < W.length -> leadV ((gj p n W).getD i []) = i) ↔ (gjT p W W.length).1 = W.length) ∧ ((gjT p W W.length).1 = W.length -> gj p n W = (gjT p W W.length).2) := by
 have hA : (gjT p W W.length).1 = W.length -> gjT p W n = gjT p W W.length := fun h => by
  have h3 := (gjT_ok hp hW W.length).2.2
  exact gjT_stop (by omega) n hk
 have hA' : (gjT p W W.length).1 = W.length -> gj p n W = (gjT p W W.length).2 := fun h => by
  have h3 := (gjT_ok hp hW W.length).2.2
  unfold gj
  rw [hA h, h]
  exact List.take_of_length_le (Nat.le_of_eq h3)
 refine ⟨⟨fun h => ?_, fun h i hi => ?_⟩, hA'⟩
 ·obtain ⟨⟨pv', h1⟩, h1s⟩ := gj_rref hp hI hW
  obtain ⟨⟨pv, h2⟩, h2s⟩ := gj_rref_ hp hI hW hk
  have hlk := gj_len (n := W.length) hp hW
  have hle := gjT_ok hp hW W.length
  have key : ∀ i, i < W.length -> ∃ t, t < (gj p W.length W).length ∧ pv t = i := fun i hi => by
   have hpi : pv' i = i := by rw [← lead_row h1 (gj_mat hp hW) (Nat.le_refl n) (by omega)]; exact h i hi
   have h3 : Span p W.length (gj p W.length W) (en (gj p n W) i) := (h2s _).2 (span_cut hk ((h1s _).1 (span_row (by omega))))
   refine piv_mem h2 h3 hi (fun j hj => Cg.of (h1.low i (by omega) j (by omega))) ?_
   have := h1.one i (by omega)
   rw [hpi] at this
   rw [this]
   exact one_ne hp
  have := mono_len h2.mono (v := id) (l := W.length) (fun i j hij _ => hij) (fun i hi => ⟨pv i, h2.lt i hi, rfl⟩) key
  omega
 ·obtain ⟨⟨pv, h2⟩, _⟩ := gjT_inv hp hI hW W.length
  rw [hA' h]
  have hm2 := (gjT_ok hp hW W.length).1
  rw [h] at h2
  rw [lead_row h2 hm2 hk hi]
  exact mono_id h2.mono h2.lt i hi
end
end Go.Proofs.YtedphkkbjpcjeaaDoor
namespace Go.Proofs.YtedphkkbjpcjeaaDoor
theorem invOK {p : Int} (hp : isF p = true) : InvOK p := fun _ h1 h2 => (P_invV hp ⟨h1, h2⟩).2.2.2.2
def upV (n : Nat) : List Int := (List.range n).map fun k : Nat => (k : Int)
def restV (n : Nat) (ports : List Int) : List Int := (upV n).filter fun q => !ports.any fun x => x == q
theorem upV_succ (n : Nat) : upV (n + 1) = upV n ++ [(n : Int)] := by simp [upV, List.range_succ]
theorem P_upTo {n : Nat} (h : n <= 1000) : L_impl_upTo (n : Int) = some (upV n) := by
 unfold L_impl_upTo
 rw [P_zeros (by omega), Option.bind_some, Int.toNat_natCast]
 have h1 : loopM (fun s_ : Nat × List Int => L_impl_upTo_l1 (List.replicate n 0) s_.1 s_.2) 4611686018427387904 (0, List.replicate n 0) = some (upV n) := by
  have hl : (upV n).length = n := by simp [upV]
  refine vecloop (y := upV n) (by simp [upV]) (by simp; omega) (fun j hj z hz => ?_) ?_
  ·try dsimp only
   unfold L_impl_upTo_l1
   rw [dec_t (by omega), cond_true, hz, Option.bind_some, og_true (by simp at hj; omega)]
   simp [upV]
  ·try dsimp only
   unfold L_impl_upTo_l1
   rw [dec_f (by simp), cond_false]
 rw [h1, Option.bind_some]
theorem P_contains (xs : List Int) (n : Int) (hx : xs.length <= 1099511627776) : L_slices_Contains_int_int xs n = some (xs.any fun x => x == n) := by
 unfold L_slices_Contains_int_int L_slices_Index_int_int
 have hs : ∀ i x, xs[i]? = some x -> L_slices_Index_int_int_l1 xs n i = some (if x == n then Ctl.out (Ctl.out ((i : Nat) : Int)) else .next (i + 1)) := fun i x h => by
  have := getN_lt h
  unfold L_slices_Index_int_int_l1
  rw [dec_t (by omega), cond_true, h, Option.bind_some, og_true (by omega), show (n == x) = (x == n) from by rw [Bool.eq_iff_iff]; simp only [beq_iff_eq]; exact eq_comm]
  cases x == n <;> rfl
 have he : L_slices_Index_int_int_l1 xs n xs.length = some (.out (.next ())) := by
  unfold L_slices_Index_int_int_l1
  rw [dec_f (by omega), cond_false]
 rcases loopM_any xs (fun x => x == n) (Ctl.next ()) (fun i => Ctl.out ((i : Nat) : Int)) (F := 4611686018427387904) (by omega) hs he with ⟨h1, i, _, h2⟩ | ⟨h1, h2⟩
 ·rw [h2, h1]
  show (some ((i : Nat) : Int)).bind _ = _
  rw [Option.bind_some, dec_t (by omega)]
 ·rw [h2, h1]; rfl
theorem filter_snoc {α : Type} (q : α -> Bool) (xs : List α) (x : α) : (xs ++ [x]).filter q = if q x then xs.filter q ++ [x] else xs.filter q := by
 rw [List.filter_append]
 cases h : q x <;> simp [h]
theorem P_others (xs ports : List Int) (hx : xs.length <= 1000) (hp : ports.length <= 1099511627776) : L_impl_others xs ports = some (xs.filter fun q => !ports.any fun x => x == q) := by
 unfold L_impl_others
 have h : loopM (fun s_ : Nat × List Int => L_impl_others_l1 xs ports s_.1 s_.2) 4611686018427387904 (0, []) = some (xs.filter fun q => !ports.any fun x => x == q) := by
  refine loopM_det xs.length (fun i => (i, (xs.take i).filter fun q => !ports.any fun x => x == q)) (by omega) _ (by simp) (fun i hi => ?_) ?_
  ·have hx := List.getElem?_eq_getElem hi
   have hl : ((xs.take i).filter fun q => !ports.any fun x => x == q).length <= 1000 := Nat.le_trans (List.length_filter_le ..) (by rw [List.length_take]; omega)
   try dsimp only
   unfold L_impl_others_l1
   rw [dec_t (by omega), cond_true, hx, Option.bind_some, P_contains ports _ hp, Option.bind_some, List.take_add_one, hx, Option.toList, filter_snoc]
   cases ports.any fun x => x == xs[i]
   ·rw [Bool.not_false, cond_true, og_true (by omega), Option.bind_some, if_pos rfl, og_true (by omega)]
   ·rw [Bool.not_true, cond_false, Option.bind_some, if_neg (by decide), og_true (by omega)]
  ·try dsimp only
   unfold L_impl_others_l1
   rw [dec_f (by omega), cond_false, List.take_length]
 rw [h, Option.bind_some]
theorem P_riRest (n : Nat) (ports : List Int) (hn : n <= 1000) (hp : ports.length <= 1099511627776) : L_spec_riRest ports (n : Int) = some (restV n ports) := by
 unfold L_spec_riRest
 have h : loopM (fun s_ : Nat × List Int => L_spec_riRest_l1 (n : Int) ports s_.1 s_.2) 4611686018427387904 (0, []) = some (restV n ports) := by
  refine loopM_det n (fun i => (i, restV i ports)) (by omega) _ rfl (fun i hi => ?_) ?_
  ·have hl : (restV i ports).length <= i := Nat.le_trans (List.length_filter_le ..) (by simp [upV])
   try dsimp only
   unfold L_spec_riRest_l1
   rw [dec_t (by omega), cond_true, P_l1Has _ _ hp, Option.bind_some]
   have e : restV (i + 1) ports = if (!ports.any fun x => x == (i : Int)) then restV i ports ++ [(i : Int)] else restV i ports := by
    unfold restV
    rw [upV_succ, filter_snoc]
   rw [e]
   cases ports.any fun x => x == (i : Int)
   ·rw [Bool.not_false, cond_true, og_true (by omega), Option.bind_some, if_pos rfl, og_true (by omega)]
   ·rw [Bool.not_true, cond_false, Option.bind_some, if_neg (by decide), og_true (by omega)]
  ·try dsimp only
   unfold L_spec_riRest_l1
   rw [dec_f (by omega), cond_false]
 rw [h, Option.bind_some]
theorem P_spLead (x : List Int) (hx : x.length <= 1000) : L_spec_spLead x = some ((leadV x : Nat) : Int) := by
 unfold L_spec_spLead
 have hle : leadV x <= x.length := List.findIdx_le_length
 have h : loopM (fun s_ : Nat => L_spec_spLead_l1 x s_) 4611686018427387904 0 = some (leadV x) := by
  refine loopM_det (leadV x) (fun i => i) (by omega) _ rfl (fun i hi => ?_) ?_
  ·have h0 := List.not_of_lt_findIdx hi
   have h1 : x[i]'(by omega) = 0 := by simpa using h0
   try dsimp only
   unfold L_spec_spLead_l1
   rw [dec_t (by omega), cond_true, List.getElem?_eq_getElem (show i < x.length by omega), Option.bind_some, Option.bind_some, h1, show ((0 : Int) == 0) = true from rfl, cond_true, og_true (by omega)]
  ·unfold L_spec_spLead_l1
   by_cases h : leadV x = x.length
   ·rw [dec_f (by omega), cond_false, Option.bind_some, cond_false]
   ·have h0 := List.findIdx_getElem (w := show leadV x < x.length by omega)
    rw [dec_t (by omega), cond_true, List.getElem?_eq_getElem (show leadV x < x.length by omega), Option.bind_some, Option.bind_some, show ((x[leadV x]'(by omega)) == 0) = false from Bool.eq_false_iff.2 (fun e => bne_iff_ne.1 h0 (beq_iff_eq.1 e)), cond_false]
 rw [h, Option.bind_some]
def InO (n : Nat) (o : List Int) : Prop := ∀ q ∈ o, 0 <= q ∧ q < (n : Int)
section
variable {p : Int} {n : Nat} {B : List (List Int)} {ports : List Int}
theorem getI_vec {b : List Int} {q : Int} (hb : b.length = n) (hq : 0 <= q ∧ q < (n : Int)) : getI b q = some (b.getD q.toNat 0) := by
 rw [getI_nat hq.1, List.getElem?_eq_getElem (by omega), getD_of (List.getElem?_eq_getElem (by omega))]
theorem P_chosen {b o : List Int} (hb : b.length = n) (ho : InO n o) (hl : o.length <= 1000) : L_impl_chosen b o = some (colsV o b) := by
 unfold L_impl_chosen
 have h := loopM_app (body := fun s_ : Nat × List Int => L_impl_chosen_l1 o b s_.1 s_.2) o (fun q => b.getD q.toNat 0) [] (F := 4611686018427387904) (by omega) (colsV o b) (fun i x h => ?_) ?_
 ·rw [og_true (by omega), show List.replicate 0 (0 : Int) = [] from rfl, show loopM (fun s_ : Nat × List Int => L_impl_chosen_l1 o b s_.1 s_.2) 4611686018427387904 (0, []) = some (colsV o b) by simpa using h, Option.bind_some]
 ·have := getN_lt h
  try dsimp only
  unfold L_impl_chosen_l1
  rw [dec_t (by omega), cond_true, h, Option.bind_some, getI_vec hb (ho x (List.mem_of_getElem? h)), Option.bind_some, og_true (by simp; omega), og_true (by omega)]
 ·try dsimp only
  unfold L_impl_chosen_l1
  rw [dec_f (by omega), cond_false, List.nil_append]; rfl
theorem P_chosenAll {o : List Int} (hB : MatW p n B) (ho : InO n o) (hl : o.length <= 1000) (hb : B.length <= 1000) : L_impl_chosenAll B o = some (B.map (colsV o)) := by
 unfold L_impl_chosenAll
 have h := loopM_app (body := fun s_ : Nat × List (List Int) => L_impl_chosenAll_l1 B o s_.1 s_.2) B (colsV o) [] (F := 4611686018427387904) (by omega) (B.map (colsV o)) (fun i x h => ?_) ?_
 ·rw [show loopM (fun s_ : Nat × List (List Int) => L_impl_chosenAll_l1 B o s_.1 s_.2) 4611686018427387904 (0, []) = some (B.map (colsV o)) by simpa using h, Option.bind_some]
 ·have := getN_lt h
  try dsimp only
  unfold L_impl_chosenAll_l1
  rw [dec_t (by omega), cond_true, h, Option.bind_some, P_chosen (hB x (List.mem_of_getElem? h)).1 ho hl, Option.bind_some, og_true (by simp; omega), og_true (by omega)]
 ·try dsimp only
  unfold L_impl_chosenAll_l1
  rw [dec_f (by omega), cond_false, List.nil_append]
theorem cols_app {o1 o2 b : List Int} : colsV (o1 ++ o2) b = colsV o1 b ++ colsV o2 b := by simp [colsV]
structure PortV (n : Nat) (ports : List Int) : Prop where
 nd : ports.Nodup
 io : InO n ports
theorem rest_mem {q : Int} : q ∈ restV n ports ↔ (0 <= q ∧ q < (n : Int)) ∧ q ∉ ports := by
 unfold restV upV
 rw [List.mem_filter, List.mem_map]
 constructor
 ·rintro ⟨⟨k, hk, rfl⟩, h⟩
  have := List.mem_range.1 hk
  refine ⟨by omega, fun hm => ?_⟩
  rw [Bool.not_eq_true', List.any_eq_false] at h
  exact h _ hm (by simp)
 ·rintro ⟨h, hn⟩
  refine ⟨⟨q.toNat, List.mem_range.2 (by omega), by omega⟩, ?_⟩
  rw [Bool.not_eq_true', List.any_eq_false]
  intro x hx he
  exact hn (by rwa [← (beq_iff_eq.1 he)])
theorem ord_of (h : PortV n ports) : OrdV n (ports ++ restV n ports) := by
 refine ⟨?_, fun q => ?_⟩
 ·rw [List.nodup_append]
  refine ⟨h.nd, ?_, fun a ha b hb e => (rest_mem.1 hb).2 (e ▸ ha)⟩
  unfold restV upV
  refine List.Pairwise.filter _ ?_
  rw [List.pairwise_map]
  exact List.Pairwise.imp (fun hne e => hne (by omega)) (List.nodup_range (n := n))
 ·rw [List.mem_append, rest_mem]
  by_cases hq : q ∈ ports
  ·simp only [hq, true_or, true_iff]
   exact h.io q hq
  ·simp [hq]
def choV (p : Int) (n : Nat) (B : List (List Int)) (ports : List Int) : Bool × Nat × List (List Int) :=
 if ports.length = B.length ∧ (gjT p (B.map (colsV (ports ++ restV n ports))) B.length).1 = B.length then
  (true, n - ports.length, (gjT p (B.map (colsV (ports ++ restV n ports))) B.length).2.map (·.drop ports.length))
 else (false, 0, [])
theorem cho_shape (hp : 2 <= p) (hB : MatW p n B) (P : PortV n ports) : (choV p n B ports).2.2.length <= B.length ∧ ∀ x ∈ (choV p n B ports).2.2, x.length <= n := by
 have hl := (ord_of P).len
 have hW : MatW p n (B.map (colsV (ports ++ restV n ports))) := by have := cols_mat (o := ports ++ restV n ports) hp hB; rwa [hl] at this
 have h := gjT_ok hp hW B.length
 unfold choV
 split
 ·refine ⟨?_, fun x hx => ?_⟩
  ·have := h.2.2
   simp only [List.length_map] at this ⊢
   omega
  ·obtain ⟨y, hy, rfl⟩ := List.mem_map.1 hx
   have := (h.1 y hy).1
   rw [List.length_drop]; omega
 ·exact ⟨Nat.zero_le _, fun x hx => by cases hx⟩
theorem P_choImpl (hp : isF p = true) (hn : n <= 100) (hB : MatW p n B) (hb : B.length <= n) (P : PortV n ports) :
  L_impl_choiceFunction p B (n : Int) ports = some ((choV p n B ports).1, (choV p n B ports).2.2) := by
 have hb2 := isF_bd hp
 have O := ord_of P
 have hl := O.len
 have hpl : ports.length <= n := by rw [List.length_append] at hl; omega
 have hio : InO n (restV n ports) := fun q hq => (rest_mem.1 hq).1
 have hW : MatW p n (B.map (colsV (ports ++ restV n ports))) := by have := cols_mat (o := ports ++ restV n ports) hb2.1 hB; rwa [hl] at this
 unfold L_impl_choiceFunction choV
 by_cases hk : ports.length = B.length
 ·have e1 : B.map (colsV ports) = rdW ports.length (B.map (colsV (ports ++ restV n ports))) := by
   unfold rdW
   rw [List.map_map]
   refine List.map_congr_left fun b _ => ?_
   show _ = (colsV (ports ++ restV n ports) b).take ports.length
   rw [cols_app, List.take_left' (by simp [colsV])]
  have e2 : B.map (colsV (restV n ports)) = alW ports.length (B.map (colsV (ports ++ restV n ports))) := by
   unfold alW
   rw [List.map_map]
   refine List.map_congr_left fun b _ => ?_
   show _ = (colsV (ports ++ restV n ports) b).drop ports.length
   rw [cols_app, List.drop_left' (by simp [colsV])]
  have h := gjT_ok hb2.1 hW B.length
  have hrl : (restV n ports).length <= n := by rw [List.length_append] at hl; omega
  rw [show (((ports.length : Nat) : Int) != ((B.length : Nat) : Int)) = false by rw [hk]; exact bne_self_eq_false _, cond_false, P_chosenAll hB P.io (by omega) (by omega), Option.bind_some, P_upTo (by omega), Option.bind_some,
   P_others _ _ (by simp [upV]; omega) (by omega), Option.bind_some]
  rw [show (upV n).filter (fun q => !ports.any fun x => x == q) = restV n ports from rfl, P_chosenAll hB hio (by omega) (by omega), Option.bind_some, e1, e2, P_reduction hp hW (Nat.le_refl _) hpl (by omega) (by simp; omega), Option.bind_some]
  rw [hk]
  rw [og_true (show (rdW B.length (gjT p (B.map (colsV (ports ++ restV n ports))) B.length).2).length = (rdW B.length (B.map (colsV (ports ++ restV n ports)))).length by simp only [rdW, List.length_map, h.2.2]),
   og_true (show (alW B.length (gjT p (B.map (colsV (ports ++ restV n ports))) B.length).2).length = (alW B.length (B.map (colsV (ports ++ restV n ports)))).length by simp only [alW, List.length_map, h.2.2])]
  have h2 := h.2.1
  rw [h.2.2, List.length_map] at h2
  by_cases hr : (gjT p (B.map (colsV (ports ++ restV n ports))) B.length).1 = B.length
  ·rw [if_pos ⟨rfl, hr⟩]
   dsimp only
   rw [hr, dec_f (by omega), cond_false]; rfl
  ·rw [if_neg fun c => hr c.2]
   dsimp only
   rw [dec_t (by omega), cond_true]
 ·rw [show (((ports.length : Nat) : Int) != ((B.length : Nat) : Int)) = true by rw [bne_iff_ne]; omega, cond_true, if_neg fun c => hk c.1]
theorem P_choSpec (hp : isF p = true) (hn : n <= 100) (hB : MatW p n B) (hb : B.length <= n) (hr : gj p n B = B) (P : PortV n ports) :
  L_spec_riFunction p (n : Int) B ports = some (choV p n B ports) := by
 have hb2 := isF_bd hp
 have O := ord_of P
 have hl := O.len
 have hl' := hl
 rw [List.length_append] at hl'
 have hpl : ports.length <= n := by omega
 have hrl : (restV n ports).length <= n := by omega
 have hW : MatW p n (B.map (colsV (ports ++ restV n ports))) := by have := cols_mat (o := ports ++ restV n ports) hb2.1 hB; rwa [hl] at this
 unfold L_spec_riFunction choV
 by_cases hk : ports.length = B.length
 ·rw [show (((ports.length : Nat) : Int) != ((B.length : Nat) : Int)) = false by rw [hk]; exact bne_self_eq_false _, cond_false, P_riRest n ports (by omega) (by omega), Option.bind_some]
  have h1 : loopM (fun s_ : Nat × List (List Int) => L_spec_riFunction_l1 B ports (restV n ports) s_.1 s_.2) 4611686018427387904 (0, []) = some (B.map (colsV (ports ++ restV n ports))) := by
   have h := loopM_app (body := fun s_ : Nat × List (List Int) => L_spec_riFunction_l1 B ports (restV n ports) s_.1 s_.2) B (colsV (ports ++ restV n ports)) [] (F := 4611686018427387904) (by omega) (B.map (colsV (ports ++ restV n ports))) (fun i x h => ?_) ?_
   ·simpa using h
   ·have := getN_lt h
    have hx := (hB x (List.mem_of_getElem? h)).1
    have hin : loopM (fun s_ : Nat × List Int => L_spec_riFunction_l2 ports (restV n ports) x s_.1 s_.2) 4611686018427387904 (0, []) = some (colsV (ports ++ restV n ports) x) := by
     have h := loopM_app (body := fun s_ : Nat × List Int => L_spec_riFunction_l2 ports (restV n ports) x s_.1 s_.2) (ports ++ restV n ports) (fun q => x.getD q.toNat 0) [] (F := 4611686018427387904) (by omega) (colsV (ports ++ restV n ports) x) (fun i q h => ?_) ?_
     ·simpa using h
     ·have := getN_lt h
      try dsimp only
      unfold L_spec_riFunction_l2
      rw [dec_t (by omega), cond_true, h, Option.bind_some, getI_vec hx ((O.mem q).1 (List.mem_of_getElem? h)), Option.bind_some, og_true (by simp; omega), og_true (by omega)]
     ·try dsimp only
      unfold L_spec_riFunction_l2
      rw [dec_f (by omega), cond_false, List.nil_append]; rfl
    try dsimp only
    unfold L_spec_riFunction_l1
    rw [dec_t (by omega), cond_true, h, Option.bind_some, P_l1Own _ (by omega), Option.bind_some, og_true (by omega), hin, Option.bind_some, og_true (by simp; omega), Option.bind_some, og_true (by omega)]
   ·try dsimp only
    unfold L_spec_riFunction_l1
    rw [dec_f (by omega), cond_false, List.nil_append]
  have hWl : (B.map (colsV (ports ++ restV n ports))).length = B.length := List.length_map ..
  have hrk : (gj p n (B.map (colsV (ports ++ restV n ports)))).length = (B.map (colsV (ports ++ restV n ports))).length := by rw [hWl]; exact perm_rank hb2.1 (invOK hp) hB hr O
  obtain ⟨k1, k2⟩ := solve_iff hb2.1 (invOK hp) hW (by omega) hrk
  have hgm := gj_mat (n := n) hb2.1 hW
  rw [h1, Option.bind_some, P_spReduce hp hW (Nat.le_refl n) (by omega) (by omega), Option.bind_some, hk]
  rw [hWl] at k1 k2 hrk
  generalize gj p n (B.map (colsV (ports ++ restV n ports))) = R at *
  by_cases hr : (gjT p (B.map (colsV (ports ++ restV n ports))) B.length).1 = B.length
  ·rw [if_pos ⟨rfl, hr⟩, ← k2 hr]
   have hin : loopM (fun s_ : Nat × List (List Int) => L_spec_riFunction_l3 R ports s_.1 s_.2) 4611686018427387904 (0, []) = some (Ctl.next (R.map (·.drop B.length))) := by
    have h := loopM_app (body := fun s_ : Nat × List (List Int) => L_spec_riFunction_l3 R ports s_.1 s_.2) R (·.drop B.length) [] (F := 4611686018427387904) (by omega) (Ctl.next (R.map (·.drop B.length))) (fun i x h => ?_) ?_
    ·simpa using h
    ·have := getN_lt h
     have hx := (hgm x (List.mem_of_getElem? h)).1
     have hld := k1.2 hr i (by omega)
     rw [getD_of h] at hld
     try dsimp only
     unfold L_spec_riFunction_l3
     rw [dec_t (by omega), cond_true, h, Option.bind_some, P_spLead x (by omega), Option.bind_some, hld, bne_self_eq_false, cond_false, og_true (by omega), P_l1Own _ (by simp; omega), Option.bind_some, og_true (by simp; omega), og_true (by omega), hk]
    ·try dsimp only
     unfold L_spec_riFunction_l3
     rw [dec_f (by omega), cond_false, List.nil_append]
   rw [hin]
   show some _ = some _
   rw [show (restV n ports).length = n - B.length by omega]
  ·rw [if_neg fun c => hr c.2]
   have hex : ∃ i, i < R.length ∧ leadV (R.getD i []) ≠ i := Classical.byContradiction fun hn => hr (k1.1 fun i hi => Classical.byContradiction fun hne => hn ⟨i, by omega, hne⟩)
   have hin : loopM (fun s_ : Nat × List (List Int) => L_spec_riFunction_l3 R ports s_.1 s_.2) 4611686018427387904 (0, []) = some (Ctl.out (false, 0, [])) := by
    refine loopM_eq R.length (fun i s => s.1 = i ∧ s.2.length = i ∧ ∀ j, j < i -> leadV (R.getD j []) = j) (by omega) _ ⟨rfl, rfl, fun j hj => by omega⟩ ?_ ?_
    ·rintro i ⟨s1, s2⟩ hi ⟨h1, h2, h3⟩
     obtain rfl : s1 = i := h1
     have hx := (hgm _ (List.getElem_mem hi)).1
     have hg := List.getElem?_eq_getElem hi
     try dsimp only at h2 ⊢
     unfold L_spec_riFunction_l3
     rw [dec_t (by omega), cond_true, hg, Option.bind_some, P_spLead _ (by omega), Option.bind_some]
     by_cases hld : leadV R[s1] = s1
     ·refine .inl ⟨_, by rw [hld, bne_self_eq_false, cond_false, og_true (by omega), P_l1Own _ (by simp; omega), Option.bind_some, og_true (by omega), og_true (by omega)], rfl, by simp [h2], fun j hj => ?_⟩
      by_cases e : j = s1
      ·subst e; rw [getD_of hg]; exact hld
      ·exact h3 j (by omega)
     ·exact .inr (by rw [show ((((leadV R[s1]) : Nat) : Int) != ((s1 : Nat) : Int)) = true from by rw [bne_iff_ne]; omega, cond_true])
    ·rintro ⟨s1, s2⟩ ⟨h1, h2, h3⟩
     obtain ⟨i, hi, hne⟩ := hex
     exact (hne (h3 i hi)).elim
   rw [hin]; rfl
 ·rw [show (((ports.length : Nat) : Int) != ((B.length : Nat) : Int)) = true by rw [bne_iff_ne]; omega, cond_true, if_neg fun c => hk c.1]
end
end Go.Proofs.YtedphkkbjpcjeaaDoor
namespace Go.Proofs.YtedphkkbjpcjeaaDoor
theorem P_eqMatrix (c : Int) (xss : List (List Int)) (hn : xss.length <= 1048576) (hb : RowsB 1048576 xss) : L_laws_eqMatrix c xss c xss = some true := by
 unfold L_laws_eqMatrix
 rw [P_eqIntSS xss hn hb, bne_self_eq_false]; rfl
theorem P_markMatrix (c : Int) (xss : List (List Int)) {v : Int} (hv : 0 <= v ∧ v <= 576460752303423488) (hn : xss.length <= 1048576) (hb : RowsB 1048576 xss) :
  ∃ yss, ∃ u : Int, v <= u ∧ u <= v + 1099511627776 ∧ L_laws_markMatrix c xss v = some (yss, u) ∧ yss.length = xss.length ∧ L_laws_heldMatrix c yss v = some u := by
 obtain ⟨yss, u, h1, h2, h3, h4, h5⟩ := P_markIntSS xss hv hn hb
 refine ⟨yss, u, h1, h2, ?_, h4, ?_⟩
 ·unfold L_laws_markMatrix
  rw [h3, Option.bind_some, og_true h4]
 ·unfold L_laws_heldMatrix
  rw [h5, Option.bind_some, dec_f (by omega), cond_false]
theorem P_markRelation (l r : Int) (xss : List (List Int)) {v : Int} (hv : 0 <= v ∧ v <= 576460752303423488) (hn : xss.length <= 1048576) (hb : RowsB 1048576 xss) :
  ∃ yss, ∃ u : Int, v <= u ∧ u <= v + 1099511627776 ∧ L_laws_markRelation l r xss v = some (yss, u) ∧ yss.length = xss.length ∧ L_laws_heldIntSS yss v = some u := by
 obtain ⟨yss, u, h1, h2, h3, h4, h5⟩ := P_markIntSS xss hv hn hb
 refine ⟨yss, u, h1, h2, ?_, h4, h5⟩
 unfold L_laws_markRelation
 rw [h3, Option.bind_some, og_true h4]
end Go.Proofs.YtedphkkbjpcjeaaDoor
namespace Go.Proofs.YtedphkkbjpcjeaaDoor
def qV (xs : List Int) (hi : Int) (i : Nat) : Bool := inR (xs.getD i 0) 0 hi && (decide (i = 0) || decide (xs.getD (i - 1) 0 < xs.getD i 0))
def risV (xs : List Int) (hi : Int) : Bool := (List.range xs.length).all (qV xs hi)
section
variable {xs : List Int} {hi : Int}
theorem bad_q {i : Nat} {x : Int} (h : xs[i]? = some x) (hx : xs.length <= 1099511627776) :
  (cond (!inR x 0 hi) (some true) (cond (decide (0 < ((i : Nat) : Int))) (Option.bind (getI xs (IntKind.i64.wrap (((i : Nat) : Int) - 1))) fun x15 => some (decide (x <= x15))) (some false))) = some (!qV xs hi i) := by
 have hi' := getN_lt h
 unfold qV
 rw [getD_of h]
 cases inR x 0 hi
 ·rfl
 ·rw [Bool.not_true, cond_false, Bool.true_and]
  by_cases h0 : i = 0
  ·subst h0; rfl
  ·rw [dec_t (by omega), cond_true, i64_lt (by omega) (by omega), getI_nat (by omega), show (((i : Nat) : Int) - 1).toNat = i - 1 by omega, List.getElem?_eq_getElem (show i - 1 < xs.length by omega), Option.bind_some, dec_f h0, Bool.false_or, getD_of (List.getElem?_eq_getElem (show i - 1 < xs.length by omega))]
   congr 1
   rw [← decide_not]
   exact decide_eq_decide.2 (by omega)
theorem P_riPorts (hx : xs.length <= 1048576) {n : Int} (hn : 0 <= n ∧ n <= 1000) : L_spec_riPorts xs n = some (risV xs (n - 1)) := by
 unfold L_spec_riPorts L_spec_l1Rising
 rw [i64_lt (by omega) (by omega), loopM_all (List.range xs.length) (qV xs (n - 1)) (.next ()) (.out false) (by simp; omega) (fun i x h => ?_) ?_, seq_all, Option.bind_some]; rfl
 ·rw [List.length_range]
  unfold L_spec_l1Rising_l1
  rw [dec_f (by omega), cond_false]
 ·have hl := getN_lt h
  rw [List.length_range] at hl
  rw [List.getElem?_range hl] at h
  obtain rfl := Option.some.inj h
  have hg := List.getElem?_eq_getElem hl
  unfold L_spec_l1Rising_l1
  rw [dec_t (by omega), cond_true, hg, Option.bind_some, P_l1In, Option.bind_some, bad_q hg (by omega), Option.bind_some, og_true (by omega)]
  cases qV xs (n - 1) i <;> rfl
theorem P_isPortList (hx : xs.length <= 1048576) {n : Int} (hn : 0 <= n ∧ n <= 1000) : L_impl_isPortList xs n = some (risV xs (n - 1)) := by
 unfold L_impl_isPortList
 rw [loopM_all (List.range xs.length) (qV xs (n - 1)) (.next ()) (.out false) (by simp; omega) (fun i x h => ?_) ?_, seq_all]; rfl
 ·rw [List.length_range]
  unfold L_impl_isPortList_l1
  rw [dec_f (by omega), cond_false]
 ·have hl := getN_lt h
  rw [List.length_range] at hl
  rw [List.getElem?_range hl] at h
  obtain rfl := Option.some.inj h
  have hg := List.getElem?_eq_getElem hl
  unfold L_impl_isPortList_l1
  rw [dec_t (by omega), cond_true, hg, Option.bind_some, i64_lt (by omega) (by omega), P_within, Option.bind_some, bad_q hg (by omega), Option.bind_some, og_true (by omega)]
  cases qV xs (n - 1) i <;> rfl
theorem ris_ports {n : Nat} (h : risV xs ((n : Int) - 1) = true) : PortV n xs := by
 have hq : ∀ i, i < xs.length -> inR (xs.getD i 0) 0 ((n : Int) - 1) = true ∧ (i = 0 ∨ xs.getD (i - 1) 0 < xs.getD i 0) := fun i hi => by
  have := List.all_eq_true.1 h i (List.mem_range.2 hi)
  unfold qV at this
  simpa using this
 have hm : ∀ d i, i + d + 1 < xs.length -> xs.getD i 0 < xs.getD (i + d + 1) 0 := by
  intro d
  induction d with
  | zero => intro i hi; have := (hq (i + 1) hi).2; simp only [Nat.add_sub_cancel] at this; simp only [Nat.add_zero]; omega
  | succ d ih =>
   intro i hi
   have h1 := ih i (by omega)
   have h2 := (hq (i + (d + 1) + 1) hi).2
   rw [show i + (d + 1) + 1 - 1 = i + d + 1 by omega] at h2
   omega
 refine ⟨?_, fun q hq' => ?_⟩
 ·rw [List.Nodup, List.pairwise_iff_getElem]
  intro i j hi hj hij e
  have := hm (j - i - 1) i (by omega)
  rw [show i + (j - i - 1) + 1 = j by omega, getD_of (List.getElem?_eq_getElem hi), getD_of (List.getElem?_eq_getElem hj)] at this
  omega
 ·obtain ⟨i, hi, rfl⟩ := List.getElem_of_mem hq'
  have := inR_iff.1 (hq i hi).1
  rw [getD_of (List.getElem?_eq_getElem hi)] at this
  omega
end
theorem P_choBoth (p l r : Int) (b : List (List Int)) (ports : List Int) (hb : b.length <= 1048576) (hr : RowsB 1048576 b) (hq : ports.length <= 1048576) :
  ∃ v, L_spec_ChoiceFunction p l r b ports = some v ∧ L_impl_ChoiceFunction p l r b ports = some (v.1, ((v.2.1 : Nat) : Int), v.2.2) ∧ v.2.2.length <= 1048576 ∧ RowsB 1048576 v.2.2 := by
 unfold L_spec_ChoiceFunction L_impl_ChoiceFunction L_spec_riAsked L_impl_isAsked
 rw [P_rlGood p l r b hb hr, P_isRelation p l r b hb hr]
 cases hg : goodR p l r b
 ·exact ⟨_, rfl, rfl, by simp, fun x hx => by cases hx⟩
 have G := goodR_iff hg
 have h1 := G.hl
 have h2 := G.hr
 have h3 := G.hs
 have h4 := G.lb
 obtain ⟨n, hn⟩ := Int.eq_ofNat_of_zero_le (show 0 <= l + r by omega)
 have hm := G.mb
 have hrb := G.rb
 rw [hn] at hm hrb
 rw [Int.toNat_natCast] at hm hrb
 unfold L_impl_Relation_size
 simp only [Option.bind_some, cond_true]
 rw [i64_lt (n := l + r) (by omega) (by omega), hn, P_riPorts hq (by omega), P_isPortList hq (by omega)]
 cases hp : risV ports ((n : Int) - 1)
 ·exact ⟨_, rfl, rfl, by simp, fun x hx => by cases hx⟩
 have P := ris_ports hp
 have hpl : ports.length <= n := by
  have := (ord_of P).len
  rw [List.length_append] at this
  omega
 simp only [Option.bind_some, Bool.not_true, cond_false]
 rw [P_choSpec G.fp (by omega) hm (by omega) hrb P, P_choImpl G.fp (by omega) hm (by omega) P]
 have hs := cho_shape (isF_bd G.fp).1 hm P
 refine ⟨choV p n b ports, rfl, ?_, by omega, fun x hx => by have := hs.2 x hx; omega⟩
 simp only [Option.bind_some]
 unfold choV
 split
 ·dsimp only
  rw [Bool.not_true, cond_false, i64_lt (by omega) (by omega)]
  congr 3
  omega
 ·rfl
theorem P_lawCho {p l r : Int} {b : List (List Int)} {q : List Int} (h1 : b.length <= 9223372036854775807) (h2 : RowsB 9223372036854775807 b) (h3 : q.length <= 9223372036854775807) : L_laws_FnExactChoiceFunction p l r b q = some true := by
 unfold L_laws_FnExactChoiceFunction
 by_cases hq : 1048576 < ((q.length : Nat) : Int)
 ·rw [dec_t hq, cond_true]
 rw [dec_f hq, cond_false, P_szRelation l r b (by omega) h1 h2, Option.bind_some]
 by_cases hz : szW 1048576 b < 0
 ·rw [dec_t hz, cond_true]
 rw [dec_f hz, cond_false]
 obtain ⟨z1, z2, _⟩ := szW_bd (by omega) hz
 obtain ⟨v, hs, hi, v1, v2⟩ := P_choBoth p l r b q (by omega) z2 (by omega)
 obtain ⟨vo, vn, vm⟩ := v
 obtain ⟨ys, u, a1, a2, a3, a4, a5⟩ := P_markRelation l r b (v := 1) (by omega) (by omega) z2
 obtain ⟨zs, b1, b2, b3⟩ := P_markIntS q (v := u) (by omega) (by omega)
 obtain ⟨w, u2, c2, d2, m2, x2, k2⟩ := P_markMatrix (((vn : Nat) : Int)) vm (v := 1) (by omega) v1 v2
 simp only [P_toRelation l r b (by omega) z2, P_toIntS q (by omega), hs, hi, Option.bind_some, P_eqRelation l r b (by omega) z2, P_eqIntS q (by omega), P_eqMatrix _ vm v1 v2, bne_self_eq_false, Bool.not_true, cond_false, a3, og_true a4, b1, og_true b2, m2, og_true x2, k2,
  dec_f (show ¬ (u + (q.length : Int) < 0) by omega), dec_f (show ¬ (u2 < 0) by omega)]
end Go.Proofs.YtedphkkbjpcjeaaDoor
namespace Go.Proofs.YtedphkkbjpcjeaaDoor
open Go.RowKit Go.Deep
theorem choiceFunction_walk (p : Int) (rLeft : Int) (rRight : Int) (rBasis : List (List Int)) (A_rBasis : Option Addr) (c_rBasis : Nat) (l_rBasis : List Addr) (ports : List (Int)) (A_ports : Option Addr) (c_ports : Nat) (l_ports : List Addr) (w : World) (_i_p : -9223372036854775808 <= p ∧ p <= 9223372036854775807) (_i_rLeft : -9223372036854775808 <= rLeft ∧ rLeft <= 9223372036854775807) (_i_rRight : -9223372036854775808 <= rRight ∧ rRight <= 9223372036854775807) (s_rBasis : Sl (fun _ => True) w (.slice .int) A_rBasis c_rBasis rBasis l_rBasis) (_i_rBasis : Ty.In (.slice (.slice .int)) rBasis) (s_ports : Sl (fun _ => True) w .int A_ports c_ports ports l_ports) (_i_ports : Ty.In (.slice .int) ports) (tab : Tab w) :
  Calls Tryd.prog 6 #[.int .i64 p, .agg #[.int .i64 rLeft, .int .i64 rRight, .slice A_rBasis rBasis.length c_rBasis], .slice A_ports ports.length c_ports] w fun e w' => e = .returned (.bool true) ∧ Below w.heap.size w w' := by
 have hl : L_laws_FnExactChoiceFunction p rLeft rRight rBasis ports = some true := P_lawCho (sl_len s_rBasis).2 (sl_rows s_rBasis) (sl_len s_ports).2
 refine (ok_laws_FnExactChoiceFunction hl w (fun _ => True) [.int .i64 p, .agg #[.int .i64 rLeft, .int .i64 rRight, .slice A_rBasis rBasis.length c_rBasis], .slice A_ports ports.length c_ports] (fun w' hb => tab.below hb) ⟨_, _, rfl, rfl, ⟨_, _, rfl, ⟨_, rfl, ⟨_, _, rfl, rfl, ⟨_, _, rfl, rfl, ⟨_, _, rfl, ⟨A_rBasis, c_rBasis, l_rBasis, rfl, s_rBasis⟩, rfl⟩⟩⟩⟩, ⟨_, _, rfl, ⟨A_ports, c_ports, l_ports, rfl, s_ports⟩, rfl⟩⟩⟩).mono ?_
 rintro e w' ⟨u, rfl, hb, us, ls, h1, _, rfl⟩
 obtain ⟨u1, us1, rfl, h2, _, rfl, rfl⟩ := h1
 obtain rfl : u1 = .bool true := h2
 exact ⟨rfl, hb⟩
end Go.Proofs.YtedphkkbjpcjeaaDoor
