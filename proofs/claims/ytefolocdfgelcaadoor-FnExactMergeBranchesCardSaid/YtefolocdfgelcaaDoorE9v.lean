/- An abstract machine: rows of things (their cells hold other things than plain data): made, built, appended to; no condition. -/
import Derived.Test.YtefolocdfgelcaaDoorE9
namespace Go.Proofs.YtefolocdfgelcaaDoor
open Go.RowKit Go.Deep

/-- A value's cells. -/
def AV.cellsA : AV → List AV
  | .agg cs => cs
  | c => [c]
def repC (n : Nat) (zc : List AV) : List AV := (List.replicate n zc).flatten
/-- A type's zero cells, its size, the bytes of an element. -/
def elemV (P : Program) (t : TypeId) : Option (TypeId × Nat × List AV) :=
  match P.underlying t with
  | some (.slice e) => match P.info? e with
    | some i => match i.zero with
      | some z => if decide (0 < i.size) && (z.cells.size == i.size && z.cells.all (·.oneCell')) then some (e, i.bytes, z.cells.toList.map AV.of1) else none
      | none => none
    | none => none
  | _ => none
def evMakeV (f : Nat → AV) (i : Oid) (e : TypeId) (t : Ty) (bytes : Nat) (zc : List AV) (len cap : Opd) : Option (AV × List (Oid × Option Ob)) :=
  match len.ev f, cap.ev f with
  | .int _ n, .int _ c => if t.size = zc.length ∧ 0 ≤ n ∧ n ≤ c ∧ c ≤ 1073741824 ∧ (bytes : Int) * c ≤ 140737488355328 then some (.own i t 0 n.toNat, [(i, some (.vec e zc.length n.toNat (repC n.toNat zc)))]) else none
  | _, _ => none
def evMkV (f : Nat → AV) (i : Oid) (e : TypeId) (t : Ty) (sz : Nat) (zs : List Opd) : Option (AV × List (Oid × Option Ob)) :=
  if (t.size == sz && zs.all fun z => (z.ev f).cellsA.length == sz && (z.ev f).cellsA.all AV.one) = true then
    some (.own i t 0 zs.length, [(i, some (.vec e sz zs.length (zs.flatMap fun z => (z.ev f).cellsA)))]) else none
/-- The cells of a slice value. -/
def srcV (ob : Oid → Option Ob) (t : Ty) : AV → Option (Nat × List AV)
  | .nils => some (0, [])
  | .tree u xs => match Ty.eq? u t with
    | some h => some (xs.length, (castL h xs).flatMap t.av)
    | none => none
  | .giv _ u xs => match Ty.eq? u t with
    | some h => some (xs.length, (castL h xs).flatMap t.av)
    | none => none
  | .own i _ off len => match ob i with
    | some (.vec _ sz n cs) => if sz = t.size ∧ off + len ≤ n then some (len, (cs.drop (off * sz)).take (len * sz)) else none
    | _ => none
  | _ => none
def evAppV (f : Nat → AV) (ob : Oid → Option Ob) (i : Oid) (e : TypeId) (t : Ty) (bytes : Nat) (x y : Opd) : Option (Nat × AV × List (Oid × Option Ob)) :=
  match srcV ob t (y.ev f) with
  | some (m, ds) => match x.ev f with
    | .nils => if m ≤ 1073741824 ∧ m * bytes ≤ 140737488355328 then some (1, .own i t 0 m, [(i, some (.vec e t.size m ds))]) else none
    | .own j _ off len => match ob j with
      | some (.vec e' sz n cs) => if off = 0 ∧ len ≤ n ∧ e' = e ∧ sz = t.size ∧ len + m ≤ 1073741824 ∧ (len + m) * bytes ≤ 140737488355328 then
          some (2, .own (j.1, i.2) t 0 (len + m), [(j, none), ((j.1, i.2), some (.vec e sz (len + m) (cs.take (len * sz) ++ ds)))]) else none
      | _ => none
    | _ => none
  | none => none

theorem fill_getV {sz : Nat} : ∀ (vss : List (List Value)) (ps : List (Nat × Value)) (k : Nat) (cells : Array Value), ps.length = vss.length →
    (∀ (i : Nat) (p : Nat × Value) (vs : List Value), ps[i]? = some p → vss[i]? = some vs → p.1 = k + i ∧ p.2.cells.toList = vs ∧ vs.length = sz) → (k + vss.length) * sz ≤ cells.size →
    ∃ cs, Instr.fill (fun i => some (i * sz, sz)) cells ps = some cs ∧ cs.size = cells.size ∧ ∀ j, cs[j]? = if k * sz ≤ j ∧ j < (k + vss.length) * sz then vss.flatten[j - k * sz]? else cells[j]?
  | [], [], k, cells, _, _, _ => ⟨cells, rfl, rfl, fun j => by rw [if_neg (by simp)]⟩
  | [], _ :: _, _, _, h, _, _ => by simp at h
  | _ :: _, [], _, _, h, _, _ => by simp at h
  | y :: ys, p :: ps, k, cells, hl, hp, hs => by
    obtain ⟨i, v⟩ := p
    obtain ⟨e1, e2, e3⟩ := hp 0 (i, v) y (by simp) (by simp)
    simp only [Nat.add_zero] at e1
    subst e1
    have hv : v.cells.size = sz := by rw [← Array.length_toList, e2, e3]
    simp only [List.length_cons] at hs
    have hmul : (i + (ys.length + 1)) * sz = i * sz + sz + ys.length * sz := by rw [Nat.add_mul, Nat.succ_mul]; omega
    have hsz : i * sz + v.cells.size ≤ cells.size := by rw [hv]; omega
    have hf := fold_set_get (i * sz) v.cells.toList 0 cells (by rw [Array.length_toList]; omega)
    rw [← Array.toList_zipIdx, Array.foldl_toList] at hf
    obtain ⟨g1, g2⟩ := hf
    obtain ⟨cs, h1, h2, h3⟩ := fill_getV ys ps (i + 1) _ (by simpa using hl) (fun j q z hq hz => by
      have := hp (j + 1) q z (by simpa using hq) (by simpa using hz)
      exact ⟨by omega, this.2⟩) (by rw [g1, show i + 1 + ys.length = i + (ys.length + 1) by omega]; exact hs)
    refine ⟨cs, ?_, by rw [h2, g1], fun j => ?_⟩
    · simp only [Instr.fill]
      rw [if_neg (by simp [hv]; omega)]
      exact h1
    · have h1m : (i + 1) * sz = i * sz + sz := Nat.succ_mul _ _
      have h2m : (i + 1 + ys.length) * sz = i * sz + sz + ys.length * sz := by rw [Nat.add_mul, h1m]
      rw [h3 j, h1m, h2m, List.length_cons, hmul, List.flatten_cons]
      by_cases c1 : i * sz + sz ≤ j
      · by_cases c2 : j < i * sz + sz + ys.length * sz
        · rw [if_pos ⟨c1, c2⟩, if_pos ⟨by omega, c2⟩, List.getElem?_append_right (by omega), e3, Nat.sub_sub]
        · rw [if_neg (by omega), if_neg (by omega), g2 j, if_neg (by rw [Array.length_toList]; omega)]
      · rw [if_neg (by omega), g2 j]
        by_cases c3 : i * sz ≤ j
        · rw [if_pos (by rw [Array.length_toList]; omega), if_pos (by omega), List.getElem?_append_left (by omega), e2, Nat.add_zero]
        · rw [if_neg (by omega), if_neg (by omega)]

theorem Ty.av_one : ∀ (t : Ty) (x : t.D), ∀ c ∈ t.av x, c.one = true
  | .int, _, c, h => by obtain rfl := List.mem_singleton.1 h; rfl
  | .bool, _, c, h => by obtain rfl := List.mem_singleton.1 h; rfl
  | .str, _, c, h => by obtain rfl := List.mem_singleton.1 h; rfl
  | .slice _, _, c, h => by obtain rfl := List.mem_singleton.1 h; rfl
  | .pair a b, x, c, h => by
    rcases List.mem_append.1 h with h | h
    · exact Ty.av_one a _ c h
    · exact Ty.av_one b _ c h
theorem Ty.av_len : ∀ (t : Ty) (x : t.D), (t.av x).length = t.size
  | .int, _ => rfl
  | .bool, _ => rfl
  | .str, _ => rfl
  | .slice _, _ => rfl
  | .pair a b, x => by simp only [Ty.av, List.length_append, Ty.av_len a, Ty.av_len b, Ty.size]
theorem Ty.avs_len {t : Ty} (xs : List t.D) : (xs.flatMap t.av).length = xs.length * t.size := by
  induction xs with
  | nil => simp
  | cons x xs ih => rw [List.flatMap_cons, List.length_append, ih, Ty.av_len, List.length_cons, Nat.succ_mul]; omega
theorem Ty.avs_get {t : Ty} : ∀ (xs : List t.D) (i : Nat) (hi : i < xs.length) (j : Nat), j < t.size → (xs.flatMap t.av)[i * t.size + j]? = (t.av xs[i])[j]?
  | [], i, hi, _, _ => absurd hi (by simp)
  | x :: r, 0, _, j, hj => by
    rw [List.flatMap_cons, Nat.zero_mul, Nat.zero_add, List.getElem_cons_zero, List.getElem?_append_left (by rw [Ty.av_len]; exact hj)]
  | x :: r, i + 1, hi, j, hj => by
    rw [List.flatMap_cons, List.getElem_cons_succ, List.getElem?_append_right (by rw [Ty.av_len, Nat.succ_mul]; omega), Ty.av_len]
    rw [show (i + 1) * t.size + j - t.size = i * t.size + j by rw [Nat.succ_mul]; omega]
    exact Ty.avs_get r i (by simpa using hi) j hj

section
variable {P : Program} {G : World → Prop} {w0 w w' : World} {ob : Oid → Option Ob} {σ : Oid → Option Loc} {K K' : Nat → Prop} {im : Nat → Prop}

theorem Ty.size_pos : ∀ t : Ty, 0 < t.size
  | .int | .bool | .str | .slice _ => by simp [Ty.size]
  | .pair a b => by have := Ty.size_pos a; simp only [Ty.size]; omega
/-- The cells of a slice that nobody changes. -/
theorem tree_cells {t : Ty} {A : Option Addr} {c : Nat} {xs : List t.D} {l : List Addr} (hs : Sl im w t A c xs l) :
    ∃ us : List Value, (A = none → xs.length = 0) ∧ (∀ ad, A = some ad → ∀ j u, us[j]? = some u → w.cell? (ad.add j) = some u) ∧ AV.RepL σ im w (xs.flatMap t.av) us := by
  obtain ⟨_, _, f, _, hf⟩ := hs
  rcases Nat.eq_zero_or_pos xs.length with h0 | h0
  · obtain rfl := List.length_eq_zero_iff.1 h0
    exact ⟨[], fun _ => rfl, fun _ _ j u h => by simp at h, rfl⟩
  · obtain ⟨ad, rfl, _, hm⟩ := hf h0
    have hsz := Ty.size_pos t
    have hex : ∀ j, j < xs.length * t.size → ∃ v c, w.cell? (ad.add j) = some v ∧ (xs.flatMap t.av)[j]? = some c ∧ AV.Rep σ im w c v := by
      intro j hj
      have hi : j / t.size < xs.length := Nat.div_lt_of_lt_mul (by rw [Nat.mul_comm]; exact hj)
      have hmod := Nat.mod_lt j hsz
      have hj' : j / t.size * t.size + j % t.size = j := by rw [Nat.mul_comm]; exact Nat.div_add_mod j t.size
      obtain ⟨_, hc⟩ := Ty.av_rep (σ := σ) (hm _ hi)
      obtain ⟨v, c, h1, h2, h3⟩ := hc _ hmod
      rw [add_of_add, hj'] at h1
      refine ⟨v, c, h1, ?_, h3⟩
      have := Ty.avs_get xs _ hi _ hmod
      rw [hj'] at this
      rw [this]; exact h2
    refine ⟨(List.range (xs.length * t.size)).map fun j => (w.cell? (ad.add j)).getD undef, (fun h => by cases h), fun ad' e j u hu => ?_, AV.RepL.of_get (by rw [Ty.avs_len]; simp) fun j c v h1 h2 => ?_⟩
    · obtain rfl := Option.some.inj e
      rw [List.getElem?_map] at hu
      obtain ⟨j', hj', rfl⟩ := Option.map_eq_some_iff.1 hu
      have hlt := (List.getElem?_eq_some_iff.1 hj').1
      rw [List.length_range] at hlt
      rw [List.getElem?_range hlt] at hj'
      obtain rfl := Option.some.inj hj'
      obtain ⟨v, _, h1, _⟩ := hex j hlt
      rw [h1]; rfl
    · rw [List.getElem?_map] at h2
      obtain ⟨j', hj', rfl⟩ := Option.map_eq_some_iff.1 h2
      have hlt := (List.getElem?_eq_some_iff.1 hj').1
      rw [List.length_range] at hlt
      rw [List.getElem?_range hlt] at hj'
      obtain rfl := Option.some.inj hj'
      obtain ⟨v, c', g1, g2, g3⟩ := hex j hlt
      rw [g1]
      rw [g2] at h1
      obtain rfl := Option.some.inj h1
      exact g3
theorem srcV_rep {t : Ty} {c : AV} {v : Value} {m : Nat} {ds : List AV} {obL : Oid → Option Ob} {lo : Nat} (h : srcV obL t c = some (m, ds)) (hob : ∀ i o l, obL i = some o → σ i = some l → o.Rep lo σ im w l) (hr : AV.Rep σ im w c v) :
    ∃ (A : Option Addr) (cp : Nat) (us : List Value), v = .slice A m cp ∧ (A = none → m = 0) ∧ (∀ ad, A = some ad → ∀ j u, us[j]? = some u → w.cell? (ad.add j) = some u) ∧ AV.RepL σ im w ds us ∧ us.length = m * t.size ∧ ∀ u ∈ us, u.oneCell' = true := by
  have htree : ∀ (xs : List t.D) (A : Option Addr) (c : Nat) (l : List Addr), v = .slice A xs.length c → Sl im w t A c xs l →
      ∃ (A : Option Addr) (cp : Nat) (us : List Value), v = .slice A xs.length cp ∧ (A = none → xs.length = 0) ∧ (∀ ad, A = some ad → ∀ j u, us[j]? = some u → w.cell? (ad.add j) = some u) ∧ AV.RepL σ im w (xs.flatMap t.av) us ∧ us.length = xs.length * t.size ∧ ∀ u ∈ us, u.oneCell' = true := by
    intro xs A c l e hs
    obtain ⟨us, g1, g2, g3⟩ := tree_cells (σ := σ) hs
    refine ⟨A, c, us, e, g1, g2, g3, by rw [g3.length, Ty.avs_len], AV.one_repL ?_ g3⟩
    rw [List.all_eq_true]
    intro c hc
    obtain ⟨x, _, hx⟩ := List.mem_flatMap.1 hc
    exact Ty.av_one t x c hx
  unfold srcV at h
  split at h
  · simp only [Option.some.injEq, Prod.mk.injEq] at h
    obtain ⟨rfl, rfl⟩ := h
    exact ⟨none, 0, [], hr, fun _ => rfl, fun _ _ j u h => by simp at h, rfl, by simp, fun _ h => by cases h⟩
  · split at h
    · rename_i hh _
      simp only [Option.some.injEq, Prod.mk.injEq] at h
      obtain ⟨rfl, rfl⟩ := h
      obtain ⟨hh⟩ := hh
      subst hh
      obtain ⟨A, cp, l, e, hs⟩ := hr
      exact htree _ A cp l e hs
    · cases h
  · split at h
    · rename_i hh _
      simp only [Option.some.injEq, Prod.mk.injEq] at h
      obtain ⟨rfl, rfl⟩ := h
      obtain ⟨hh⟩ := hh
      subst hh
      obtain ⟨A, cp, l, e, hs⟩ := hr.2
      exact htree _ A cp l e hs
    · cases h
  · rename_i i u0 off len
    split at h
    · rename_i e sz n cs hj
      split at h
      · rename_i hc
        obtain ⟨rfl, hle⟩ := hc
        simp only [Option.some.injEq, Prod.mk.injEq] at h
        obtain ⟨rfl, rfl⟩ := h
        rcases hr with ⟨e1, e2, e3, e4⟩ | ⟨b, cap, e1, e2, e3⟩ | ⟨lc, e1, e2, e3, A, c, e4, e5⟩
        rotate_left
        rotate_left
        · subst e3
          exact ⟨A, c, [], e4, fun _ => rfl, fun ad _ j u' hu => by simp at hu, by simp only [Nat.zero_mul, List.take_zero]; rfl, by simp, fun _ h => by cases h⟩
        · subst e2 e3
          exact ⟨none, 0, [], e4, fun _ => rfl, fun ad _ j u' hu => by simp at hu, by simp only [Nat.zero_mul, List.take_zero]; rfl, by simp, fun _ h => by cases h⟩
        · obtain ⟨vs, hown, g2, g3, hsz⟩ := hob i _ _ hj e1
          have hs0 := hsz b cap _ rfl
          have hl := hown.1
          have hmul : off * t.size + len * t.size ≤ n * t.size := by rw [← Nat.add_mul]; exact Nat.mul_le_mul_right _ hle
          refine ⟨some ⟨b, off * u0.size, none⟩, cap - off, (vs.drop (off * t.size)).take (len * t.size), e3, (fun e => by cases e), fun ad e j u' hu => ?_, (g2.drop _).take _, by rw [List.length_take, List.length_drop]; omega, fun u hu => g3 u (List.mem_of_mem_drop (List.mem_of_mem_take hu))⟩
          obtain rfl := Option.some.inj e
          rw [List.getElem?_take] at hu
          split at hu
          · rw [List.getElem?_drop] at hu
            have := hown.cells (g := b) rfl _ _ hu
            rw [add_mk, Nat.zero_add] at this
            rw [add_mk, hs0]
            exact this
          · cases hu
      · cases h
    · cases h
  · cases h

/-- A new row of things. -/
theorem Goes.vec (h : Mem0 G w0 ob σ K w) (hK : ∀ n, K n → K' n) {i : Oid} (hi : ¬ K i.2) (hi' : K' i.2) {e : TypeId} {t : Ty} {sz n : Nat} {cs : List AV} {vs : List Value} (hts : t.size = sz) (hb : Below w.heap.size w w') {l : Loc} (hl : ∀ b c s, l = .at_ b c s → s = sz)
    (ho : ownsV w' w.heap.size e sz (l.val n) n vs) (hc : AV.RepL σ (imm ob σ) w cs vs) (h1 : ∀ v ∈ vs, v.oneCell' = true) : Goes G w0 (upd ob i (some (.vec e sz n cs))) K' σ (imm ob σ) w (.own i t 0 n) (l.val n) w' := by
  have hs := Goes.fresh h hi
  have hlt : ∀ b c s, l = .at_ b c s → w.heap.size ≤ b ∧ b < w'.heap.size ∧ c ≤ maxLen := by
    intro b c s e
    subst e
    refine ⟨(ho.lt b rfl).1, (ho.lt b rfl).2, ?_⟩
    rcases ho.2 with ⟨e1, _⟩ | ⟨_, _, _, e1, _, _, _, hm, _⟩
    · cases e1
    · cases e1; exact hm
  have hL := Later.new (ob := ob) (i := i) (l := l) (o := .vec e sz n cs) hs hb (fun b c s e => (hlt b c s e).1)
  refine ⟨_, hL, h.new hs hb hlt hK hi' ⟨vs, ho.low h.below.size, AV.RepL.later hL _ _ hc, h1, hl⟩, ?_⟩
  subst hts
  cases l with
  | nil =>
    rcases ho.2 with ⟨_, h0⟩ | ⟨_, _, _, e1, _⟩
    · rw [h0]; exact .inl ⟨upd_same _ _ _, rfl, rfl, rfl⟩
    · cases e1
  | at_ b c s =>
    obtain rfl := hl b c s rfl
    rcases ho.2 with ⟨e1, _⟩ | ⟨g, cap, cur, e1, _, _, hc, _⟩
    · cases e1
    · cases e1
      exact .inr (.inl ⟨b, c, upd_same _ _ _, by omega, by simp [Loc.val]⟩)

theorem elemV_spec {ty e : TypeId} {bytes : Nat} {zc : List AV} (h : elemV P ty = some (e, bytes, zc)) : P.underlying ty = some (.slice e) ∧ ∃ i z, P.info? e = some i ∧ i.zero = some z ∧ i.bytes = bytes ∧ z.cells.toList.map AV.of1 = zc ∧ i.size = zc.length ∧ 0 < zc.length ∧ z.cells.size = zc.length ∧ ∀ v ∈ z.cells.toList, v.oneCell' = true := by
  unfold elemV at h
  split at h
  · rename_i e' hu
    split at h
    · rename_i i hi
      split at h
      · rename_i z hz
        split at h
        · rename_i hc
          simp only [Bool.and_eq_true, decide_eq_true_eq, beq_iff_eq] at hc
          obtain ⟨c1, c2, c3⟩ := hc
          simp only [Option.some.injEq, Prod.mk.injEq] at h
          obtain ⟨rfl, rfl, rfl⟩ := h
          refine ⟨hu, i, z, hi, hz, rfl, rfl, by simp [c2], by simp; omega, by simp, fun v hv => ?_⟩
          rw [Array.all_eq_true_iff_forall_mem] at c3
          exact c3 v (by simpa using hv)
        · cases h
      · cases h
    · cases h
  · cases h
theorem made_cells (z : Array Value) (n : Nat) : (madeCells z (n * z.size)).toList = (List.replicate n z.toList).flatten := by
  rcases Nat.eq_zero_or_pos z.size with h0 | h0
  · have : z = #[] := Array.eq_empty_of_size_eq_zero h0
    subst this
    simp [madeCells]
  · apply List.ext_getElem?
    intro j
    have hlen : (List.replicate n z.toList).flatten.length = n * z.size := by simp
    by_cases hj : j < n * z.size
    · have hi : j / z.size < n := Nat.div_lt_of_lt_mul (by rw [Nat.mul_comm]; exact hj)
      have hm := Nat.mod_lt j h0
      have key : ∀ (n i k : Nat), i < n → k < z.size → (List.replicate n z.toList).flatten[i * z.size + k]? = z.toList[k]? := by
        intro n
        induction n with
        | zero => intro i k h; omega
        | succ n ih =>
          intro i k hin hk
          rw [List.replicate_succ, List.flatten_cons]
          cases i with
          | zero => rw [Nat.zero_mul, Nat.zero_add, List.getElem?_append_left (by simpa using hk)]
          | succ i =>
            rw [List.getElem?_append_right (by rw [Array.length_toList, Nat.succ_mul]; omega), Array.length_toList, show (i + 1) * z.size + k - z.size = i * z.size + k by rw [Nat.succ_mul]; omega]
            exact ih i k (by omega) hk
      have := key n _ _ hi hm
      rw [show j / z.size * z.size + j % z.size = j by rw [Nat.mul_comm]; exact Nat.div_add_mod j z.size] at this
      rw [this]
      simp [madeCells, hj, hm]
    · rw [List.getElem?_eq_none (by simp [madeCells]; omega), List.getElem?_eq_none (by omega)]
theorem makeV_does {o : Oper} {a : Act} {f : Nat → AV} {i : Oid} {v : AV} {us : List (Oid × Option Ob)} {ty e : TypeId} {t : Ty} {bytes : Nat} {zc : List AV} {x y : Operand} {x' y' : Opd} (ho : o.op = .makeSlice ty x y) (hel : elemV P ty = some (e, bytes, zc)) (h2 : Opd.of x = some x') (h3 : Opd.of y = some y')
    (he : evMakeV f i e t bytes zc x' y' = some (v, us)) (hm : Mem0 G w0 ob σ K w) (hK : ∀ n, K n → K' n) (hi : ¬ K i.2) (hi' : K' i.2)
    (hf : ∀ x ∈ o.op.operands, ∀ y, Opd.of x = some y → AV.Rep σ (imm ob σ) w (y.ev f) (a.eval x)) : Oper.does P o a w (Goes G w0 (applyU us ob) K' σ (imm ob σ) w v) := by
  have r1 := hf x (by simp [ho, Op.operands]) x' h2
  have r2 := hf y (by simp [ho, Op.operands]) y' h3
  unfold evMakeV at he
  split at he
  · rename_i k n k' c hx hy
    rw [hx] at r1
    rw [hy] at r2
    have e1 : a.eval x = .int k n := r1
    have e2 : a.eval y = .int k' c := r2
    split at he
    · rename_i hc
      obtain ⟨c0, c1, c2, c3, c4⟩ := hc
      obtain ⟨rfl, rfl⟩ := Prod.mk.inj (Option.some.inj he)
      obtain ⟨ht, inf, z, q1, q2, q4, q5, q3, q7, q8, q9⟩ := elemV_spec hel
      have hrun := run_make (P := P) w ty e inf z ht q1 q2 k k' n c c1 c2 (by rw [q4]; omega) (by omega)
      have hz8 : z.cells.size = inf.size := by rw [q8, q3]
      have hmade : (madeCells z.cells (c.toNat * inf.size)).toList = (List.replicate c.toNat z.cells.toList).flatten := by rw [← hz8]; exact made_cells _ _
      have hzr : AV.RepL σ (imm ob σ) w zc z.cells.toList := by rw [← q5]; exact AV.of1_repL _
      have hrep : ∀ m : Nat, AV.RepL σ (imm ob σ) w (repC m zc) (List.replicate m z.cells.toList).flatten := by
        intro m
        induction m with
        | zero => exact rfl
        | succ m ih => simp only [repC, List.replicate_succ, List.flatten_cons] at ih ⊢; exact hzr.append ih
      have hcn : (List.replicate c.toNat z.cells.toList).flatten.take (n.toNat * zc.length) = (List.replicate n.toNat z.cells.toList).flatten := by
        rw [show c.toNat = n.toNat + (c.toNat - n.toNat) by omega, ← List.replicate_append_replicate, List.flatten_append, List.take_left']
        simp [q8]
      have hg := Goes.vec (w' := w.alloc (.cells (madeCells z.cells (c.toNat * inf.size)) e)) hm hK hi hi' (e := e) (n := n.toNat) (cs := repC n.toNat zc) (vs := (List.replicate n.toNat z.cells.toList).flatten) c0 ((Below.refl _ _).alloc (Nat.le_refl _) _) (l := .at_ w.heap.size c.toNat zc.length) (fun b c s h => by cases h; rfl)
        ⟨by simp [q8], .inr ⟨w.heap.size, c.toNat, madeCells z.cells (c.toNat * inf.size), rfl, Nat.le_refl _, by show (w.heap.push _)[w.heap.size]? = _; simp, by omega, by simp only [maxLen]; omega, by simp [madeCells, q3], by rw [hmade, hcn]⟩⟩ (hrep _) (fun v hv => by
          obtain ⟨l, hl, hv⟩ := List.mem_flatten.1 hv
          obtain rfl := (List.mem_replicate.1 hl).2
          exact q9 v hv)
      exact Oper.does_value (by simp [execOp, ho, e1, e2, hrun, Loc.val]) hg
    · cases he
  · cases he

theorem cellsA_rep {c : AV} {v : Value} (h1 : c.cellsA.all AV.one = true) (hr : AV.Rep σ im w c v) : AV.RepL σ im w c.cellsA v.cells.toList := by
  by_cases hagg : ∃ cs, c = .agg cs
  · obtain ⟨cs, rfl⟩ := hagg
    obtain ⟨vs, e, hl⟩ := hr
    rw [e]; simpa [Value.cells, AV.cellsA] using hl
  · have e : c.cellsA = [c] := by cases c <;> first | rfl | exact absurd ⟨_, rfl⟩ hagg
    rw [e] at h1 ⊢
    have hone := AV.one_rep (by simpa using h1) hr
    have : v.cells.toList = [v] := by cases v <;> first | rfl | cases hone
    rw [this]
    exact ⟨v, [], rfl, hr, rfl⟩
theorem mkV_rep {f : Nat → AV} {a : Act} {sz : Nat} : ∀ {xs : List Operand} {zs : List Opd}, Opd.ofL xs = some zs → (zs.all fun z => (z.ev f).cellsA.length == sz && (z.ev f).cellsA.all AV.one) = true → (∀ x ∈ xs, ∀ y, Opd.of x = some y → AV.Rep σ im w (y.ev f) (a.eval x)) →
    zs.length = xs.length ∧ AV.RepL σ im w (zs.flatMap fun z => (z.ev f).cellsA) (xs.map fun x => (a.eval x).cells.toList).flatten ∧ ∀ x ∈ xs, (a.eval x).cells.toList.length = sz ∧ ∀ v ∈ (a.eval x).cells.toList, v.oneCell' = true
  | [], zs, h, _, _ => by
    obtain rfl : [] = zs := Option.some.inj h
    exact ⟨rfl, rfl, fun x h => by cases h⟩
  | x :: xs, zs, h, he, hf => by
    simp only [Opd.ofL] at h
    split at h
    · rename_i z zs' h1 h2
      obtain rfl := Option.some.inj h
      rw [List.all_cons, Bool.and_eq_true, Bool.and_eq_true, beq_iff_eq] at he
      obtain ⟨⟨g1, g2⟩, g3⟩ := he
      obtain ⟨q1, q2, q3⟩ := mkV_rep h2 g3 (fun u hu => hf u (by simp [hu]))
      have hc := cellsA_rep g2 (hf x (by simp) z h1)
      refine ⟨by simp [q1], ?_, fun u hu => ?_⟩
      · rw [List.flatMap_cons, List.map_cons, List.flatten_cons]
        exact hc.append q2
      · rcases List.mem_cons.1 hu with rfl | hu
        · exact ⟨by rw [hc.length, g1], AV.one_repL g2 hc⟩
        · exact q3 u hu
    · cases h
theorem mkV_does {o : Oper} {a : Act} {f : Nat → AV} {i : Oid} {v : AV} {us : List (Oid × Option Ob)} {ty e : TypeId} {t : Ty} {bytes n : Nat} {zc : List AV} {parts : Array (Nat × Operand)} {zs : List Opd} (ho : o.op = .buildSlice ty n parts) (hel : elemV P ty = some (e, bytes, zc))
    (hp : parts.toList.map (·.1) = List.range n) (h2 : Opd.ofL (parts.toList.map (·.2)) = some zs) (hn : n * zc.length ≤ 16777216)
    (he : evMkV f i e t zc.length zs = some (v, us)) (hm : Mem0 G w0 ob σ K w) (hK : ∀ n, K n → K' n) (hi : ¬ K i.2) (hi' : K' i.2)
    (hf : ∀ x ∈ o.op.operands, ∀ y, Opd.of x = some y → AV.Rep σ (imm ob σ) w (y.ev f) (a.eval x)) : Oper.does P o a w (Goes G w0 (applyU us ob) K' σ (imm ob σ) w v) := by
  obtain ⟨ht, inf, z, q1, q2, q4, q5, q3, q7, q8, q9⟩ := elemV_spec hel
  unfold evMkV at he
  split at he
  · rename_i hall
    rw [Bool.and_eq_true, beq_iff_eq] at hall
    obtain ⟨c0, hall⟩ := hall
    obtain ⟨rfl, rfl⟩ := Prod.mk.inj (Option.some.inj he)
    have hops : o.op.operands = (parts.toList.map (·.2)).toArray := by rw [ho]; rfl
    obtain ⟨hlen, hrep, hone⟩ := mkV_rep h2 hall (fun x hx => hf x (by rw [hops]; simpa using hx))
    have hpn : parts.size = n := by
      have := congrArg List.length hp
      simpa using this
    have hyn : zs.length = n := by rw [hlen]; simpa using hpn
    generalize hV : ((parts.toList.map (·.2)).map fun x => (a.eval x).cells.toList) = vss at hrep
    have hvl : vss.length = n := by rw [← hV]; simp [hpn]
    have hfl : vss.flatten.length = n * zc.length := by
      have : ∀ (l : List (List Value)), (∀ vs ∈ l, vs.length = zc.length) → l.flatten.length = l.length * zc.length := by
        intro l
        induction l with
        | nil => simp
        | cons v l ih => intro h; rw [List.flatten_cons, List.length_append, ih (fun vs hv => h vs (by simp [hv])), h v (by simp), List.length_cons, Nat.succ_mul]; omega
      rw [this vss (fun vs hv => by rw [← hV] at hv; obtain ⟨x, hx, rfl⟩ := List.mem_map.1 hv; exact (hone x hx).1), hvl]
    have hfill : ∀ cells : Array Value, cells.size = n * zc.length → Instr.fill (fun i => some (i * zc.length, zc.length)) cells (parts.toList.map fun x => (x.1, a.eval x.2)) = some vss.flatten.toArray := by
      intro cells hcells
      obtain ⟨cs, g1, g2, g3⟩ := fill_getV (sz := zc.length) vss (parts.toList.map fun x => (x.1, a.eval x.2)) 0 cells (by simp [hpn, hvl]) (fun j p y hp1 hy => by
        rw [List.getElem?_map] at hp1
        obtain ⟨q, hq, rfl⟩ := Option.map_eq_some_iff.1 hp1
        have hj := (List.getElem?_eq_some_iff.1 hq).1
        have e1 : (parts.toList.map (·.1))[j]? = some q.1 := by rw [List.getElem?_map, hq]; rfl
        rw [hp, List.getElem?_range (by simpa [hpn] using hj)] at e1
        rw [← hV, List.getElem?_map, List.getElem?_map, hq] at hy
        have hy := (Option.some.inj hy).symm
        refine ⟨by simpa using (Option.some.inj e1).symm, hy.symm, ?_⟩
        rw [hy]
        exact (hone q.2 (List.mem_map.2 ⟨q, List.mem_of_getElem? hq, rfl⟩)).1) (by rw [hcells, Nat.zero_add, hvl]; exact Nat.le_refl _)
      rw [g1]
      congr 1
      apply Array.ext'
      apply List.ext_getElem?
      intro j
      have := g3 j
      simp only [Nat.zero_mul, Nat.zero_le, true_and, Nat.zero_add, Nat.sub_zero] at this
      rw [Array.getElem?_toList, this]
      split
      · rfl
      · rename_i hge
        rw [List.getElem?_eq_none (by rw [hfl, ← hvl]; omega), Array.getElem?_eq_none (by rw [hcells, ← hvl]; omega)]
    have hrun : (execOp a.eval o).run P w = .ok (.value (.slice (some ⟨w.heap.size, 0, none⟩) n n)) (w.alloc (.cells vss.flatten.toArray e)) := by
      have hle : ¬ (16777216 < n * zc.length) := by omega
      by_cases h0 : n * zc.length = 0
      · simp [execOp, ho, Instr.buildSlice, run_underlying ht, sizeOf, typeInfo, q1, q3, h0, newRow]
        rw [hfill _ (by simp [h0])]
        simp
      · simp [execOp, ho, Instr.buildSlice, run_underlying ht, sizeOf, typeInfo, q1, q2, q3, h0, hle, newRow, zeroValue]
        rw [hfill _ (by simp)]
        simp
    have hg := Goes.vec (w' := w.alloc (.cells vss.flatten.toArray e)) hm hK hi hi' (e := e) (n := n) (cs := zs.flatMap fun z => (z.ev f).cellsA) (vs := vss.flatten) c0 ((Below.refl _ _).alloc (Nat.le_refl _) _) (l := .at_ w.heap.size n zc.length) (fun b c s h => by cases h; rfl)
      ⟨hfl, .inr ⟨w.heap.size, n, vss.flatten.toArray, rfl, Nat.le_refl _, by show (w.heap.push _)[w.heap.size]? = _; simp, Nat.le_refl _, by
          have : n ≤ n * zc.length := Nat.le_mul_of_pos_right _ q7
          simp only [maxLen]; omega, by simp [hfl], by rw [List.take_of_length_le (by simp [hfl])]⟩⟩ hrep (fun v hv => by
        obtain ⟨l, hl, hv⟩ := List.mem_flatten.1 hv
        rw [← hV] at hl
        obtain ⟨x, hx, rfl⟩ := List.mem_map.1 hl
        exact (hone x hx).2 v hv)
    rw [hyn]
    exact Oper.does_value hrun hg
  · cases he

theorem appV_does {o : Oper} {a : Act} {f : Nat → AV} {i : Oid} {k : Nat} {v : AV} {us : List (Oid × Option Ob)} {ty e : TypeId} {t : Ty} {bytes : Nat} {zc : List AV} {x y : Operand} {x' y' : Opd} {c : Call} (ho : o.op = .call c) (hcb : c.callee = .builtin .append) (hca : c.args = #[x, y]) (hct : c.argTypes = #[ty, ty])
    (hel : elemV P ty = some (e, bytes, zc)) (hzt : zc.length = t.size) (h2 : Opd.of x = some x') (h3 : Opd.of y = some y')
    {obL : Oid → Option Ob} (he : evAppV f obL i e t bytes x' y' = some (k, v, us)) (hob : ∀ i o l, obL i = some o → σ i = some l → o.Rep w0.heap.size σ (imm ob σ) w l) (hE : k = 2 → obL = ob) (hm : Mem0 G w0 ob σ K w) (hK : ∀ n, K n → K' n) (hi : ¬ K i.2) (hi' : K' i.2)
    (hf : ∀ x ∈ o.op.operands, ∀ y, Opd.of x = some y → AV.Rep σ (imm ob σ) w (y.ev f) (a.eval x)) : Oper.does P o a w (Goes G w0 (applyU us ob) K' σ (imm ob σ) w v) := by
  have r1 := hf x (by simp [ho, Op.operands, Call.operands, hca]) x' h2
  have r2 := hf y (by simp [ho, Op.operands, Call.operands, hca]) y' h3
  obtain ⟨ht, inf, z, q1, q2, q4, q5, q3, q7, q8, q9⟩ := elemV_spec hel
  rw [hzt] at q3 q7 q8
  have hex : ∀ r w', (Builtin.append_ #[ty, ty] o.type #[a.eval x, a.eval y]).run P w = .ok r w' → (execOp a.eval o).run P w = .ok (.value r) w' := by
    intro r w' h
    simp [execOp, ho, resolve, hcb, hca, hct, invoke, builtin, h]
  unfold evAppV at he
  split at he
  · rename_i m ds hys
    obtain ⟨A, cp, ws, e2, hA, hsrc, hds, hwl, hw1⟩ := srcV_rep hys hob r2
    split at he
    · rename_i hx
      rw [hx] at r1
      have e1 : a.eval x = .slice none 0 0 := r1
      split at he
      · rename_i hc
        simp only [Option.some.injEq, Prod.mk.injEq] at he
        obtain ⟨_, rfl, rfl⟩ := he
        obtain ⟨l', w', hr, hs, hcase⟩ := append_runV (P := P) (rt := o.type) (w := w) (cs := []) (n := 0) (l := .nil) ht q1 q2 q3 q4 q7 q8 (fun _ _ _ e => by cases e) (base := w.heap.size) (ownsV_nil w _ e t.size) (ds := ws) (m := m) (cp := cp) hwl hw1 hA hsrc (by simpa using hc.1) (by simpa using hc.2)
        simp only [Nat.zero_add, List.nil_append] at hr hcase
        have hb : Below w.heap.size w w' ∧ ownsV w' w.heap.size e t.size (l'.val m) m ws := by
          rcases hcase with ⟨_, _, h, _⟩ | h
          · cases h
          · exact h
        exact Oper.does_value (hex _ _ (by rw [e1, e2]; exact hr)) (Goes.vec hm hK hi hi' rfl hb.1 hs hb.2 hds hw1)
      · cases he
    · rename_i j u0 off len hx
      rw [hx] at r1
      split at he
      · rename_i e' sz n cs hj
        split at he
        · rename_i hc
          obtain ⟨rfl, c2, rfl, rfl, c4, c5⟩ := hc
          simp only [Option.some.injEq, Prod.mk.injEq] at he
          obtain ⟨hk, rfl, rfl⟩ := he
          have hEE : obL = ob := hE hk.symm
          subst hEE
          have hsl : ∃ l, σ j = some l ∧ a.eval x = l.val len ∧ (l = .nil → len = 0) := by
            rcases r1 with ⟨g1, _, g3, g4⟩ | ⟨b, cap, g1, _, g4⟩ | ⟨_, _, g, _⟩
            rotate_left
            rotate_left
            · exact absurd rfl g
            · exact ⟨.nil, g1, g4, fun _ => g3⟩
            · exact ⟨.at_ b cap u0.size, g1, by simpa [Loc.val] using g4, fun h => by cases h⟩
          obtain ⟨l, g1, g2, g3⟩ := hsl
          obtain ⟨vs, hown, p2, p3, hs⟩ := hm.obs j _ _ hj g1
          have hvl := hown.1
          have hown' : ownsV w w0.heap.size e' t.size (l.val len) len (vs.take (len * t.size)) := hown.take c2 (fun g cap e => by
            cases l with
            | nil => cases e
            | at_ b c s => cases e; rfl) (fun e => by
            cases l with
            | nil => rfl
            | at_ b c s => cases e)
          have hown'' : ownsV w w0.heap.size e' t.size (l.val len) len (vs.take (len * t.size)) := hown'
          obtain ⟨l', w', hr, hs', hcase⟩ := append_runV (P := P) (rt := o.type) (w := w) (l := l) ht q1 q2 q3 q4 q7 q8 hs (base := w0.heap.size) hown'' (ds := ws) (m := m) (cp := cp) hwl hw1 hA hsrc c4 c5
          have hcells : AV.RepL σ (imm obL σ) w (cs.take (len * t.size) ++ ds) (vs.take (len * t.size) ++ ws) := (p2.take _).append hds
          have hone : ∀ v ∈ vs.take (len * t.size) ++ ws, v.oneCell' = true := fun v hv => by
            rcases List.mem_append.1 hv with hv | hv
            · exact p3 v (List.mem_of_mem_take hv)
            · exact hw1 v hv
          have hfr : σ (j.1, i.2) = none := Goes.fresh hm (i := (j.1, i.2)) hi
          refine Oper.does_value (hex _ _ (by rw [g2, e2]; exact hr)) ?_
          rcases hcase with ⟨b, c, rfl, rfl, hb, ho'⟩ | ⟨hb, ho'⟩
          · have hL := Later.swap (o' := .vec e' t.size (len + m) (cs.take (len * t.size) ++ ds)) (c' := c) (s' := t.size) hj g1 (.inr hfr) hb
            refine ⟨_, hL, hm.swap hj g1 (.inr hfr) hb hK hi' (hm.cap _ _ _ _ g1) ⟨_, ho', AV.RepL.later hL _ _ hcells, hone, hs'⟩, .inr (.inl ⟨b, c, upd_same _ _ _, ?_, by simp [Loc.val]⟩)⟩
            rcases ho'.2 with ⟨e1, _⟩ | ⟨_, _, _, e1, _, _, hc', _⟩
            · cases e1
            · cases e1; omega
          · have hg := Goes.vec (hm.kill j) hK (i := (j.1, i.2)) hi hi' (t := t) rfl hb hs' ho' (AV.RepL.later (Later.kill j) _ _ hcells) hone
            obtain ⟨σ', hL, hM, hR⟩ := hg
            exact ⟨σ', (Later.kill j).trans hL, hM, hR⟩
        · cases he
      · cases he
    · cases he
  · cases he
end
end Go.Proofs.YtefolocdfgelcaaDoor
