/- An abstract machine: literals of slices, and parts of slices and strings; conditions: the elements are flat. -/
import Derived.Test.YtefolocdfgelcaaDoorE8
namespace Go.Proofs.YtefolocdfgelcaaDoor
open Go.RowKit Go.Deep

theorem fold_set_get (off : Nat) : ∀ (us : List Value) (n : Nat) (cs : Array Value), off + n + us.length ≤ cs.size →
    ((us.zipIdx n).foldl (fun (cs : Array Value) (p : Value × Nat) => cs.setIfInBounds (off + p.2) p.1) cs).size = cs.size ∧
    ∀ j, ((us.zipIdx n).foldl (fun (cs : Array Value) (p : Value × Nat) => cs.setIfInBounds (off + p.2) p.1) cs)[j]? = if off + n ≤ j ∧ j < off + n + us.length then us[j - (off + n)]? else cs[j]?
  | [], n, cs, _ => by
    refine ⟨rfl, fun j => ?_⟩
    rw [if_neg (by simp)]
    rfl
  | u :: r, n, cs, h => by
    simp only [List.zipIdx_cons, List.foldl_cons]
    simp only [List.length_cons] at h
    obtain ⟨h1, h2⟩ := fold_set_get off r (n + 1) (cs.setIfInBounds (off + n) u) (by rw [Array.size_setIfInBounds]; omega)
    refine ⟨by rw [h1, Array.size_setIfInBounds], fun j => ?_⟩
    rw [h2 j]
    by_cases e : j = off + n
    · subst e
      rw [if_neg (by omega), if_pos (by simp only [List.length_cons]; omega), Nat.sub_self]
      simp [Array.getElem?_setIfInBounds]
      omega
    · by_cases hin : off + (n + 1) ≤ j ∧ j < off + (n + 1) + r.length
      · rw [if_pos hin, if_pos (by simp only [List.length_cons]; omega)]
        rw [show j - (off + n) = (j - (off + (n + 1))) + 1 by omega, List.getElem?_cons_succ]
      · rw [if_neg hin, if_neg (by simp only [List.length_cons]; omega)]
        rw [Array.getElem?_setIfInBounds_ne (by omega)]

theorem fill_get {t : Ty} (hfl : t.flat = true) : ∀ (ys : List t.D) (ps : List (Nat × Value)) (k : Nat) (cells : Array Value), ps.length = ys.length →
    (∀ (i : Nat) (p : Nat × Value) (y : t.D), ps[i]? = some p → ys[i]? = some y → p.1 = k + i ∧ p.2.cells.toList = t.enc y) → (k + ys.length) * t.size ≤ cells.size →
    ∃ cs, Instr.fill (fun i => some (i * t.size, t.size)) cells ps = some cs ∧ cs.size = cells.size ∧ ∀ j, cs[j]? = if k * t.size ≤ j ∧ j < (k + ys.length) * t.size then (t.cells ys)[j - k * t.size]? else cells[j]?
  | [], [], k, cells, _, _, _ => ⟨cells, rfl, rfl, fun j => by rw [if_neg (by simp)]⟩
  | [], _ :: _, _, _, h, _, _ => by simp at h
  | _ :: _, [], _, _, h, _, _ => by simp at h
  | y :: ys, p :: ps, k, cells, hl, hp, hs => by
    obtain ⟨i, v⟩ := p
    obtain ⟨e1, e2⟩ := hp 0 (i, v) y (by simp) (by simp)
    simp only [Nat.add_zero] at e1
    subst e1
    have hv : v.cells.size = t.size := by rw [← Array.length_toList, e2, Ty.enc_length y hfl]
    simp only [List.length_cons] at hs
    have hmul : (i + (ys.length + 1)) * t.size = i * t.size + t.size + ys.length * t.size := by rw [Nat.add_mul, Nat.succ_mul]; omega
    have hsz : i * t.size + v.cells.size ≤ cells.size := by rw [hv]; omega
    have hf := fold_set_get (i * t.size) v.cells.toList 0 cells (by rw [Array.length_toList]; omega)
    rw [← Array.toList_zipIdx, Array.foldl_toList] at hf
    obtain ⟨g1, g2⟩ := hf
    obtain ⟨cs, h1, h2, h3⟩ := fill_get hfl ys ps (i + 1) _ (by simpa using hl) (fun j q z hq hz => by
      have := hp (j + 1) q z (by simpa using hq) (by simpa using hz)
      exact ⟨by omega, this.2⟩) (by rw [g1, show i + 1 + ys.length = i + (ys.length + 1) by omega]; exact hs)
    refine ⟨cs, ?_, by rw [h2, g1], fun j => ?_⟩
    · simp only [Instr.fill]
      rw [if_neg (by simp [hv]; omega)]
      exact h1
    · have h1m : (i + 1) * t.size = i * t.size + t.size := Nat.succ_mul _ _
      have h2m : (i + 1 + ys.length) * t.size = i * t.size + t.size + ys.length * t.size := by rw [Nat.add_mul, h1m]
      have ec : t.cells (y :: ys) = t.enc y ++ t.cells ys := by simp [Ty.cells]
      rw [h3 j, h1m, h2m, List.length_cons, hmul, ec]
      have hel := Ty.enc_length y hfl
      by_cases c1 : i * t.size + t.size ≤ j
      · by_cases c2 : j < i * t.size + t.size + ys.length * t.size
        · rw [if_pos ⟨c1, c2⟩, if_pos ⟨by omega, c2⟩, List.getElem?_append_right (by omega), hel, Nat.sub_sub]
        · rw [if_neg (by omega), if_neg (by omega), g2 j, if_neg (by rw [Array.length_toList]; omega)]
      · rw [if_neg (by omega), g2 j]
        by_cases c3 : i * t.size ≤ j
        · rw [if_pos (by rw [Array.length_toList]; omega), if_pos (by omega), List.getElem?_append_left (by omega), e2, Nat.add_zero]
        · rw [if_neg (by omega), if_neg (by omega)]

section
variable {P : Program} {G : World → Prop} {w0 w w' : World} {ob : Oid → Option Ob} {σ : Oid → Option Loc} {K K' : Nat → Prop} {im : Nat → Prop}

theorem mkElems_rep {f : Nat → AV} {a : Act} {t : Ty} (hfl : t.flat = true) : ∀ {xs : List Operand} {zs : List Opd} {ys : List t.D}, Opd.ofL xs = some zs → mkElems f t zs = some ys → (∀ x ∈ xs, ∀ y, Opd.of x = some y → AV.Rep σ im w (y.ev f) (a.eval x)) →
    xs.length = ys.length ∧ ∀ (i : Nat) (x : Operand) (y : t.D), xs[i]? = some x → ys[i]? = some y → (a.eval x).cells.toList = t.enc y
  | [], zs, ys, h, he, _ => by
    obtain rfl : [] = zs := Option.some.inj h
    obtain rfl : [] = ys := Option.some.inj he
    exact ⟨rfl, fun i x y h => by simp at h⟩
  | x :: xs, zs, ys, h, he, hf => by
    simp only [Opd.ofL] at h
    split at h
    · rename_i z zs' h1 h2
      obtain rfl := Option.some.inj h
      simp only [mkElems] at he
      split at he
      · rename_i y ys' h3 h4
        obtain rfl := Option.some.inj he
        obtain ⟨q1, q2⟩ := mkElems_rep hfl h2 h4 (fun u hu => hf u (by simp [hu]))
        refine ⟨by simp [q1], fun i u v hu hv => ?_⟩
        cases i with
        | zero =>
          simp at hu hv
          subst hu hv
          have r := hf x (by simp) z h1
          split at h3
          · rename_i cs hcs
            rw [hcs] at r
            obtain ⟨vs, e, hr⟩ := r
            rw [e]
            simpa [Value.cells] using Ty.ofAV_enc hfl hr h3
          · rename_i c hne
            have := Ty.ofAV_enc (σ := σ) (im := im) (w := w) (vs := [a.eval x]) hfl (show AV.RepL σ im w [_] [a.eval x] from ⟨_, _, rfl, r, rfl⟩) h3
            have hone : (a.eval x).oneCell' = true := by
              have h1' := Ty.enc_one y
              rw [← this] at h1'
              exact h1' _ (by simp)
            rw [← this]
            cases hq : a.eval x <;> first | rfl | (rw [hq] at hone; cases hone)
        | succ i =>
          exact q2 i u v (by simpa using hu) (by simpa using hv)
      · cases he
    · cases h

theorem evMkS_does {o : Oper} {a : Act} {f : Nat → AV} {i : Oid} {v : AV} {us : List (Oid × Option Ob)} {ty e : TypeId} {t : Ty} {bytes n : Nat} {parts : Array (Nat × Operand)} {zs : List Opd} (ho : o.op = .buildSlice ty n parts) (ht : P.underlying ty = some (.slice e)) (hel : elemB P e t bytes = true)
    (hp : parts.toList.map (·.1) = List.range n) (h2 : Opd.ofL (parts.toList.map (·.2)) = some zs) (hn : n * t.size ≤ 16777216)
    (he : evMkS f i e t zs = some (v, us)) (hm : Mem0 G w0 ob σ K w) (hK : ∀ n, K n → K' n) (hi : ¬ K i.2) (hi' : K' i.2)
    (hf : ∀ x ∈ o.op.operands, ∀ y, Opd.of x = some y → AV.Rep σ (imm ob σ) w (y.ev f) (a.eval x)) : Oper.does P o a w (Goes G w0 (applyU us ob) K' σ (imm ob σ) w v) := by
  obtain ⟨inf, z, q1, q2, q3, q4, q5, q6, q7, q8⟩ := elemB_spec hel
  unfold evMkS at he
  split at he
  · rename_i ys hys
    obtain ⟨rfl, rfl⟩ := Prod.mk.inj (Option.some.inj he)
    have hops : o.op.operands = (parts.toList.map (·.2)).toArray := by rw [ho]; rfl
    obtain ⟨hlen, hc⟩ := mkElems_rep q5 h2 hys (fun x hx => hf x (by rw [hops]; simpa using hx))
    have hpn : parts.size = n := by
      have := congrArg List.length hp
      simpa using this
    have hyn : ys.length = n := by rw [← hlen]; simpa using hpn
    have hfill : ∀ cells : Array Value, cells.size = n * t.size → Instr.fill (fun i => some (i * t.size, t.size)) cells (parts.toList.map fun x => (x.1, a.eval x.2)) = some (t.cells ys).toArray := by
      intro cells hcells
      obtain ⟨cs, g1, g2, g3⟩ := fill_get q5 ys (parts.toList.map fun x => (x.1, a.eval x.2)) 0 cells (by simp [hpn, hyn]) (fun j p y hp1 hy => by
        rw [List.getElem?_map] at hp1
        obtain ⟨q, hq, rfl⟩ := Option.map_eq_some_iff.1 hp1
        have hj := (List.getElem?_eq_some_iff.1 hq).1
        have e1 : (parts.toList.map (·.1))[j]? = some q.1 := by rw [List.getElem?_map, hq]; rfl
        rw [hp, List.getElem?_range (by simpa [hpn] using hj)] at e1
        refine ⟨by simpa using (Option.some.inj e1).symm, hc j q.2 y (by rw [List.getElem?_map, hq]; rfl) hy⟩) (by rw [hcells, Nat.zero_add, hyn]; exact Nat.le_refl _)
      rw [g1]
      congr 1
      apply Array.ext'
      apply List.ext_getElem?
      intro j
      have := g3 j
      simp only [Nat.zero_mul, Nat.zero_le, true_and, Nat.zero_add, Nat.sub_zero] at this
      rw [Array.getElem?_toList, this]
      split
      · rfl
      · rename_i hge
        rw [List.getElem?_eq_none (by rw [Ty.cells_length q5]; omega), Array.getElem?_eq_none (by rw [hcells, ← hyn]; omega)]
    have hrun : (execOp a.eval o).run P w = .ok (.value (.slice (some ⟨w.heap.size, 0, none⟩) n n)) (w.alloc (.cells (t.cells ys).toArray e)) := by
      have hle : ¬ (16777216 < n * t.size) := by omega
      by_cases h0 : n * t.size = 0
      · simp [execOp, ho, Instr.buildSlice, run_underlying ht, sizeOf, typeInfo, q1, q3, h0, newRow]
        rw [hfill _ (by simp [h0])]
        simp
      · simp [execOp, ho, Instr.buildSlice, run_underlying ht, sizeOf, typeInfo, q1, q2, q3, h0, hle, newRow, zeroValue]
        rw [hfill _ (by simp)]
        simp
    have hg := Goes.row (w' := w.alloc (.cells (t.cells ys).toArray e)) hm hK hi hi' (e := e) (xs := ys) q5 ((Below.refl _ _).alloc (Nat.le_refl _) _) (l := .at_ w.heap.size n t.size) (fun b c s h => by cases h; rfl) (by
        rw [hyn]
        exact ⟨by rw [Ty.cells_length q5, hyn], .inr ⟨w.heap.size, n, (t.cells ys).toArray, rfl, Nat.le_refl _, by show (w.heap.push _)[w.heap.size]? = _; simp, Nat.le_refl _, by
          have : n ≤ n * t.size := Nat.le_mul_of_pos_right _ q7
          simp only [maxLen]; omega, by simp [Ty.cells_length q5, hyn], by rw [List.take_of_length_le (by simp [Ty.cells_length q5, hyn])]⟩⟩)
    rw [hyn] at hg ⊢
    exact Oper.does_value hrun hg
  · cases he

def optOf : Option Operand → Option (Option Opd)
  | none => some none
  | some x => (Opd.of x).map some

theorem bound_run {f : Nat → AV} {a : Act} {x : Operand} {y : Opd} {m n : Int} {d b : Nat} {code : BoundsCode} (hr : AV.Rep σ im w (y.ev f) (a.eval x)) (h : optInt f d (some y) = some n) (h0 : 0 ≤ n) (hb : n ≤ b) (_ : m = m) :
    (Instr.sliceBound (a.eval x) b code).run P w = .ok n.toNat w := by
  simp only [optInt] at h
  split at h
  · rename_i k n' hy
    obtain rfl := Option.some.inj h
    rw [hy] at hr
    have e : a.eval x = .int k n' := hr
    simp [Instr.sliceBound, e, asIntOf, h0, hb]
  · cases h

/-- The bounds of a part. -/
theorem bounds_run {f : Nat → AV} {a : Act} {lo hi mx : Option Operand} {lo' hi' mx' : Option Opd} (h1 : optOf lo = some lo') (h2 : optOf hi = some hi') (h3 : optOf mx = some mx') (hmh : mx ≠ none → hi ≠ none)
    (hf : ∀ x, lo = some x ∨ hi = some x ∨ mx = some x → ∀ y, Opd.of x = some y → AV.Rep σ im w (y.ev f) (a.eval x)) {len cap : Nat} {isS : Bool} {l h m : Int} (e1 : optInt f 0 lo' = some l) (e2 : optInt f len hi' = some h) (e3 : mx' = none ∧ m = cap ∨ mx' ≠ none ∧ optInt f len mx' = some m)
    (b : 0 ≤ l ∧ l ≤ h ∧ h ≤ m ∧ m ≤ cap) (hlc : len ≤ cap) :
    (Instr.sliceBounds isS len cap (lo.map a.eval) (hi.map a.eval) (mx.map a.eval)).run P w = .ok (l.toNat, h.toNat, m.toNat) w := by
  obtain ⟨b1, b2, b3, b4⟩ := b
  have one : ∀ {z : Option Operand} {z' : Option Opd} {n : Int} {d bd : Nat} {code : BoundsCode} {x : Operand}, z = some x → optOf z = some z' → (lo = some x ∨ hi = some x ∨ mx = some x) → optInt f d z' = some n → 0 ≤ n → n ≤ bd → (Instr.sliceBound (a.eval x) bd code).run P w = .ok n.toNat w := by
    intro z z' n d bd code x hz ho hx hn h0 hb
    subst hz
    obtain ⟨y, hy, rfl⟩ := Option.map_eq_some_iff.1 ho
    exact bound_run (m := 0) (hf x hx y hy) hn h0 hb rfl
  cases mx with
  | none =>
    obtain rfl : none = mx' := Option.some.inj h3
    have hm : m = cap := by
      rcases e3 with ⟨_, h⟩ | ⟨h, _⟩
      · exact h
      · exact absurd rfl h
    subst hm
    cases hi with
    | none =>
      obtain rfl : none = hi' := Option.some.inj h2
      obtain rfl : (len : Int) = h := Option.some.inj e2
      cases lo with
      | none =>
        obtain rfl : none = lo' := Option.some.inj h1
        obtain rfl : ((0 : Nat) : Int) = l := Option.some.inj e1
        simp [Instr.sliceBounds]
      | some x =>
        have := one (code := .sliceB) (bd := len) rfl h1 (.inl rfl) e1 b1 (by omega)
        simp [Instr.sliceBounds, this]
    | some y =>
      have hy := one (code := if isS then .sliceAcap else .sliceAlen) (bd := cap) rfl h2 (.inr (.inl rfl)) e2 (by omega) (by omega)
      cases lo with
      | none =>
        obtain rfl : none = lo' := Option.some.inj h1
        obtain rfl : ((0 : Nat) : Int) = l := Option.some.inj e1
        simp [Instr.sliceBounds, hy]
      | some x =>
        have := one (code := .sliceB) (bd := h.toNat) rfl h1 (.inl rfl) e1 b1 (by omega)
        simp [Instr.sliceBounds, this, hy]
  | some z =>
    have hz : optInt f len mx' = some m := by
      rcases e3 with ⟨rfl, _⟩ | ⟨_, e3⟩
      · obtain ⟨_, _, h⟩ := Option.map_eq_some_iff.1 h3; cases h
      · exact e3
    have hzz := one (code := if isS then .slice3Acap else .slice3Alen) (bd := cap) rfl h3 (.inr (.inr rfl)) hz (by omega) b4
    cases hi with
    | none => exact absurd rfl (hmh (by simp))
    | some y =>
      have hy := one (code := .slice3B) (bd := m.toNat) rfl h2 (.inr (.inl rfl)) e2 (by omega) (by omega)
      cases lo with
      | none =>
        obtain rfl : none = lo' := Option.some.inj h1
        obtain rfl : ((0 : Nat) : Int) = l := Option.some.inj e1
        simp [Instr.sliceBounds, hy, hzz]
      | some x =>
        have := one (code := .slice3C) (bd := h.toNat) rfl h1 (.inl rfl) e1 b1 (by omega)
        simp [Instr.sliceBounds, this, hy, hzz]

theorem evSlice_does {o : Oper} {a : Act} {f : Nat → AV} {v : AV} {ty : TypeId} {sz : Nat} {x : Operand} {x' : Opd} {lo hi mx : Option Operand} {lo' hi' mx' : Option Opd} (ho : o.op = .slice ty x lo hi mx) (ht : elemSize P ty = some sz) (h0 : Opd.of x = some x') (h1 : optOf lo = some lo') (h2 : optOf hi = some hi') (h3 : optOf mx = some mx') (hmh : mx ≠ none → hi ≠ none)
    (he : evSlice f sz x' lo' hi' mx' = some v) (hm : Mem0 G w0 ob σ K w) (hK : ∀ n, K n → K' n)
    (hf : ∀ x ∈ o.op.operands, ∀ y, Opd.of x = some y → AV.Rep σ (imm ob σ) w (y.ev f) (a.eval x)) : Oper.does P o a w (Goes G w0 ob K' σ (imm ob σ) w v) := by
  have r1 := un_rep (hf x (by simp [ho, Op.operands]) x' h0)
  have hf' : ∀ z, lo = some z ∨ hi = some z ∨ mx = some z → ∀ y, Opd.of z = some y → AV.Rep σ (imm ob σ) w (y.ev f) (a.eval z) := by
    intro z hz y hy
    refine hf z ?_ y hy
    simp only [ho, Op.operands]
    rcases hz with rfl | rfl | rfl <;> simp
  have hel : ∃ e i, P.underlying ty = some (.slice e) ∧ P.info? e = some i ∧ i.size = sz := by
    unfold elemSize at ht
    split at ht
    · obtain ⟨i, hi, rfl⟩ := Option.map_eq_some_iff.1 ht
      exact ⟨_, i, by assumption, hi, rfl⟩
    · cases ht
  obtain ⟨e, inf, hu, hinf, hsz⟩ := hel
  have run : ∀ (A : Option Addr) (len cap l h m : Nat), a.eval x = .slice A len cap → (Instr.sliceBounds true len cap (lo.map a.eval) (hi.map a.eval) (mx.map a.eval)).run P w = .ok (l, h, m) w →
      (execOp a.eval o).run P w = .ok (.value (.slice (if m = l then A else A.map (·.add (l * sz))) (h - l) (m - l))) w := by
    intro A len cap l h m ex hb
    simp [execOp, ho, Instr.sliceAt, run_underlying hu, Instr.slice, ex, hb, sizeOf, typeInfo, hinf, hsz]
  unfold evSlice at he
  split at he
  · rename_i t xs hx
    rw [hx] at r1
    obtain ⟨A, cp, ls, e1, hs⟩ := r1
    split at he
    · rename_i l h m q1 q2 q3
      split at he
      · rename_i hc
        obtain ⟨c0, c1, c2, c3, c4⟩ := hc
        obtain rfl := Option.some.inj he
        have hlc := hs.1
        obtain ⟨m', hb, hm1, hm2⟩ : ∃ m' : Nat, (Instr.sliceBounds true xs.length cp (lo.map a.eval) (hi.map a.eval) (mx.map a.eval)).run P w = .ok (l.toNat, h.toNat, m') w ∧ h.toNat ≤ m' ∧ m' ≤ cp := by
          cases hmx : mx' with
          | none =>
            refine ⟨cp, ?_, by omega, Nat.le_refl _⟩
            exact bounds_run (m := (cp : Int)) h1 h2 h3 hmh hf' q1 q2 (.inl ⟨hmx, rfl⟩) ⟨c1, c2, by omega, Int.le_refl _⟩ hlc
          | some z =>
            refine ⟨m.toNat, ?_, by omega, by omega⟩
            exact bounds_run h1 h2 h3 hmh hf' q1 q2 (.inr ⟨by rw [hmx]; simp, q3⟩) ⟨c1, c2, c3, by omega⟩ hlc
        refine Oper.does_value (run A _ _ _ _ _ e1 hb) (Goes.same hm hK ?_)
        have hlen : ((xs.take h.toNat).drop l.toNat).length = h.toNat - l.toNat := by
          rw [List.length_drop, List.length_take, Nat.min_eq_left (by omega)]
        obtain ⟨_, d2, g, _, hg⟩ := hs
        refine ⟨_, m' - l.toNat, (List.range (h.toNat - l.toNat)).flatMap fun i => g (l.toNat + i), by rw [hlen], by rw [hlen]; omega, by omega, fun i => g (l.toNat + i), by rw [hlen], fun hp => ?_⟩
        rw [hlen] at hp
        obtain ⟨ad, rfl, hr, hmem⟩ := hg (by omega)
        refine ⟨ad.add (l.toNat * sz), by rw [if_neg (by omega)]; rfl, by rw [block_of_add]; exact hr, fun i hi => ?_⟩
        rw [hlen] at hi
        have := hmem (l.toNat + i) (by omega)
        rw [add_of_add, ← c0, ← Nat.add_mul]
        have hget : ((xs.take h.toNat).drop l.toNat)[i]'(by rw [hlen]; exact hi) = xs[l.toNat + i]'(by omega) := by
          rw [List.getElem_drop, List.getElem_take]
        rw [hget]
        exact this
      · cases he
    · cases he
  · rename_i i t off len hx
    rw [hx] at r1
    split at he
    · rename_i l h q1 q2
      have hmx : mx = none := by
        cases mx with
        | none => rfl
        | some z => obtain ⟨_, _, h⟩ := Option.map_eq_some_iff.1 h3; cases h
      split at he
      · rename_i hc
        obtain ⟨c0, c1, c2, c3⟩ := hc
        rcases r1 with ⟨g1, rfl, rfl, g4⟩ | ⟨b, cap, g1, g2, g3⟩ | ⟨lc, g1, g2, g3, A, cc, g4, g5⟩
        rotate_left
        rotate_left
        · have hl0 : l = 0 := by omega
          have hh0 : h = 0 := by omega
          subst hl0 hh0 g3
          have hb := bounds_run (P := P) (isS := true) (len := 0) (cap := cc) (m := (cc : Int)) h1 h2 h3 hmh hf' q1 q2 (.inl ⟨rfl, rfl⟩) ⟨c1, c2, by omega, Int.le_refl _⟩ (Nat.zero_le _)
          obtain rfl := Option.some.inj he
          refine Oper.does_value (run _ _ _ _ _ _ g4 hb) (Goes.same hm hK (.inr (.inr ⟨lc, g1, by omega, rfl, _, _, rfl, by omega⟩)))
        · have hb := bounds_run (P := P) (isS := true) (len := 0) (cap := 0) (m := 0) h1 h2 h3 hmh hf' q1 q2 (.inl ⟨rfl, rfl⟩) ⟨c1, c2, by omega, by omega⟩ (Nat.le_refl _)
          have hl0 : l = 0 := by omega
          have hh0 : h = 0 := by omega
          subst hl0 hh0
          obtain rfl := Option.some.inj he
          exact Oper.does_value (run none _ _ _ _ _ g4 hb) (Goes.same hm hK (.inl ⟨g1, rfl, rfl, by simp⟩))
        · have hb := bounds_run (P := P) (isS := true) (len := len) (cap := cap - off) (m := ((cap - off : Nat) : Int)) h1 h2 h3 hmh hf' q1 q2 (.inl ⟨rfl, rfl⟩) ⟨c1, c2, by omega, Int.le_refl _⟩ (by omega)
          have hrun := run _ _ _ _ _ _ g3 hb
          by_cases hlt : l = 0 ∨ l < h
          · obtain rfl := Option.some.inj he
            refine Oper.does_value hrun (Goes.same hm hK (.inr (.inl ⟨b, cap, g1, by omega, ?_⟩)))
            rw [Int.toNat_natCast]
            have hA : (if cap - off = l.toNat then some (⟨b, off * t.size, none⟩ : Addr) else (some ⟨b, off * t.size, none⟩ : Option Addr).map (·.add (l.toNat * sz))) = some ⟨b, (off + l.toNat) * t.size, none⟩ := by
              by_cases hl0 : l = 0
              · subst hl0
                split
                · simp
                · simp [add_mk]
              · rw [if_neg (by omega)]
                simp only [Option.map_some, add_mk, Nat.add_mul, c0]
            rw [hA]
            congr 1
            · omega
            · omega
          · obtain rfl := Option.some.inj he
            have hcap := hm.cap _ _ _ _ g1
            have h00 : h.toNat - l.toNat = 0 := by omega
            refine Oper.does_value hrun (Goes.same hm hK (.inr (.inr ⟨_, g1, by omega, by omega, ?_⟩)))
            rw [h00]
            exact ⟨_, _, rfl, by omega⟩
      · cases he
    · cases he
  · cases he

theorem evSub_does {o : Oper} {a : Act} {f : Nat → AV} {v : AV} {ty : TypeId} {x : Operand} {x' : Opd} {lo hi : Option Operand} {lo' hi' : Option Opd} (ho : o.op = .slice ty x lo hi none) (ht : P.underlying ty = some .string) (h0 : Opd.of x = some x') (h1 : optOf lo = some lo') (h2 : optOf hi = some hi')
    (he : evSub f x' lo' hi' = some v) (hm : Mem0 G w0 ob σ K w) (hK : ∀ n, K n → K' n)
    (hf : ∀ x ∈ o.op.operands, ∀ y, Opd.of x = some y → AV.Rep σ (imm ob σ) w (y.ev f) (a.eval x)) : Oper.does P o a w (Goes G w0 ob K' σ (imm ob σ) w v) := by
  have r1 := hf x (by simp [ho, Op.operands]) x' h0
  have hf' : ∀ z, lo = some z ∨ hi = some z ∨ none = some z → ∀ y, Opd.of z = some y → AV.Rep σ (imm ob σ) w (y.ev f) (a.eval z) := by
    intro z hz y hy
    refine hf z ?_ y hy
    simp only [ho, Op.operands]
    rcases hz with rfl | rfl | h
    · simp
    · simp
    · cases h
  unfold evSub at he
  split at he
  · rename_i s hx
    rw [hx] at r1
    have e1 : a.eval x = .string s := r1
    split at he
    · rename_i l h q1 q2
      split at he
      · rename_i hc
        obtain rfl := Option.some.inj he
        have hb := bounds_run (P := P) (isS := false) (len := s.size) (cap := s.size) (m := (s.size : Int)) h1 h2 (show optOf none = some none from rfl) (fun h => absurd rfl h) hf' q1 q2 (.inl ⟨rfl, rfl⟩) ⟨hc.1, hc.2.1, hc.2.2, Int.le_refl _⟩ (Nat.le_refl _)
        refine Oper.does_value ?_ (Goes.same hm hK (show AV.Rep σ (imm ob σ) w (.str (s.extract l.toNat h.toNat)) (.string (s.extract l.toNat h.toNat)) from rfl))
        simp only [Option.map_none] at hb
        simp [execOp, ho, Instr.sliceAt, run_underlying ht, Instr.slice, e1, hb]
      · cases he
    · cases he
  · cases he
end
end Go.Proofs.YtefolocdfgelcaaDoor
