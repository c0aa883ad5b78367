/- An abstract machine: stores into objects; no condition. -/
import Derived.Test.YtefolocdfgelcaaDoorE5
namespace Go.Proofs.YtefolocdfgelcaaDoor
open Go.RowKit Go.Deep

theorem upd_upd {ι α : Type} [DecidableEq ι] (f : ι → α) (i : ι) (a b : α) : upd (upd f i a) i b = upd f i b := by
  funext j; unfold upd; split <;> rfl
theorem upd_self {ι α : Type} [DecidableEq ι] (f : ι → α) (i : ι) (a : α) (h : f i = a) : upd f i a = f := by
  funext j; unfold upd; split <;> simp_all

section
variable {P : Program} {G : World → Prop} {w0 w w' : World} {ob : Oid → Option Ob} {σ : Oid → Option Loc} {K K' : Nat → Prop} {im : Nat → Prop}

theorem Only.setRow (w : World) (g : Nat) (cs : Array Value) : Only g w (w.setRow g cs) := ⟨rfl, rfl, rfl, by simp, fun k _ hk => setRow_other w g k cs hk⟩

/-- What a store does to a row: the cells of the value take the place of as many. -/
theorem st_run {t : TypeId} {one : Bool} {m : Nat} (ht : isOne P t = some (one, m)) {g k : Nat} {cur : List Value} {e : TypeId} (hg : w.heap[g]? = some (.cells cur.toArray e (0, 0))) {v : Value} {vs : List Value}
    (hv : v.cells = vs.toArray) (hm : vs.length = m) (hk : k + m ≤ cur.length) (h1 : ∀ u ∈ vs, u.oneCell' = true) :
    (Instr.storeAt t (.pointer (some ⟨g, k, none⟩)) v).run P w = .ok () (w.setRow g (cur.take k ++ (vs ++ cur.drop (k + m))).toArray) := by
  have hi : ∃ i, P.info? t = some i ∧ i.size = m := by
    unfold isOne at ht
    split at ht
    · simp at ht; exact ⟨_, by assumption, ht.2⟩
    · simp at ht; exact ⟨_, by assumption, ht.2⟩
    · split at ht
      · simp at ht; exact ⟨_, by assumption, by omega⟩
      · cases ht
    · cases ht
  obtain ⟨i, hi, hsz⟩ := hi
  have hs := run_storeCells_at P g k e vs 0 cur.toArray w hg (by simp; omega) h1
  simp only [Nat.add_zero, List.append_assoc] at hs
  simp [Instr.storeAt, Instr.sureAddr, storeVar, hv, sizeOf, typeInfo, hi, hsz, hm, hs]

theorem stCells_rep {one : Bool} {m k : Nat} {cs ds : List AV} {v : AV} {u : Value} {vs : List Value} (h : stCells one m k cs v = some ds) (hm : one = true → m = 1) (hv : AV.Rep σ im w v u) (hr : AV.RepL σ im w cs vs) :
    ∃ us : List Value, u.cells = us.toArray ∧ us.length = m ∧ k + m ≤ vs.length ∧ (∀ x ∈ us, x.oneCell' = true) ∧ AV.RepL σ im w ds (vs.take k ++ (us ++ vs.drop (k + m))) := by
  unfold stCells at h
  split at h
  · rename_i ho
    split at h
    · rename_i hc
      obtain rfl := Option.some.inj h
      obtain ⟨hk, h1⟩ := hc
      have hu := AV.one_rep h1 hv
      have hm1 := hm ho
      subst hm1
      have hl := hr.length
      refine ⟨[u], ?_, rfl, by omega, by simpa using hu, ?_⟩
      · cases u <;> first | rfl | cases hu
      · have := hr.set (k := k) hv
        rw [List.set_eq_take_append_cons_drop] at this
        rw [List.set_eq_take_append_cons_drop] at this
        rw [if_pos (by omega), if_pos (by omega)] at this
        rw [List.set_eq_take_append_cons_drop, if_pos (by omega)]
        exact this
    · cases h
  · split at h
    · rename_i ds'
      split at h
      · rename_i hc
        obtain rfl := Option.some.inj h
        obtain ⟨h1, h2, h3⟩ := hc
        obtain ⟨us, e, hl⟩ := hv
        subst e
        refine ⟨us, rfl, by rw [hl.length]; exact h1, by rw [hr.length]; exact h2, AV.one_repL h3 hl, (hr.take k).append (hl.append (hr.drop _))⟩
      · cases h
    · cases h

theorem Ty.cells_set {t : Ty} (hfl : t.flat = true) : ∀ (xs : List t.D) (i : Nat) (y : t.D) (hi : i < xs.length), t.cells (xs.set i y) = (t.cells xs).take (i * t.size) ++ (t.enc y ++ (t.cells xs).drop ((i + 1) * t.size))
  | [], i, _, h => absurd h (by simp)
  | x :: r, 0, y, _ => by
    have h1 : (t.cells (x :: r)).drop ((0 + 1) * t.size) = t.cells r := by
      simp only [Ty.cells, List.flatMap_cons, Nat.zero_add, Nat.one_mul]
      rw [List.drop_left' (Ty.enc_length x hfl)]
    rw [h1]
    simp [Ty.cells]
  | x :: r, i + 1, y, h => by
    have ih := Ty.cells_set hfl r i y (by simpa using h)
    have hx := Ty.enc_length x hfl
    have e1 : t.cells (x :: r) = t.enc x ++ t.cells r := by simp [Ty.cells]
    have e2 : t.cells ((x :: r).set (i + 1) y) = t.enc x ++ t.cells (r.set i y) := by simp [Ty.cells]
    have a1 : (t.enc x ++ t.cells r).take ((i + 1) * t.size) = t.enc x ++ (t.cells r).take (i * t.size) := by
      rw [Nat.succ_mul, List.take_append, hx, List.take_of_length_le (by omega), Nat.add_sub_cancel]
    have a2 : (t.enc x ++ t.cells r).drop ((i + 1 + 1) * t.size) = (t.cells r).drop ((i + 1) * t.size) := by
      rw [Nat.succ_mul (i + 1), List.drop_append, hx, List.drop_of_length_le (by omega), List.nil_append, Nat.add_sub_cancel]
    rw [e1, e2, ih, a1, a2, List.append_assoc]

/-- A segment of a list within a segment. -/
theorem seg_set {α : Type} (L us : List α) (A s k m N : Nat) (hm : us.length = m) (hk : k + m ≤ s) (hN : A + s ≤ N) (hL : N ≤ L.length) :
    (L.take (A + k) ++ (us ++ L.drop (A + k + m))).take N = (L.take N).take A ++ (((((L.take N).drop A).take s).take k ++ (us ++ (((L.take N).drop A).take s).drop (k + m))) ++ (L.take N).drop (A + s)) := by
  apply List.ext_getElem?
  intro j
  simp only [List.getElem?_append, List.getElem?_take, List.getElem?_drop, List.length_append, List.length_take, List.length_drop, hm]
  repeat' split
  all_goals first | rfl | (exfalso; omega) | (congr 1; omega) | (rw [List.getElem?_eq_none (by omega)])
/-- The cells of a row whose element i has changed from x to y, at the cells from k on. -/
theorem own_set {e : TypeId} {t : Ty} {xs : List t.D} {b cap base i k m : Nat} {x y : t.D} {us : List Value} (hfl : t.flat = true) (hx : xs[i]? = some x)
    (h : ownsV w base e t.size (.slice (some ⟨b, 0, none⟩) xs.length cap) xs.length (t.cells xs)) (hm : us.length = m) (hk : k + m ≤ t.size) (hy : t.enc y = (t.enc x).take k ++ (us ++ (t.enc x).drop (k + m))) :
    ∃ cur : List Value, w.heap[b]? = some (.cells cur.toArray e (0, 0)) ∧ i * t.size + k + m ≤ cur.length ∧
      ownsV (w.setRow b (cur.take (i * t.size + k) ++ (us ++ cur.drop (i * t.size + k + m))).toArray) base e t.size (.slice (some ⟨b, 0, none⟩) xs.length cap) xs.length (t.cells (xs.set i y)) := by
  obtain ⟨hlt, rfl⟩ := List.getElem?_eq_some_iff.1 hx
  rcases h.2 with ⟨h0, _⟩ | ⟨g, cap', cur, e1, hb, hg, hnc, hcm, hcs, ht⟩
  · cases h0
  · cases e1
    have hin : i * t.size + t.size ≤ xs.length * t.size := by
      rw [← Nat.succ_mul]; exact Nat.mul_le_mul_right _ hlt
    have hcap : xs.length * t.size ≤ cap * t.size := Nat.mul_le_mul_right _ hnc
    have hcl : cap * t.size ≤ cur.toList.length := by simpa using hcs
    have hcl' : cur.toList.length = cur.size := Array.length_toList ..
    refine ⟨cur.toList, by simpa using hg, by omega, ?_, .inr ⟨b, cap, _, rfl, hb, setRow_heap w b cur _ e _ hg, hnc, hcm, ?_, ?_⟩⟩
    · rw [Ty.cells_length hfl, List.length_set]
    · simp only [List.size_toArray, List.length_append, List.length_take, List.length_drop, hm]; omega
    · have hcells := Ty.cells_set hfl xs i y hlt
      rw [hcells, hy, ← ht]
      have hxe : t.enc xs[i] = ((cur.toList.take (xs.length * t.size)).drop (i * t.size)).take t.size := by
        apply List.ext_getElem?
        intro j
        rw [List.getElem?_take]
        split
        · rename_i hj
          rw [List.getElem?_drop, ht, Ty.cells_get hfl xs i hlt j hj]
        · rw [List.getElem?_eq_none (by rw [Ty.enc_length _ hfl]; omega)]
      rw [hxe]
      have := seg_set cur.toList us (i * t.size) t.size k m (xs.length * t.size) hm hk hin (by omega)
      rw [Nat.succ_mul i]
      exact this

/-- Cells of an owned row are put in the place of as many. -/
theorem own_setV {e : TypeId} {vs us : List Value} {b cap base n p m sz : Nat} (h : ownsV w base e sz (.slice (some ⟨b, 0, none⟩) n cap) n vs) (hm : us.length = m) (hp : p + m ≤ vs.length) :
    ∃ cur : List Value, w.heap[b]? = some (.cells cur.toArray e (0, 0)) ∧ p + m ≤ cur.length ∧
      ownsV (w.setRow b (cur.take p ++ (us ++ cur.drop (p + m))).toArray) base e sz (.slice (some ⟨b, 0, none⟩) n cap) n (vs.take p ++ (us ++ vs.drop (p + m))) := by
  have hl := h.1
  rcases h.2 with ⟨h0, _⟩ | ⟨g, cap', cur, e1, hb, hg, hnc, hcm, hcs, ht⟩
  · cases h0
  · cases e1
    have hcap : n * sz ≤ cap * sz := Nat.mul_le_mul_right _ hnc
    have hcl : cap * sz ≤ cur.toList.length := by simpa using hcs
    have hcl' : cur.toList.length = cur.size := Array.length_toList ..
    refine ⟨cur.toList, by simpa using hg, by omega, ?_, .inr ⟨b, cap, _, rfl, hb, setRow_heap w b cur _ e _ hg, hnc, hcm, ?_, ?_⟩⟩
    · simp only [List.length_append, List.length_take, List.length_drop]; omega
    · simp only [List.size_toArray, List.length_append, List.length_take, List.length_drop, hm]; omega
    · rw [← ht]
      apply List.ext_getElem?
      intro j
      simp only [List.getElem?_append, List.getElem?_take, List.getElem?_drop, List.length_append, List.length_take, List.length_drop, hm]
      repeat' split
      all_goals first | rfl | (exfalso; omega) | (congr 1; omega) | (rw [List.getElem?_eq_none (by omega)])

theorem isOne_one {t : TypeId} {one : Bool} {m : Nat} (h : isOne P t = some (one, m)) (ho : one = true) : m = 1 := by
  unfold isOne at h
  split at h
  · simp at h; rw [h.1] at ho; cases ho
  · simp at h; rw [h.1] at ho; cases ho
  · split at h
    · simp at h; exact h.2.symm
    · cases h
  · cases h

/-- A store. -/
theorem evSt_does {o : Oper} {a : Act} {f : Nat → AV} {v : AV} {us : List (Oid × Option Ob)} {t : TypeId} {x y : Operand} {x' y' : Opd} {one : Bool} {m : Nat} (ho : o.op = .store t x y) (h1 : isOne P t = some (one, m)) (h2 : Opd.of x = some x') (h3 : Opd.of y = some y')
    (he : evSt f ob one m x' y' = some (v, us)) (hm : Mem0 G w0 ob σ K w) (hK : ∀ n, K n → K' n)
    (hf : ∀ x ∈ o.op.operands, ∀ y, Opd.of x = some y → AV.Rep σ (imm ob σ) w (y.ev f) (a.eval x)) : Oper.does P o a w (Goes G w0 (applyU us ob) K' σ (imm ob σ) w v) := by
  have r1 := hf x (by simp [ho, Op.operands]) x' h2
  have r2 := hf y (by simp [ho, Op.operands]) y' h3
  unfold evSt at he
  split at he
  · rename_i j k hx
    rw [hx] at r1
    obtain ⟨b, cap, sz, e1, e2⟩ := r1
    split at he
    · rename_i ty cs hj
      obtain ⟨ds, hds, hh⟩ := Option.map_eq_some_iff.1 he
      obtain ⟨rfl, rfl⟩ := Prod.mk.inj hh
      obtain ⟨vs, g1, g2, g3⟩ := hm.obs j _ _ hj e1
      obtain ⟨ws, q1, q2, q3, q4, q5⟩ := stCells_rep hds (isOne_one h1) r2 g2
      have hrun := st_run (P := P) h1 g1 q1 q2 q3 q4
      have hL := Later.swap (o' := .cells ty ds) hj e1 (.inl ⟨rfl, rfl, rfl⟩) (Only.setRow w b (vs.take k ++ (ws ++ vs.drop (k + m))).toArray)
      refine Oper.does_skip (by simp [execOp, ho, e2, hrun]) ⟨_, hL, hm.swap hj e1 (.inl ⟨rfl, rfl, rfl⟩) (Only.setRow w b _) hK (hK _ (hm.gen _ _ e1)) (hm.cap _ _ _ _ e1) ⟨_, setRow_heap w b _ _ ty _ g1, AV.RepL.later hL _ _ q5, ?_⟩, trivial⟩
      intro u hu
      rcases List.mem_append.1 hu with hu | hu
      · exact g3 u (List.mem_of_mem_take hu)
      · rcases List.mem_append.1 hu with hu | hu
        · exact q4 u hu
        · exact g3 u (List.mem_of_mem_drop hu)
    · cases he
  · rename_i j e k hx
    rw [hx] at r1
    obtain ⟨b, cap, sz, e1, e2⟩ := r1
    split at he
    · rename_i et ty xs hj
      split at he
      · rename_i d hd
        split at he
        · rename_i ds hds
          split at he
          · rename_i d' hd'
            obtain ⟨rfl, rfl⟩ := Prod.mk.inj (Option.some.inj he)
            obtain ⟨hfl, hown, hsz⟩ := hm.obs j _ _ hj e1
            obtain rfl := hsz b cap sz rfl
            obtain ⟨ws, q1, q2, q3, q4, q5⟩ := stCells_rep hds (isOne_one h1) r2 (Ty.enc_rep (σ := σ) (im := imm ob σ) (w := w) d hfl)
            rw [Ty.enc_length d hfl] at q3
            obtain ⟨cur, c1, c2, c3⟩ := own_set hfl hd hown q2 q3 (Ty.ofAV_enc hfl q5 hd').symm
            have hrun := st_run (P := P) (k := e * ty.size + k) h1 c1 q1 q2 c2 q4
            have hL := Later.swap (o' := .arr et ty (xs.set e d')) hj e1 (.inl ⟨rfl, rfl, rfl⟩) (Only.setRow w b (cur.take (e * ty.size + k) ++ (ws ++ cur.drop (e * ty.size + k + m))).toArray)
            refine Oper.does_skip (by simp [execOp, ho, e2, hrun]) ⟨_, hL, hm.swap hj e1 (.inl ⟨rfl, rfl, rfl⟩) (Only.setRow w b _) hK (hK _ (hm.gen _ _ e1)) (hm.cap _ _ _ _ e1) ⟨hfl, ?_, fun b c s h => by cases h; rfl⟩, trivial⟩
            rw [List.length_set]
            exact c3
          · cases he
        · cases he
      · cases he
    · rename_i et sz' n cs hj
      obtain ⟨ds, hds, hh⟩ := Option.map_eq_some_iff.1 he
      obtain ⟨rfl, rfl⟩ := Prod.mk.inj hh
      obtain ⟨vs, hown, g2, g3, hsz⟩ := hm.obs j _ _ hj e1
      obtain rfl := hsz b cap sz rfl
      obtain ⟨ws, q1, q2, q3, q4, q5⟩ := stCells_rep hds (isOne_one h1) r2 g2
      obtain ⟨cur, c1, c2, c3⟩ := own_setV hown q2 q3
      have hrun := st_run (P := P) (k := e * sz + k) h1 c1 q1 q2 c2 q4
      have hL := Later.swap (o' := .vec et sz n ds) hj e1 (.inl ⟨rfl, rfl, rfl⟩) (Only.setRow w b (cur.take (e * sz + k) ++ (ws ++ cur.drop (e * sz + k + m))).toArray)
      refine Oper.does_skip (by simp [execOp, ho, e2, hrun]) ⟨_, hL, hm.swap hj e1 (.inl ⟨rfl, rfl, rfl⟩) (Only.setRow w b _) hK (hK _ (hm.gen _ _ e1)) (hm.cap _ _ _ _ e1) ⟨_, c3, AV.RepL.later hL _ _ q5, ?_, fun b c s h => by cases h; rfl⟩, trivial⟩
      intro u hu
      rcases List.mem_append.1 hu with hu | hu
      · exact g3 u (List.mem_of_mem_take hu)
      · rcases List.mem_append.1 hu with hu | hu
        · exact q4 u hu
        · exact g3 u (List.mem_of_mem_drop hu)
    · cases he
  · cases he
end
end Go.Proofs.YtefolocdfgelcaaDoor
