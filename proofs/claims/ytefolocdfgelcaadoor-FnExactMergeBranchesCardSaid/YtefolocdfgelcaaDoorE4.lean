/- An abstract machine: the operations that make no effect on what there is do what the machine says; no condition. -/
import Derived.Test.YtefolocdfgelcaaDoorE3
namespace Go.Proofs.YtefolocdfgelcaaDoor
open Go.RowKit Go.Deep

def applyU (us : List (Oid × Option Ob)) (ob : Oid → Option Ob) : Oid → Option Ob := us.foldl (fun ob u => upd ob u.1 u.2) ob

/-- What a step comes to: the objects ob', the value as v says. -/
def Goes (G : World → Prop) (w0 : World) (ob' : Oid → Option Ob) (K' : Nat → Prop) (σ : Oid → Option Loc) (im : Nat → Prop) (w : World) (v : AV) (u : Value) (w' : World) : Prop :=
  ∃ σ', Later σ σ' im (imm ob' σ') w w' ∧ Mem0 G w0 ob' σ' K' w' ∧ AV.Rep σ' (imm ob' σ') w' v u

section
variable {P : Program} {G : World → Prop} {w0 w w' : World} {ob : Oid → Option Ob} {σ : Oid → Option Loc} {K K' : Nat → Prop}

theorem Mem0.wide (h : Mem0 G w0 ob σ K w) (hK : ∀ n, K n → K' n) : Mem0 G w0 ob σ K' w := h.grow (Below.refl _ _) hK
theorem Goes.same (h : Mem0 G w0 ob σ K w) (hK : ∀ n, K n → K' n) {v : AV} {u : Value} (hr : AV.Rep σ (imm ob σ) w v u) : Goes G w0 ob K' σ (imm ob σ) w v u w :=
  ⟨σ, Later.refl _ _ _, h.wide hK, hr⟩
theorem Goes.fresh (h : Mem0 G w0 ob σ K w) {i : Oid} (hi : ¬ K i.2) : σ i = none := by
  cases hs : σ i with
  | none => rfl
  | some l => exact absurd (h.gen i l hs) hi
/-- A new box. -/
theorem Goes.box (h : Mem0 G w0 ob σ K w) (hK : ∀ n, K n → K' n) {i : Oid} (hi : ¬ K i.2) (hi' : K' i.2) {ty : TypeId} {cs : List AV} {vs : List Value} (hr : AV.RepL σ (imm ob σ) w cs vs) (h1 : ∀ v ∈ vs, v.oneCell' = true) :
    Goes G w0 (upd ob i (some (.cells ty cs))) K' σ (imm ob σ) w (.box i 0) (.pointer (some ⟨w.heap.size, 0, none⟩)) (w.alloc (.cells vs.toArray ty)) := by
  have hs := Goes.fresh h hi
  have hb : Below w.heap.size w (w.alloc (.cells vs.toArray ty)) := (Below.refl _ _).alloc (Nat.le_refl _) _
  have hL := Later.new (ob := ob) (i := i) (l := .at_ w.heap.size 0 0) (o := .cells ty cs) hs hb (fun b c s e => by cases e; exact Nat.le_refl _)
  refine ⟨_, hL, h.new hs hb (fun b c s e => by cases e; exact ⟨Nat.le_refl _, by simp, Nat.zero_le _⟩) hK hi' ?_, ⟨w.heap.size, 0, 0, upd_same _ _ _, rfl⟩⟩
  exact ⟨vs, by show (w.heap.push _)[w.heap.size]? = _; simp, AV.RepL.later hL _ _ hr, h1⟩

theorem of1_cells {im : Nat → Prop} : ∀ (l : List Value), AV.RepL σ im w (l.map AV.of1) l := AV.of1_repL

theorem Ty.av_rep {im : Nat → Prop} : ∀ {t : Ty} {a : Addr} {x : t.D} {l : List Addr}, Ty.Mem im w t a x l →
    (t.av x).length = t.size ∧ ∀ j, j < t.size → ∃ v c, w.cell? (a.add j) = some v ∧ (t.av x)[j]? = some c ∧ AV.Rep σ im w c v
  | .int, a, _, _, ⟨h, _⟩ => ⟨rfl, fun j hj => by
      obtain rfl : j = 0 := by simp [Ty.size] at hj; omega
      exact ⟨_, _, by rw [Addr.add_zero']; exact h, rfl, rfl⟩⟩
  | .bool, a, _, _, ⟨h, _⟩ => ⟨rfl, fun j hj => by
      obtain rfl : j = 0 := by simp [Ty.size] at hj; omega
      exact ⟨_, _, by rw [Addr.add_zero']; exact h, rfl, rfl⟩⟩
  | .str, a, _, _, ⟨h, _⟩ => ⟨rfl, fun j hj => by
      obtain rfl : j = 0 := by simp [Ty.size] at hj; omega
      exact ⟨_, _, by rw [Addr.add_zero']; exact h, rfl, rfl⟩⟩
  | .slice t, a, _, l, ⟨A, c, h, he⟩ => ⟨rfl, fun j hj => by
      obtain rfl : j = 0 := by simp [Ty.size] at hj; omega
      exact ⟨_, _, by rw [Addr.add_zero']; exact h, rfl, A, c, l, rfl, he⟩⟩
  | .pair t u, a, x, _, ⟨l1, l2, h1, h2, _⟩ => by
      obtain ⟨n1, c1⟩ := Ty.av_rep h1
      obtain ⟨n2, c2⟩ := Ty.av_rep (a := a.add t.size) h2
      refine ⟨by simp [Ty.av, n1, n2, Ty.size], fun j hj => ?_⟩
      simp only [Ty.av]
      by_cases hlt : j < t.size
      · rw [List.getElem?_append_left (by omega)]
        exact c1 j hlt
      · rw [List.getElem?_append_right (by omega), n1]
        obtain ⟨v, c, e1, e2, e3⟩ := c2 (j - t.size) (by simp only [Ty.size] at hj; omega)
        rw [add_of_add, show t.size + (j - t.size) = j by omega] at e1
        exact ⟨v, c, e1, e2, e3⟩

/-- A load, where the cells are known. -/
theorem ld_rep {im : Nat → Prop} {t : TypeId} {one : Bool} {m k : Nat} {cs : List AV} {c : AV} {ad : Addr} (ht : isOne P t = some (one, m)) (hl : ldCells one m k cs = some c)
    (hc : ∀ j d, cs[k + j]? = some d → ∃ v, w.cell? (ad.add j) = some v ∧ AV.Rep σ im w d v) : ∃ v, (Instr.loadAt t (.pointer (some ad))).run P w = .ok v w ∧ AV.Rep σ im w c v := by
  unfold isOne at ht
  have agg : ∀ i, P.info? t = some i → (isAgg t).run P w = .ok true w → ldCells false i.size k cs = some c → ∃ v, (Instr.loadAt t (.pointer (some ad))).run P w = .ok v w ∧ AV.Rep σ im w c v := by
    intro i hi ha hl
    simp only [ldCells] at hl
    simp at hl
    obtain ⟨hle, rfl⟩ := hl
    have hex : ∀ j, j < i.size → ∃ v, w.cell? (ad.add j) = some v ∧ ∀ d, cs[k + j]? = some d → AV.Rep σ im w d v := by
      intro j hj
      obtain ⟨v, h1, h2⟩ := hc j (cs[k + j]'(by omega)) (List.getElem?_eq_getElem (by omega))
      exact ⟨v, h1, fun d hd => by rw [List.getElem?_eq_getElem (by omega)] at hd; obtain rfl := Option.some.inj hd; exact h2⟩
    have hg : ∃ g : Nat → Value, ∀ j, j < i.size → w.cell? (ad.add j) = some (g j) ∧ ∀ d, cs[k + j]? = some d → AV.Rep σ im w d (g j) := Deep.choose_lt hex
    obtain ⟨g, hg⟩ := hg
    refine ⟨.agg ((List.range i.size).map g).toArray, ?_, ⟨_, rfl, AV.RepL.of_get (by simp; omega) (fun j d v h1 h2 => ?_)⟩⟩
    · have := run_loadCells (P := P) (w := w) ad i.size g (fun j hj => (hg j hj).1)
      simp only [Instr.loadAt, Instr.sureAddr, loadVar, Sem.run_bind, Sem.run_pure, Result.andThen_ok, ha, if_true, sizeOf, typeInfo, run_program, hi, this]
    · rw [List.getElem?_take] at h1
      split at h1
      · rename_i hj
        rw [List.getElem?_drop] at h1
        rw [List.getElem?_map, List.getElem?_range hj] at h2
        simp at h2
        subst h2
        exact (hg j hj).2 d h1
      · cases h1
  split at ht
  · rename_i fs i hu hi
    simp at ht
    obtain ⟨rfl, rfl⟩ := ht
    exact agg i hi (by simp [isAgg, run_underlying hu]) hl
  · rename_i n e i hu hi
    simp at ht
    obtain ⟨rfl, rfl⟩ := ht
    exact agg i hi (by simp [isAgg, run_underlying hu]) hl
  · rename_i d i h1 h2 hu hi
    split at ht
    · simp at ht
      obtain ⟨rfl, rfl⟩ := ht
      simp only [ldCells, if_true] at hl
      obtain ⟨v, hv, hr⟩ := hc 0 c (by simpa using hl)
      refine ⟨v, ?_, hr⟩
      rw [Addr.add_zero'] at hv
      have ha : (isAgg t).run P w = .ok false w := by
        unfold isAgg
        rw [Sem.run_bind, run_underlying hu]
        cases d <;> first | rfl | (exact absurd rfl (h1 _)) | (exact absurd rfl (h2 _ _))
      simp [Instr.loadAt, Instr.sureAddr, loadVar, ha, hv]
    · cases ht
  · cases ht

theorem run_op_mov {o : Oper} {a : Act} {x : Operand} (h : o.op = .move x ∨ o.op = .assign x) : (execOp a.eval o).run P w = .ok (.value (a.eval x)) w := by
  rcases h with h | h <;> simp [execOp, h]
theorem fldOff_run {s : TypeId} {k n : Nat} (h : fldOff P s k = some n) (ad : Addr) : (Instr.fieldAt s (.pointer (some ad)) k).run P w = .ok (.pointer (some (ad.add n))) w := by
  unfold fldOff at h
  split at h
  · rename_i fs hs
    split at h
    · rename_i g hg
      split at h
      · rename_i i hi
        split at h
        · cases h
        · rename_i hsz
          obtain rfl := Option.some.inj h
          simp [Instr.fieldAt, run_underlying hs, hg, Instr.sureAddr, fieldPlace, sizeOf, typeInfo, hi, hsz]
      · cases h
    · cases h
  · cases h
theorem elemSize_run {t : TypeId} {sz : Nat} (h : elemSize P t = some sz) (ad : Addr) (len cap : Nat) (k : IntKind) (n : Int) (hn : 0 ≤ n ∧ n < len) :
    (Instr.indexAt t (.slice (some ad) len cap) (.int k n)).run P w = .ok (.pointer (some (ad.add (n.toNat * sz)))) w := by
  unfold elemSize at h
  split at h
  · rename_i e he
    obtain ⟨i, hi, rfl⟩ := Option.map_eq_some_iff.1 h
    simp [Instr.indexAt, run_underlying he, asIntOf, hn, sizeOf, typeInfo, hi]
  · cases h
theorem arrLen_run {t : TypeId} {len : Nat} (h : arrLen P t = some len) (ad : Addr) (k : IntKind) (n : Int) (hn : 0 ≤ n ∧ n < len) :
    (Instr.indexAt t (.pointer (some ad)) (.int k n)).run P w = .ok (.pointer (some (ad.add n.toNat))) w := by
  unfold arrLen at h
  split at h
  · rename_i len' e he
    split at h
    · rename_i hi _
      obtain rfl := Option.some.inj h
      obtain ⟨i, hi, hs⟩ := Option.map_eq_some_iff.1 hi
      simp [Instr.indexAt, run_underlying he, asIntOf, hn, sizeOf, typeInfo, hi, hs, Instr.sureAddr]
    · cases h
  · cases h
theorem arrLen_index {t : TypeId} {len : Nat} (h : arrLen P t = some len) (cs : Array Value) (k : IntKind) (n : Int) (hn : 0 ≤ n ∧ n < len) {v : Value} (hv : cs[n.toNat]? = some v) :
    (Instr.index t (.agg cs) (.int k n)).run P w = .ok v w := by
  unfold arrLen at h
  split at h
  · rename_i len' e he
    split at h
    · rename_i hi hu
      obtain rfl := Option.some.inj h
      obtain ⟨i, hi, hs⟩ := Option.map_eq_some_iff.1 hi
      simp [Instr.index, run_underlying he, run_underlying hu, asIntOf, hn, sizeOf, typeInfo, hi, hs, part, isAgg, hv]
    · cases h
  · cases h
theorem evBin_run {op : BinOp} {t : TypeId} {x y : Operand} {u v : AV} {c : AV} {ux vy : Value} {im : Nat → Prop} (h : evBin op u v = some c) (hu : AV.Rep σ im w u ux) (hv : AV.Rep σ im w v vy) :
    ∃ r, ((do eqGuard op t x y ux vy; binOp op t ux vy : Sem Value)).run P w = .ok r w ∧ AV.Rep σ im w c r := by
  unfold evBin at h
  split at h
  · rename_i k a k' b
    have hu' : ux = .int k a := hu
    have hv' : vy = .int k' b := hv
    subst hu' hv'
    split at h
    · rename_i hk
      subst hk
      split at h <;> first
        | (obtain rfl := Option.some.inj h; refine ⟨_, ?_, rfl⟩; simp [eqGuard_at_int, binOp, Op.intArith, Op.intCmp]; done)
        | skip
      · split at h
        · cases h
        · rename_i hb
          obtain rfl := Option.some.inj h
          exact ⟨_, by simp [eqGuard_at_int, binOp, Op.intDiv, hb], rfl⟩
      · split at h
        · cases h
        · rename_i hb
          obtain rfl := Option.some.inj h
          exact ⟨_, by simp [eqGuard_at_int, binOp, Op.intDiv, hb], rfl⟩
      · cases h
    · cases h
  · rename_i a b
    have hu' : ux = .string a := hu
    have hv' : vy = .string b := hv
    subst hu' hv'
    split at h
    · split at h
      · rename_i hs
        obtain rfl := Option.some.inj h
        have hs' : ¬ (9223372036854775807 : Int) < (a.size : Int) + (b.size : Int) := by omega
        exact ⟨_, by simp [eqGuard_at_string, binOp, Op.stringOp, hs'], rfl⟩
      · cases h
    · obtain rfl := Option.some.inj h
      exact ⟨_, by simp [eqGuard_at_string, binOp, Op.stringOp], rfl⟩
    · obtain rfl := Option.some.inj h
      exact ⟨_, by simp [eqGuard_at_string, binOp, Op.stringOp], rfl⟩
    · cases h
  · cases h

theorem eql_nil_run_ {t e : TypeId} (d : Nat) (ht : P.underlying t = some (.slice e)) (A : Option Addr) (n c : Nat) : (Op.equalIn (d + 1) t (.slice A n c) (.slice none 0 0)).run P w = .ok A.isNone w := by
  cases A <;> simp [Op.equalIn, run_underlying ht]
theorem eql_nil_run {t e : TypeId} (ht : P.underlying t = some (.slice e)) (A : Option Addr) (n c : Nat) : (Op.equal t (.slice A n c) (.slice none 0 0)).run P w = .ok A.isNone w := eql_nil_run_ 9999 ht A n c
theorem eql_bool_run_ {t : TypeId} (d : Nat) (ht : P.underlying t = some .bool) (a b : Bool) : (Op.equalIn (d + 1) t (.bool a) (.bool b)).run P w = .ok (a == b) w := by
  simp [Op.equalIn, run_underlying ht]
theorem eql_bool_run {t : TypeId} (ht : P.underlying t = some .bool) (a b : Bool) : (Op.equal t (.bool a) (.bool b)).run P w = .ok (a == b) w := eql_bool_run_ 9999 ht a b
theorem intsAV_rep {im : Nat → Prop} : ∀ {cs : List AV} {vs : List Value} {a : List Int}, AV.RepL σ im w cs vs → intsAV cs = some a → vs = a.map (Value.int .i64)
  | [], _, _, hr, h => by
    obtain rfl := Option.some.inj h
    exact hr
  | c :: cs, _, a, ⟨u, us, e, h1, h2⟩, h => by
    subst e
    unfold intsAV at h
    split at h
    · rename_i he; cases he
    · rename_i n r he
      obtain ⟨rfl, rfl⟩ := List.cons.inj he
      split at h
      · rename_i l hl
        obtain rfl := Option.some.inj h
        rw [show u = .int .i64 n from h1, intsAV_rep h2 hl]; rfl
      · cases h
    · cases h
theorem eqFields_int (d : Nat) : ∀ (fs : List Field) (k : Nat) (a b : List Int), intFields P k fs = true → a.length = k + fs.length → b.length = k + fs.length → (Op.eqFields (d + 1) (a.map (Value.int .i64)).toArray (b.map (Value.int .i64)).toArray fs).run P w = .ok (a.drop k == b.drop k) w
  | [], k, a, b, _, h1, h2 => by
    rw [List.drop_of_length_le (by simp at h1; omega), List.drop_of_length_le (by simp at h2; omega)]
    simp [Op.eqFields]
  | f :: fs, k, a, b, h, h1, h2 => by
    simp only [intFields, Bool.and_eq_true] at h
    obtain ⟨n1, n2, n3, n4⟩ := h
    have n2 : f.offset = k := by simpa using n2
    have hn : f.name ≠ "_" := by simpa using n1
    have ht : P.underlying f.type = some (.int .i64) := by split at n3; assumption; cases n3
    rw [List.length_cons] at h1 h2
    have ka : k < a.length := by omega
    have kb : k < b.length := by omega
    have p1 : ∀ (l : List Int) (hk : k < l.length), (part f.type (l.map (Value.int .i64)).toArray f.offset).run P w = .ok (.int .i64 l[k]) w := fun l hk => by
      simp [part, isAgg, run_underlying ht, n2, hk]
    have ih := eqFields_int d fs (k + 1) a b n4 (by omega) (by omega)
    rw [List.drop_eq_getElem_cons ka, List.drop_eq_getElem_cons kb]
    simp only [Op.eqFields, if_pos hn, Sem.run_bind, p1 a ka, p1 b kb, Result.andThen_ok, run_equalIn_int w d f.type .i64 .i64 a[k] b[k] ht, Sem.run_ite, Sem.run_pure, ih]
    cases hab : a[k] == b[k]
    · have : (a[k] :: a.drop (k + 1) == b[k] :: b.drop (k + 1)) = false := by rw [List.cons_beq_cons, hab, Bool.false_and]
      rw [this]; simp
    · have : (a[k] :: a.drop (k + 1) == b[k] :: b.drop (k + 1)) = (a.drop (k + 1) == b.drop (k + 1)) := by rw [List.cons_beq_cons, hab, Bool.true_and]
      rw [this]; simp
theorem evCmp_run {op : BinOp} {t : TypeId} {neg : Bool} {k : Nat} {x y : Operand} {u v : AV} {c : AV} {ux vy : Value} {im : Nat → Prop} (ho : cmpOf P op t = some (neg, k)) (h0 : evCmp neg k u v = some c) (hu : AV.Rep σ im w u ux) (hv : AV.Rep σ im w v vy) :
    ∃ r, ((do eqGuard op t x y ux vy; binOp op t ux vy : Sem Value)).run P w = .ok r w ∧ AV.Rep σ im w c r := by
  have hb : ∀ {op' : BinOp}, P.underlying t = some .bool → evCmpB neg u v = some c → (op' = if neg then .neq else .eql) → ∃ r, ((do eqGuard op' t x y ux vy; binOp op' t ux vy : Sem Value)).run P w = .ok r w ∧ AV.Rep σ im w c r := by
    intro op' ht h hop
    subst hop
    clear h0
    unfold evCmpB at h
    split at h
    · rename_i a a'
      have e1 : ux = .bool a := hu
      have e2 : vy = .bool a' := hv
      subst e1 e2
      obtain rfl := Option.some.inj h
      cases neg
      · exact ⟨.bool (a == a'), by simp [eqGuard, binOp, eql_bool_run ht], rfl⟩
      · exact ⟨.bool (a != a'), by simp [eqGuard, binOp, eql_bool_run ht, bne], rfl⟩
    · cases h
  have hs : ∀ {op' : BinOp} {e : TypeId}, P.underlying t = some (.slice e) → evCmpN neg u v = some c → (op' = if neg then .neq else .eql) → ∃ r, ((do eqGuard op' t x y ux vy; binOp op' t ux vy : Sem Value)).run P w = .ok r w ∧ AV.Rep σ im w c r := by
    intro op' e ht h hop
    subst hop
    have key : ∀ A n cp, ux = .slice A n cp → vy = .slice none 0 0 → ((do eqGuard (if neg then .neq else .eql) t x y ux vy; binOp (if neg then .neq else .eql) t ux vy : Sem Value)).run P w = .ok (.bool (if neg then !A.isNone else A.isNone)) w := by
      intro A n cp h1 h2
      subst h1 h2
      cases neg <;> simp [eqGuard, binOp, eql_nil_run ht]
    clear h0
    unfold evCmpN at h
    split at h
    · obtain rfl := Option.some.inj h
      have := key none 0 0 hu hv
      refine ⟨_, this, ?_⟩
      cases neg <;> rfl
    · obtain rfl := Option.some.inj h
      obtain ⟨A, cp, l, e1, hsl⟩ := hu
      refine ⟨_, key A _ cp e1 hv, _, rfl, fun hb => ?_⟩
      have hn : A = none := by cases neg <;> cases A <;> simp_all
      subst hn
      have h0 : ∀ (u : Ty) (zs : List u.D), Sl im w u none cp zs l → zs.length = 0 := by
        intro u zs hs
        rcases Nat.eq_zero_or_pos zs.length with h0 | h0
        · exact h0
        · obtain ⟨_, _, _, _, hf⟩ := hs
          obtain ⟨ad, he, _⟩ := hf h0
          cases he
      exact h0 _ _ hsl
    · obtain rfl := Option.some.inj h
      rcases hu with ⟨_, _, _, e1⟩ | ⟨b, cap, _, _, e1⟩ | ⟨_, _, _, h00, _, _, e1, _⟩
      · exact ⟨_, key _ _ _ e1 hv, _, rfl, fun _ => by assumption⟩
      · exact ⟨_, key _ _ _ e1 hv, _, rfl, fun hb => by cases neg <;> simp at hb⟩
      · subst h00; exact ⟨_, key _ _ _ e1 hv, _, rfl, fun _ => rfl⟩
    · cases h
  have hst : ∀ {op' : BinOp} {fs : Array Field}, P.underlying t = some (.struct fs) → intStruct P t = true → evCmp neg (fs.size + 3) u v = some c → (op' = if neg then .neq else .eql) → ∃ r, ((do eqGuard op' t x y ux vy; binOp op' t ux vy : Sem Value)).run P w = .ok r w ∧ AV.Rep σ im w c r := by
    intro op' fs hfs hI h hop
    subst hop
    clear h0
    have hfo : P.fieldsOf t = fs := by simp [Program.fieldsOf, hfs]
    unfold intStruct at hI
    rw [hfo] at hI
    simp only [Bool.and_eq_true, Bool.not_eq_true'] at hI
    obtain ⟨i1, i2, i3⟩ := hI
    simp only [evCmp] at h
    cases u <;> simp only at h <;> try (cases h; done)
    rename_i cs
    split at h
    · rename_i hlen
      unfold evCmpS at h
      split at h
      · rename_i cs' ds hcs
        obtain rfl := AV.agg.inj hcs
        split at h
        · rename_i a b ha hb'
          split at h
          · rename_i hab
            obtain rfl := Option.some.inj h
            obtain ⟨vs, e1, r1⟩ := hu
            obtain ⟨us, e2, r2⟩ := hv
            have hvs := intsAV_rep r1 ha
            have hus := intsAV_rep r2 hb'
            subst hvs hus e1 e2
            have l1 : a.length = 0 + fs.toList.length := by have := r1.length; simp at this ⊢; omega
            have l2 : b.length = 0 + fs.toList.length := by omega
            have hrun := eqFields_int (P := P) (w := w) 9998 fs.toList 0 a b i1 l1 l2
            have hst := run_equalIn_struct (P := P) w 9999 t (a.map (Value.int .i64)).toArray (b.map (Value.int .i64)).toArray (by rw [hfs, hfo]) i2
            rw [hfo, hrun] at hst
            simp only [List.drop_zero] at hst
            cases neg
            · refine ⟨.bool (a == b), ?_, rfl⟩
              simp only [Sem.run_bind, run_eqGuard_agg w _ t x y _ _ i3, Result.andThen_ok, Bool.false_eq_true, if_false, run_eql_struct, hst]
            · refine ⟨.bool (!(a == b)), ?_, rfl⟩
              simp only [Sem.run_bind, run_eqGuard_agg w _ t x y _ _ i3, Result.andThen_ok, if_true, run_neq_struct, hst]
          · cases h
        · cases h
      · cases h
    · cases h
  unfold cmpOf at ho
  split at ho
  · obtain ⟨rfl, rfl⟩ := Prod.mk.inj (Option.some.inj ho); exact hb (by assumption) h0 rfl
  · obtain ⟨rfl, rfl⟩ := Prod.mk.inj (Option.some.inj ho); exact hb (by assumption) h0 rfl
  · obtain ⟨rfl, rfl⟩ := Prod.mk.inj (Option.some.inj ho); exact hs (by assumption) h0 rfl
  · obtain ⟨rfl, rfl⟩ := Prod.mk.inj (Option.some.inj ho); exact hs (by assumption) h0 rfl
  · rename_i fs hfs
    split at ho
    · rename_i hI
      obtain ⟨rfl, rfl⟩ := Prod.mk.inj (Option.some.inj ho)
      exact hst hfs hI h0 rfl
    · cases ho
  · rename_i fs hfs
    split at ho
    · rename_i hI
      obtain ⟨rfl, rfl⟩ := Prod.mk.inj (Option.some.inj ho)
      exact hst hfs hI h0 rfl
    · cases ho
  · cases ho

theorem ofL_rep {im : Nat → Prop} {f : Nat → AV} {a : Act} : ∀ {xs : List Operand} {ys : List Opd}, Opd.ofL xs = some ys → (∀ x ∈ xs, ∀ y, Opd.of x = some y → AV.Rep σ im w (y.ev f) (a.eval x)) → AV.RepL σ im w (ys.map (Opd.ev f)) (xs.map a.eval)
  | [], ys, h, _ => by
    obtain rfl : [] = ys := Option.some.inj h
    rfl
  | x :: xs, ys, h, hf => by
    simp only [Opd.ofL] at h
    split at h
    · rename_i y zs h1 h2
      obtain rfl := Option.some.inj h
      exact ⟨_, _, rfl, hf x (by simp) y h1, ofL_rep h2 (fun z hz => hf z (by simp [hz]))⟩
    · cases h

set_option maxHeartbeats 1000000 in
/-- What looks at no object does what the machine says. -/
theorem evN_does [IsP P] {o : Oper} {a : Act} {q : I} {f : Nat → AV} {i : Oid} {v : AV} {us : List (Oid × Option Ob)} (hc : I.of P o = some q) (he : evN f i q = some (v, us)) (hm : Mem0 G w0 ob σ K w) (hK : ∀ n, K n → K' n) (hi : ¬ K i.2) (hi' : K' i.2)
    (hf : ∀ x ∈ o.op.operands, ∀ y, Opd.of x = some y → AV.Rep σ (imm ob σ) w (y.ev f) (a.eval x)) : Oper.does P o a w (Goes G w0 (applyU us ob) K' σ (imm ob σ) w v) := by
  have same : ∀ {c : AV} {r : Value}, (execOp a.eval o).run P w = .ok (.value r) w → some (c, ([] : List (Oid × Option Ob))) = some (v, us) → AV.Rep σ (imm ob σ) w c r → Oper.does P o a w (Goes G w0 (applyU us ob) K' σ (imm ob σ) w v) := by
    intro c r hr hs hrep
    obtain ⟨rfl, rfl⟩ := Prod.mk.inj (Option.some.inj hs)
    exact Oper.does_value hr (Goes.same hm hK hrep)
  unfold I.of at hc
  split at hc
  · -- move
    rename_i x ho
    obtain ⟨y, hy, rfl⟩ := Option.map_eq_some_iff.1 hc
    exact same (run_op_mov (.inl ho)) he (hf x (by simp [ho, Op.operands]) y hy)
  · rename_i x ho
    obtain ⟨y, hy, rfl⟩ := Option.map_eq_some_iff.1 hc
    exact same (run_op_mov (.inr ho)) he (hf x (by simp [ho, Op.operands]) y hy)
  · -- pick
    rename_i c x y ho
    split at hc
    · rename_i c' x' y' h1 h2 h3
      obtain rfl := Option.some.inj hc
      have r1 := hf c (by simp [ho, Op.operands]) c' h1
      have r2 := hf x (by simp [ho, Op.operands]) x' h2
      have r3 := hf y (by simp [ho, Op.operands]) y' h3
      simp only [evN] at he
      split at he
      · rename_i b hb
        rw [hb] at r1
        have r1' : a.eval c = .bool b := r1
        refine same (r := if b then a.eval x else a.eval y) (by simp [execOp, ho, asBool, r1']) he ?_
        cases b
        · exact r3
        · exact r2
      · cases he
    · cases hc
  · -- alloc
    rename_i e ho
    split at hc
    · cases hc
    · skip
      split at hc
      · rename_i inf hinf
        split at hc
        · rename_i z hz
          split at hc
          · rename_i hone
            obtain rfl := Option.some.inj hc
            obtain ⟨rfl, rfl⟩ := Prod.mk.inj (Option.some.inj he)
            refine Oper.does_value (v := .pointer (some ⟨w.heap.size, 0, none⟩)) (w' := w.alloc (.cells z.cells.toList.toArray e)) ?_ (Goes.box hm hK hi hi' (AV.of1_repL _) (fun u hu => ?_))
            · simp [execOp, ho, Instr.alloc, zeroValue, typeInfo, hinf, hz, newVar, newRow]
            · rw [Array.all_eq_true_iff_forall_mem] at hone
              exact hone u (by simpa using hu)
          · cases hc
        · cases hc
      · cases hc
  · -- box
    rename_i e x ho
    obtain ⟨x', h1, rfl⟩ := Option.map_eq_some_iff.1 hc
    have r1 := hf x (by simp [ho, Op.operands]) x' h1
    simp only [evN] at he
    split at he
    · rename_i cs hcs
      rw [hcs] at r1
      obtain ⟨vs, e1, hl⟩ := r1
      split at he
      · rename_i hone
        obtain ⟨rfl, rfl⟩ := Prod.mk.inj (Option.some.inj he)
        refine Oper.does_value (v := .pointer (some ⟨w.heap.size, 0, none⟩)) (w' := w.alloc (.cells vs.toArray e)) ?_ (Goes.box hm hK hi hi' hl (AV.one_repL hone hl))
        simp [execOp, ho, Instr.box, newVar, newRow, e1, Value.cells]
      · cases he
    · split at he
      · rename_i hone
        obtain ⟨rfl, rfl⟩ := Prod.mk.inj (Option.some.inj he)
        have h1c := AV.one_rep hone r1
        have hcells : (a.eval x).cells = #[a.eval x] := by cases hq : a.eval x <;> first | rfl | (rw [hq] at h1c; cases h1c)
        refine Oper.does_value (v := .pointer (some ⟨w.heap.size, 0, none⟩)) (w' := w.alloc (.cells [a.eval x].toArray e)) ?_ (Goes.box hm hK hi hi' ⟨_, [], rfl, r1, rfl⟩ (fun u hu => by obtain rfl := List.mem_singleton.1 hu; exact h1c))
        simp [execOp, ho, Instr.box, newVar, newRow, hcells]
      · cases he
  · -- fieldAddr
    rename_i s x k ho
    split at hc
    · rename_i n x' h1 h2
      obtain rfl := Option.some.inj hc
      have r1 := hf x (by simp [ho, Op.operands]) x' h2
      simp only [evN] at he
      split at he
      · rename_i j m hx
        rw [hx] at r1
        obtain ⟨b, cap, sz, e1, e2⟩ := r1
        refine same (r := .pointer (some ⟨b, m + n, none⟩)) ?_ he ⟨b, cap, sz, e1, rfl⟩
        simp [execOp, ho, e2, fldOff_run h1, add_mk]
      · rename_i j m m2 hx
        rw [hx] at r1
        obtain ⟨b, cap, sz, e1, e2⟩ := r1
        refine same (r := .pointer (some ⟨b, m * sz + (m2 + n), none⟩)) ?_ he ⟨b, cap, sz, e1, rfl⟩
        simp [execOp, ho, e2, fldOff_run h1, add_mk, Nat.add_assoc]
      · rename_i t y m hx
        rw [hx] at r1
        obtain ⟨ad, l, e1, e2, e3⟩ := r1
        refine same (r := .pointer (some (ad.add (m + n)))) ?_ he ⟨ad, l, rfl, e2, e3⟩
        simp [execOp, ho, e1, fldOff_run h1, add_of_add]
      · rename_i cs hx
        rw [hx] at r1
        obtain ⟨b, m, vs, e1, e2, e3, e4⟩ := r1
        refine same (r := .pointer (some ⟨b, m + n, none⟩)) ?_ he ⟨b, m + n, vs.drop n, rfl, e2, fun j u hu => ?_, e4.drop n⟩
        · simp [execOp, ho, e1, fldOff_run h1, add_mk]
        · rw [List.getElem?_drop] at hu
          rw [Nat.add_assoc]
          exact e3 _ _ hu
      · cases he
    · cases hc
  · -- indexAddr
    rename_i t x n ho
    split at hc
    · rename_i len hlen
      split at hc
      · rename_i x' n' h2 h3
        obtain rfl := Option.some.inj hc
        have r1 := hf x (by simp [ho, Op.operands]) x' h2
        have r2 := hf n (by simp [ho, Op.operands]) n' h3
        simp only [evN] at he
        split at he
        · rename_i j k q m hx hn
          rw [hx] at r1
          rw [hn] at r2
          obtain ⟨b, cap, sz, e1, e2⟩ := r1
          have e3 : a.eval n = .int q m := r2
          split at he
          · rename_i h0
            refine same (r := .pointer (some ⟨b, k + m.toNat, none⟩)) ?_ he ⟨b, cap, sz, e1, rfl⟩
            have := arrLen_run (P := P) (w := w) hlen ⟨b, k, none⟩ q m h0
            simp [execOp, ho, e2, e3, this, add_mk]
          · cases he
        · rename_i j e k q m hx hn
          rw [hx] at r1
          rw [hn] at r2
          obtain ⟨b, cap, sz, e1, e2⟩ := r1
          have e3 : a.eval n = .int q m := r2
          split at he
          · rename_i h0
            refine same (r := .pointer (some ⟨b, e * sz + (k + m.toNat), none⟩)) ?_ he ⟨b, cap, sz, e1, rfl⟩
            have := arrLen_run (P := P) (w := w) hlen ⟨b, e * sz + k, none⟩ q m h0
            simp [execOp, ho, e2, e3, this, add_mk, Nat.add_assoc]
          · cases he
        · cases he
      · cases hc
    · skip
      split at hc
      · rename_i sz x' n' h1 h2 h3
        obtain rfl := Option.some.inj hc
        have r1 := un_rep (hf x (by simp [ho, Op.operands]) x' h2)
        have r2 := hf n (by simp [ho, Op.operands]) n' h3
        simp only [evN] at he
        split at he
        · rename_i ty xs k m hx hn
          rw [hx] at r1
          rw [hn] at r2
          obtain ⟨A, c, l, e1, e2⟩ := r1
          have e3 : a.eval n = .int k m := r2
          split at he
          · rename_i hsz
            split at he
            · rename_i h0
              obtain ⟨y, hy, hh⟩ := Option.map_eq_some_iff.1 he
              obtain ⟨hlt, rfl⟩ := List.getElem?_eq_some_iff.1 hy
              obtain ⟨_, _, g, _, hg⟩ := e2
              obtain ⟨ad, rfl, hr, hmem⟩ := hg (by omega)
              refine same (c := .telt ty xs[m.toNat] 0) (r := .pointer (some (ad.add (m.toNat * sz)))) ?_ (by rw [hh]) ⟨ad.add (m.toNat * ty.size), _, by rw [add_of_add, Nat.add_zero, hsz], hmem _ hlt, by rw [block_of_add]; exact hr⟩
              have := elemSize_run (P := P) (w := w) h1 ad xs.length c k m ⟨h0, by omega⟩
              simp [execOp, ho, e1, e3, this]
            · cases he
          · cases he
        · rename_i j ty off len k m hx hn
          rw [hx] at r1
          rw [hn] at r2
          have e3 : a.eval n = .int k m := r2
          split at he
          · rename_i hsz
            split at he
            · rename_i h0
              rcases r1 with ⟨_, _, rfl, _⟩ | ⟨b, cap, e1, e2, e4⟩ | ⟨_, _, _, rfl, _⟩
              · omega
              rotate_left
              · omega
              · refine same (r := .pointer (some ⟨b, (off + m.toNat) * ty.size + 0, none⟩)) ?_ he ⟨b, cap, ty.size, e1, rfl⟩
                have := elemSize_run (P := P) (w := w) h1 ⟨b, off * ty.size, none⟩ len (cap - off) k m h0
                simp [execOp, ho, e4, e3, this, add_mk, hsz, Nat.add_mul]
            · cases he
          · cases he
        · cases he
      · cases hc
  · -- load
    rename_i t x ho
    split at hc
    · rename_i one m x' h1 h2
      obtain rfl := Option.some.inj hc
      have r1 := hf x (by simp [ho, Op.operands]) x' h2
      simp only [evN] at he
      split at he
      · rename_i ty y k hx
        rw [hx] at r1
        obtain ⟨ad, l, e1, e2, e3⟩ := r1
        obtain ⟨c, hc', hh⟩ := Option.map_eq_some_iff.1 he
        obtain ⟨u, hu, hr⟩ := ld_rep (P := P) (w := w) (σ := σ) (im := imm ob σ) (ad := ad.add k) h1 hc' (fun j d hd => by
          have hlt : k + j < ty.size := by
            have := (Ty.av_rep (σ := σ) e2).1
            have := (List.getElem?_eq_some_iff.1 hd).1
            omega
          obtain ⟨u, c, q1, q2, q3⟩ := (Ty.av_rep (σ := σ) e2).2 _ hlt
          rw [hd] at q2
          obtain rfl := Option.some.inj q2
          exact ⟨u, by rw [add_of_add]; exact q1, q3⟩)
        exact same (r := u) (by simp [execOp, ho, e1, hu]) (by rw [hh]) hr
      · rename_i cs hx
        rw [hx] at r1
        obtain ⟨b, k, vs, e1, e2, e3, e4⟩ := r1
        obtain ⟨c, hc', hh⟩ := Option.map_eq_some_iff.1 he
        obtain ⟨u, hu, hr⟩ := ld_rep (P := P) (w := w) (σ := σ) (im := imm ob σ) (ad := ⟨b, k, none⟩) h1 hc' (fun j d hd => by
          rw [Nat.zero_add] at hd
          obtain ⟨u, q1, q2⟩ := e4.get hd
          exact ⟨u, by rw [add_mk]; exact e3 _ _ q1, q2⟩)
        exact same (r := u) (by simp [execOp, ho, e1, hu]) (by rw [hh]) hr
      · cases he
    · cases hc
  · -- binOp
    rename_i op t x y t' ho
    split at hc
    · rename_i x' y' h1 h2
      have r1 := hf x (by simp [ho, Op.operands]) x' h1
      have r2 := hf y (by simp [ho, Op.operands]) y' h2
      split at hc
      · rename_i neg k hcmp
        obtain rfl := Option.some.inj hc
        obtain ⟨c, hc', hh⟩ := Option.map_eq_some_iff.1 (show (evCmp neg k (x'.ev f).un (y'.ev f)).map (fun v => (v, [])) = some (v, us) from he)
        obtain ⟨r, hr, hrep⟩ := evCmp_run (P := P) (t := t) (x := x) (y := y) hcmp hc' (un_rep r1) r2
        refine same (r := r) ?_ (by rw [hh]) hrep
        rw [Sem.run_bind] at hr
        simp only [execOp, ho, Sem.run_bind, hr, Result.andThen_ok, Sem.run_pure]
      obtain rfl := Option.some.inj hc
      obtain ⟨c, hc', hh⟩ := Option.map_eq_some_iff.1 (show (evBin op (x'.ev f) (y'.ev f)).map (fun v => (v, [])) = some (v, us) from he)
      obtain ⟨r, hr, hrep⟩ := evBin_run (P := P) (t := t) (x := x) (y := y) hc' r1 r2
      refine same (r := r) ?_ (by rw [hh]) hrep
      rw [Sem.run_bind] at hr
      simp only [execOp, ho, Sem.run_bind, hr, Result.andThen_ok, Sem.run_pure]
    · cases hc
  · -- not
    rename_i t x ho
    obtain ⟨x', h1, rfl⟩ := Option.map_eq_some_iff.1 hc
    have r1 := hf x (by simp [ho, Op.operands]) x' h1
    simp only [evN] at he
    split at he
    · rename_i b hb
      rw [hb] at r1
      have e1 : a.eval x = .bool b := r1
      exact same (r := .bool (!b)) (by simp [execOp, ho, e1, Op.unary]) he rfl
    · cases he
  · -- neg
    rename_i t x ho
    obtain ⟨x', h1, rfl⟩ := Option.map_eq_some_iff.1 hc
    have r1 := hf x (by simp [ho, Op.operands]) x' h1
    simp only [evN] at he
    split at he
    · rename_i k n hb
      rw [hb] at r1
      have e1 : a.eval x = .int k n := r1
      exact same (r := .int k (k.wrap (0 - n))) (by simp [execOp, ho, e1, Op.unary, Op.intArith]) he rfl
    · cases he
  · -- convert
    rename_i s d x ho
    split at hc
    · rename_i k0 k x' h1 h2 h3
      obtain rfl := Option.some.inj hc
      have r1 := hf x (by simp [ho, Op.operands]) x' h3
      simp only [evN] at he
      split at he
      · rename_i k' n hb
        rw [hb] at r1
        have e1 : a.eval x = .int k' n := r1
        exact same (r := .int k (k.wrap n)) (by simp [execOp, ho, e1, convert, run_underlying h1, run_underlying h2, Conv.intToInt]) he rfl
      · cases he
    · cases hc
  · -- call
    rename_i c ho
    split at hc
    · rename_i x t hca hcb hcc
      have hargs : c.args = #[x] := by rw [← Array.toArray_toList (xs := c.args), hcb]
      have htys : c.argTypes = #[t] := by rw [← Array.toArray_toList (xs := c.argTypes), hcc]
      split at hc
      · rename_i e x' hu h1
        obtain rfl := Option.some.inj hc
        have r1 := un_rep (hf x (by simp [ho, Op.operands, Call.operands, hca, hargs]) x' h1)
        have sl : ∀ A (n c : Nat), a.eval x = .slice A n c → (execOp a.eval o).run P w = .ok (.value (.int .i64 n)) w := by
          intro A n c e
          simp [execOp, ho, resolve, hca, hargs, htys, invoke, builtin, Builtin.len_, e, run_underlying hu, goInt]
        simp only [evN] at he
        split at he
        · rename_i ty xs hx
          rw [hx] at r1
          obtain ⟨A, c', l, e1, _⟩ := r1
          exact same (sl _ _ _ e1) he rfl
        · rename_i j ty off n hx
          rw [hx] at r1
          rcases r1 with ⟨_, _, rfl, e1⟩ | ⟨b, cap, _, _, e1⟩ | ⟨_, _, _, rfl, _, _, e1, _⟩
          · exact same (sl _ _ _ e1) he rfl
          · exact same (sl _ _ _ e1) he rfl
          · exact same (sl _ _ _ e1) he rfl
        · rename_i hx
          rw [hx] at r1
          exact same (sl _ _ _ (show a.eval x = .slice none 0 0 from r1)) he rfl
        · cases he
      · rename_i x' hu h1
        obtain rfl := Option.some.inj hc
        have r1 := hf x (by simp [ho, Op.operands, Call.operands, hca, hargs]) x' h1
        simp only [evN] at he
        split at he
        · rename_i s hx
          rw [hx] at r1
          have e1 : a.eval x = .string s := r1
          refine same (r := .int .i64 s.size) ?_ he rfl
          simp [execOp, ho, resolve, hca, hargs, htys, invoke, builtin, Builtin.len_, e1, run_underlying hu, goInt]
        · cases he
      · rename_i x' hu h1
        obtain rfl := Option.some.inj hc
        have r1 := hf x (by simp [ho, Op.operands, Call.operands, hca, hargs]) x' h1
        simp only [evN] at he
        split at he
        · rename_i mt' ty es hx
          rw [hx] at r1
          obtain ⟨b, e1, _, hr⟩ := r1
          split at he
          · rename_i hmt
            subst hmt
            have hP := IsP.eq (P := P)
            subst hP
            have hrun := hr.len o.type
            refine same (r := .int .i64 es.length) ?_ he rfl
            simp [execOp, ho, resolve, hca, hargs, htys, invoke, builtin, e1, hrun, Result.andThen]
          · cases he
        · cases he
      · cases hc
    · cases hc
  · -- extract
    rename_i x k ho
    obtain ⟨x', h1, rfl⟩ := Option.map_eq_some_iff.1 hc
    have r1 := hf x (by simp [ho, Op.operands]) x' h1
    simp only [evN] at he
    split at he
    · rename_i vs hb
      rw [hb] at r1
      obtain ⟨us', e1, hl⟩ := r1
      obtain ⟨c, hc', hh⟩ := Option.map_eq_some_iff.1 he
      obtain ⟨r, hr, hrep⟩ := hl.get hc'
      exact same (r := r) (by simp [execOp, ho, e1, Instr.extract, hr]) (by rw [hh]) hrep
    · cases he
  · -- lookup
    rename_i t x n ok ho
    split at hc
    · rename_i x' n' hu h1 h2
      obtain rfl := Option.some.inj hc
      have r1 := hf x (by simp [ho, Op.operands]) x' h1
      have r2 := hf n (by simp [ho, Op.operands]) n' h2
      simp only [evN] at he
      split at he
      · rename_i mt' ty es k hx hn
        rw [hx] at r1
        have hk := (keyN_rep r2 hn).1
        have e2 := (keyN_rep r2 hn).2
        obtain ⟨b, e1, _, hr⟩ := r1
        split at he
        · rename_i hmt
          subst hmt
          have hP := IsP.eq (P := P)
          subst hP
          have hrun := hr.look hk ok
          refine same (c := lookAV ok ty es k) (r := if ok then .tuple #[mval ty ((mget es k).getD ty.dflt), .bool (mget es k).isSome] else mval ty ((mget es k).getD ty.dflt)) ?_ he (lookAV_rep _ _ _ _)
          simp [execOp, ho, e1, e2, hrun, Result.andThen]
        · cases he
      · cases he
    · cases hc
  · -- index
    rename_i t x n ho
    split at hc
    · rename_i len hlen
      split at hc
      · rename_i x' n' h2 h3
        obtain rfl := Option.some.inj hc
        have r1 := hf x (by simp [ho, Op.operands]) x' h2
        have r2 := hf n (by simp [ho, Op.operands]) n' h3
        simp only [evN] at he
        split at he
        · rename_i cs k m hx hn
          rw [hx] at r1
          rw [hn] at r2
          obtain ⟨vs, e1, hl⟩ := r1
          have e2 : a.eval n = .int k m := r2
          split at he
          · rename_i h0
            obtain ⟨c, hcc, hh⟩ := Option.map_eq_some_iff.1 he
            obtain ⟨v', hv', hr⟩ := hl.get hcc
            have := arrLen_index (P := P) (w := w) hlen vs.toArray k m h0 (v := v') (by simpa using hv')
            refine same (c := c) (r := v') (by simp [execOp, ho, e1, e2, this]) (by rw [hh]) hr
          · cases he
        · cases he
      · cases hc
    · skip
      split at hc
      · rename_i x' n' h1 h2 h3
        obtain rfl := Option.some.inj hc
        have r1 := hf x (by simp [ho, Op.operands]) x' h2
        have r2 := hf n (by simp [ho, Op.operands]) n' h3
        simp only [evN] at he
        split at he
        · rename_i s k m hx hn
          rw [hx] at r1
          rw [hn] at r2
          have e1 : a.eval x = .string s := r1
          have e2 : a.eval n = .int k m := r2
          split at he
          · rename_i h0
            obtain ⟨b, hb, hh⟩ := Option.map_eq_some_iff.1 he
            exact same (r := .int .u8 b.toNat) (by simp [execOp, ho, e1, e2, Instr.index, asIntOf, run_underlying h1, h0, hb]) (c := .int .u8 b.toNat) (by rw [hh]) rfl
          · cases he
        · cases he
      · cases hc
  · -- makeFunc
    rename_i g first caps ho
    split at hc
    · rename_i h0
      obtain ⟨ys, h1, rfl⟩ := Option.map_eq_some_iff.1 hc
      have hfst : first = #[] := by
        have : first.toList = [] := by simpa using h0
        rw [← Array.toArray_toList (xs := first), this]
      have hl := ofL_rep (σ := σ) (w := w) (im := imm ob σ) (f := f) (a := a) h1 (fun x hx => hf x (by simp [ho, Op.operands]; exact .inr (by simpa using hx)))
      refine same (r := .func (.func g) #[] (caps.map a.eval)) (by simp [execOp, ho, hfst, Instr.makeFunc]) he ⟨_, ?_, hl⟩
      rw [← Array.toArray_toList (xs := caps.map a.eval), Array.toList_map]
    · cases hc
  · cases hc
end
end Go.Proofs.YtefolocdfgelcaaDoor
