/- Maps of integers that a call has made, and the lists of entries that they read as; no condition. -/
import Derived.Test.YthjdknddcceigaaDoorOwn
import Derived.Maps.OwnSet
namespace Go.Proofs.YthjdknddcceigaaDoor
open Go.RowKit Go.Deep Go.ChangeMaps Go.MapKept

section
variable {V : Type}
def mget (es : List (Int × V)) (k : Int) : Option V := (es.find? fun e => e.1 == k).map (·.2)
def mdel (es : List (Int × V)) (k : Int) : List (Int × V) := es.filter fun e => !(e.1 == k)
def mput (es : List (Int × V)) (k : Int) (v : V) : List (Int × V) := (k, v) :: mdel es k
theorem mget_put_same (es : List (Int × V)) (k : Int) (v : V) : mget (mput es k v) k = some v := by simp [mget, mput]
theorem mget_del_other {es : List (Int × V)} {k k' : Int} (h : k' ≠ k) : mget (mdel es k) k' = mget es k' := by
  unfold mget mdel
  rw [List.find?_filter]
  congr 1
  refine congrArg (fun f => es.find? f) (funext fun e => ?_)
  by_cases he : e.1 = k'
  · have : (e.1 == k) = false := beq_eq_false_iff_ne.2 (by rw [he]; exact h)
    simp [he, h]
  · simp [he]
theorem mget_put_other {es : List (Int × V)} {k k' : Int} {v : V} (h : k' ≠ k) : mget (mput es k v) k' = mget es k' := by
  have h1 := mget_del_other (es := es) h
  unfold mput
  rw [← h1]
  unfold mget
  rw [List.find?_cons_of_neg (by simpa using fun e => h e.symm)]
theorem mget_del_same (es : List (Int × V)) (k : Int) : mget (mdel es k) k = none := by
  unfold mget mdel
  rw [Option.map_eq_none_iff, List.find?_eq_none]
  intro e he
  have := (List.mem_filter.1 he).2
  simpa using this
theorem mdel_keys (es : List (Int × V)) (k : Int) : (mdel es k).map (·.1) = (es.map (·.1)).filter fun x => !(x == k) := by
  unfold mdel; rw [List.filter_map]; rfl
theorem mdel_nd {es : List (Int × V)} (h : (es.map (·.1)).Nodup) (k : Int) : ((mdel es k).map (·.1)).Nodup := by
  rw [mdel_keys]; exact h.filter _
theorem mput_nd {es : List (Int × V)} (h : (es.map (·.1)).Nodup) (k : Int) (v : V) : ((mput es k v).map (·.1)).Nodup := by
  unfold mput
  rw [List.map_cons, List.nodup_cons]
  refine ⟨fun hm => ?_, mdel_nd h k⟩
  rw [mdel_keys] at hm
  have := (List.mem_filter.1 hm).2
  simp at this
theorem mdel_len : ∀ {es : List (Int × V)} (k : Int), (es.map (·.1)).Nodup → (mdel es k).length + (if (mget es k).isSome then 1 else 0) = es.length
  | [], k, _ => rfl
  | (x, v) :: r, k, h => by
    rw [List.map_cons, List.nodup_cons] at h
    have ih := mdel_len k h.2
    by_cases hx : x = k
    · subst hx
      have hn : mget r x = none := by
        unfold mget
        rw [Option.map_eq_none_iff, List.find?_eq_none]
        intro e he hb
        rw [beq_iff_eq] at hb
        exact h.1 (List.mem_map.2 ⟨e, he, hb⟩)
      rw [hn] at ih
      have h1 : mget ((x, v) :: r) x = some v := by simp [mget]
      have h2 : mdel ((x, v) :: r) x = mdel r x := by simp [mdel]
      rw [h1, h2]
      simp at ih ⊢
      omega
    · have h1 : mget ((x, v) :: r) k = mget r k := by
        unfold mget; rw [List.find?_cons_of_neg (by simpa using hx)]
      have h2 : mdel ((x, v) :: r) k = (x, v) :: mdel r k := by
        unfold mdel; rw [List.filter_cons_of_pos (by simpa using hx)]
      rw [h1, h2, List.length_cons, List.length_cons]
      omega
end
/-- How a map's element reads. -/
def valD : (t : Ty) → t.D → DataW Unit
  | .int, n => .lit (.int .i64 n)
  | .bool, b => .lit (.bool b)
  | _, _ => .agg []
/-- The map's data are what the list of entries says. -/
structure MapIs (t : Ty) (es : List (Int × t.D)) (D : DataW Unit) : Prop where
  tidy : Maps.Tidy D
  nd : (es.map (·.1)).Nodup
  get : ∀ k z, D.atKey (.int .i64 k) z = ((mget es k).map (valD t)).getD z
  has : ∀ k, Maps.has D (.int .i64 k) = (mget es k).isSome
  size : Maps.size D = es.length
theorem lit_ne {k k' : Int} (h : k' ≠ k) : Lit.int .i64 k' ≠ Lit.int .i64 k := fun e => h (Lit.int.inj e).2
theorem MapIs.nil (t : Ty) : MapIs t [] (.map []) := ⟨Maps.tidy_empty, .nil, fun _ _ => rfl, fun _ => rfl, rfl⟩
theorem MapIs.put {t : Ty} {es : List (Int × t.D)} {D : DataW Unit} (h : MapIs t es D) (k : Int) (v : t.D) : MapIs t (mput es k v) (D.put (.int .i64 k) (valD t v)) := by
  refine ⟨h.tidy.put (k := .int .i64 k) trivial _, mput_nd h.nd k v, fun k' z => ?_, fun k' => ?_, ?_⟩
  · by_cases e : k' = k
    · subst e; rw [Maps.atKey_put_same (k := .int .i64 k') h.tidy.isMap trivial, mget_put_same]; rfl
    · rw [Maps.atKey_put_other (lit_ne e), mget_put_other e, h.get]
  · by_cases e : k' = k
    · subst e; rw [Maps.has_put_same (k := .int .i64 k') h.tidy.isMap trivial, mget_put_same]; rfl
    · rw [Maps.has_put_other (lit_ne e), mget_put_other e, h.has]
  · rw [Maps.size_put h.tidy, h.has, h.size]
    have := mdel_len (es := es) k h.nd
    unfold mput
    rw [List.length_cons]
    split <;> rename_i hh <;> simp [hh] at this <;> omega
theorem MapIs.del {t : Ty} {es : List (Int × t.D)} {D : DataW Unit} (h : MapIs t es D) (k : Int) : MapIs t (mdel es k) (D.del (.int .i64 k)) := by
  refine ⟨h.tidy.del _, mdel_nd h.nd k, fun k' z => ?_, fun k' => ?_, ?_⟩
  · by_cases e : k' = k
    · subst e; rw [Maps.atKey_del_same, mget_del_same]; rfl
    · rw [Maps.atKey_del_other (lit_ne e), mget_del_other e, h.get]
  · by_cases e : k' = k
    · subst e; rw [Maps.has_del_same, mget_del_same]; rfl
    · rw [Maps.has_del_other (lit_ne e), mget_del_other e, h.has]
  · have h1 := Maps.size_del (k := .int .i64 k) h.tidy
    have h2 := mdel_len (es := es) k h.nd
    rw [h.has, h.size] at h1
    omega
/-- A map's element type: integers, truth values. -/
def mapElem (P : Program) (e : TypeId) (t : Ty) : Bool :=
  match t, P.underlying e, (P.info? e).bind (·.zero) with
  | .int, some (.int .i64), some (.int .i64 n) => n == 0
  | .bool, some .bool, some (.bool b) => !b
  | _, _, _ => false
def MapTy (P : Program) (mt : TypeId) (t : Ty) (kt et : TypeId) : Prop := P.underlying mt = some (.map kt et) ∧ P.underlying kt = some (.int .i64) ∧ mapElem P et t = true
/-- A block is a map that reads as a list of entries. -/
def MapRep (P : Program) (mt : TypeId) (t : Ty) (es : List (Int × t.D)) (w : World) (b : Nat) : Prop :=
  ∃ kt et D, MapTy P mt t kt et ∧ w.ownsMap P kt (plainElem P et) b es.length D ∧ MapIs t es D
section
variable {P : Program} {mt : TypeId} {t : Ty} {es : List (Int × t.D)} {w w' : World} {b : Nat}
theorem MapRep.lt (h : MapRep P mt t es w b) : b < w.heap.size := by
  obtain ⟨_, _, _, _, h, _⟩ := h
  exact h.lt
theorem MapRep.same (h : MapRep P mt t es w b) (he : w'.heap[b]? = w.heap[b]?) : MapRep P mt t es w' b := by
  obtain ⟨kt, et, D, ht, ⟨ms, clock, h1, h2⟩, hi⟩ := h
  exact ⟨kt, et, D, ht, ⟨ms, clock, he.trans h1, h2⟩, hi⟩
theorem ownsMap_len {H : Type} {P : Program} {w : World} {k : TypeId} {R : Value → Option (DataW H × List MemPlace)} {b n : Nat} {D : DataW H} (h : w.ownsMap P k R b n D) : w.ownsMap P k R b (Maps.size D) D := by
  obtain ⟨ms, clock, h1, h2, _, h4⟩ := h
  refine ⟨ms, clock, h1, h2, ?_, h4⟩
  subst h4
  simp [Maps.size, length_sorted]
/-- The value of an element. -/
def mval : (t : Ty) → t.D → Value
  | .int, n => .int .i64 n
  | .bool, b => .bool b
  | _, _ => undef
def i64R (n : Int) : Prop := -9223372036854775808 ≤ n ∧ n ≤ 9223372036854775807
instance (n : Int) : Decidable (i64R n) := inferInstanceAs (Decidable (_ ∧ _))
theorem i64R_wf {n : Int} (h : i64R n) : (Lit.int .i64 n).wf = true := by
  obtain ⟨h1, h2⟩ := h
  simp [Lit.wf, IntKind.min, IntKind.max, IntKind.signed, IntKind.bits]
  omega
theorem plainElem_bool_inv {H : Type} {P : Program} {e : TypeId} (he : P.underlying e = some .bool) {v : Value} {z : DataW H × List MemPlace} (h : plainElem P e v = some z) : ∃ b, v = .bool b ∧ z = (.lit (.bool b), []) := by
  unfold plainElem at h
  rw [he] at h
  cases v <;> simp at h
  exact ⟨_, rfl, h.symm⟩
theorem mapElem_spec {e : TypeId} (h : mapElem P e t = true) : ((t = .int ∧ P.underlying e = some (.int .i64)) ∨ (t = .bool ∧ P.underlying e = some .bool)) ∧ (∀ w, (zeroValue e).run P w = .ok (mval t t.dflt) w) ∧
    (∀ d, plainElem (H := Unit) P e (mval t t.dflt) = d → d = some (valD t t.dflt, [])) ∧ ∀ v z, plainElem (H := Unit) P e v = some z → ∃ x : t.D, v = mval t x ∧ z = (valD t x, []) := by
  unfold mapElem at h
  split at h
  · rename_i n hu hz
    have hn : n = 0 := by simpa using h
    subst hn
    obtain ⟨i, hi, hz⟩ := Option.bind_eq_some_iff.1 hz
    refine ⟨.inl ⟨rfl, hu⟩, fun w => by simp [zeroValue, typeInfo, hi, hz, mval, Ty.dflt], fun d hd => ?_, fun v z hv => ?_⟩
    · rw [← hd]; exact plainElem_int hu (by decide)
    · obtain ⟨a, h1, h2, _⟩ := plainElem_int_inv hu hv
      exact ⟨a, h1, h2⟩
  · rename_i b hu hz
    have hb : b = false := by simpa using h
    subst hb
    obtain ⟨i, hi, hz⟩ := Option.bind_eq_some_iff.1 hz
    refine ⟨.inr ⟨rfl, hu⟩, fun w => by simp [zeroValue, typeInfo, hi, hz, mval, Ty.dflt], fun d hd => ?_, fun v z hv => ?_⟩
    · rw [← hd]; exact plainElem_bool hu _
    · exact plainElem_bool_inv hu hv
  · cases h
theorem valD_inj {x y : t.D} (hm : t = .int ∨ t = .bool) (h : valD t x = valD t y) : x = y := by
  rcases hm with rfl | rfl
  · simp only [valD, DataW.lit.injEq, Lit.int.injEq, true_and] at h; exact h
  · simp only [valD, DataW.lit.injEq, Lit.bool.injEq] at h; exact h
/-- A look-up. -/
theorem MapRep.look (h : MapRep P mt t es w b) {k : Int} (hk : i64R k) (ok : Bool) : (Instr.lookup mt (.map (some b)) (.int .i64 k) ok).run P w = .ok (if ok then .tuple #[mval t ((mget es k).getD t.dflt), .bool (mget es k).isSome] else mval t ((mget es k).getD t.dflt)) w := by
  obtain ⟨kt, et, D, ⟨h1, h2, h3⟩, ho, hi⟩ := h
  obtain ⟨hm, hz, hd, hinv⟩ := mapElem_spec h3
  have hm' : t = .int ∨ t = .bool := by rcases hm with ⟨e, _⟩ | ⟨e, _⟩ <;> simp [e]
  have hkey := Maps.keyOf_int_mk h2 (i64R_wf hk)
  have K := Maps.int_keyed h2
  have key : ∀ v ps, plainElem P et v = some (D.atKey (.int .i64 k) (valD t t.dflt), ps) → v = mval t ((mget es k).getD t.dflt) := fun v ps hv => by
    obtain ⟨x, rfl, e⟩ := hinv v _ hv
    have e1 := (Prod.mk.inj e).1
    rw [hi.get] at e1
    congr 1
    cases hg : mget es k with
    | none => rw [hg] at e1; exact (valD_inj hm' e1).symm
    | some y => rw [hg] at e1; exact (valD_inj hm' e1).symm
  cases ok
  · obtain ⟨v, ps, hrun, hv⟩ := ho.lookup K h1 (hz w) (hd _ rfl) hkey
    rw [hrun, key v ps hv]; rfl
  · obtain ⟨v, ps, hrun, hv⟩ := ho.look_ok K h1 (hz w) (hd _ rfl) hkey
    rw [hrun, key v ps hv, hi.has]; rfl
theorem MapRep.len (h : MapRep P mt t es w b) (ty : TypeId) : (Builtin.len_ #[mt] ty #[.map (some b)]).run P w = .ok (.int .i64 es.length) w := by
  obtain ⟨kt, et, D, ⟨h1, h2, h3⟩, ho, hi⟩ := h
  rw [ho.len h1, hi.size]
/-- What a store or a deletion leaves of the memory. -/
theorem turned_block {b : Nat} (h : w.mapTurned w' b) : w'.os = w.os ∧ w'.tape = w.tape ∧ w'.output = w.output ∧ w'.heap.size = w.heap.size ∧ ∀ k, k ≠ b → w'.heap[k]? = w.heap[k]? := by
  obtain ⟨ms, c, ms', c', h1, rfl⟩ := h
  refine ⟨rfl, rfl, rfl, by simp [setBlock], fun k hk => ?_⟩
  exact heap_setBlock_other h1 _ hk
/-- A store. -/
theorem MapRep.put (h : MapRep P mt t es w b) {k : Int} (hk : i64R k) {x : t.D} (hx : ∀ n : Int, HEq x n → t = .int → i64R n) (hl : es.length < maxLen) : ∃ w', (Instr.mapUpdate mt (.map (some b)) (.int .i64 k) (mval t x)).run P w = .ok () w' ∧ MapRep P mt t (mput es k x) w' b ∧ w.mapTurned w' b := by
  obtain ⟨kt, et, D, ⟨h1, h2, h3⟩, ho, hi⟩ := h
  obtain ⟨hm, hz, hd, hinv⟩ := mapElem_spec h3
  have hkey := Maps.keyOf_int_mk h2 (i64R_wf hk)
  have K := Maps.int_keyed h2
  have hv : plainElem (H := Unit) P et (mval t x) = some (valD t x, []) := by
    rcases hm with ⟨rfl, hu⟩ | ⟨rfl, hu⟩
    · exact plainElem_int hu (i64R_wf (hx x HEq.rfl rfl))
    · exact plainElem_bool hu x
  obtain ⟨w', hrun, ho', hg⟩ := ho.store K h1 hl hkey hv
  have hi' := hi.put k x
  refine ⟨w', hrun, ⟨kt, et, _, ⟨h1, h2, h3⟩, ?_, hi'⟩, hg⟩
  rw [← hi'.size]
  exact ownsMap_len ho'
/-- A deletion. -/
theorem MapRep.del (h : MapRep P mt t es w b) {k : Int} (hk : i64R k) (kt' : TypeId) (hkt : ∀ kt et, P.underlying mt = some (.map kt et) → kt = kt') (ty : TypeId) : ∃ w', (Builtin.delete_ #[mt, kt'] ty #[.map (some b), .int .i64 k]).run P w = .ok (.tuple #[]) w' ∧ MapRep P mt t (mdel es k) w' b ∧ w.mapTurned w' b := by
  obtain ⟨kt, et, D, ⟨h1, h2, h3⟩, ho, hi⟩ := h
  obtain rfl := hkt _ _ h1
  have hkey := Maps.keyOf_int_mk h2 (i64R_wf hk)
  have K := Maps.int_keyed h2
  obtain ⟨w', hrun, ho', hg⟩ := ho.drop K h1 hkey ty
  have hi' := hi.del k
  refine ⟨w', hrun, ⟨kt, et, _, ⟨h1, h2, h3⟩, ?_, hi'⟩, hg⟩
  rw [← hi'.size]
  exact ownsMap_len ho'
/-- A new map. -/
theorem MapRep.made {kt et : TypeId} (ht : MapTy P mt t kt et) (w : World) : MapRep P mt t [] (w.alloc (.map #[] 0)) w.heap.size :=
  ⟨kt, et, _, ht, World.ownsMap_made w P kt (plainElem P et), MapIs.nil t⟩
end
end Go.Proofs.YthjdknddcceigaaDoor
