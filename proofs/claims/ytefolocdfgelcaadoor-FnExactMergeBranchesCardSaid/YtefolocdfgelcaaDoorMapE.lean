/- Maps of integers that a call has made, and the lists of entries that they read as; no condition. -/
import Derived.Test.YtefolocdfgelcaaDoorOwn
import Derived.Maps.OwnSet
import Derived.DeepKeys4
namespace Go.Proofs.YtefolocdfgelcaaDoor
open Go.RowKit Go.Deep Go.ChangeMaps Go.MapKept

section
variable {V : Type}
def mget (es : List (Int × V)) (k : Int) : Option V := (es.find? fun e => e.1 == k).map (·.2)
def mdel (es : List (Int × V)) (k : Int) : List (Int × V) := es.filter fun e => !(e.1 == k)
def mput (es : List (Int × V)) (k : Int) (v : V) : List (Int × V) := (k, v) :: mdel es k
theorem mget_put_same (es : List (Int × V)) (k : Int) (v : V) : mget (mput es k v) k = some v := by simp [mget, mput]
theorem mget_del_other {es : List (Int × V)} {k k' : Int} (h : k' ≠ k) : mget (mdel es k) k' = mget es k' := by
  unfold mget mdel
  rw [List.find?_filter]
  congr 1
  refine congrArg (fun f => es.find? f) (funext fun e => ?_)
  by_cases he : e.1 = k'
  · have : (e.1 == k) = false := beq_eq_false_iff_ne.2 (by rw [he]; exact h)
    simp [he, h]
  · simp [he]
theorem mget_put_other {es : List (Int × V)} {k k' : Int} {v : V} (h : k' ≠ k) : mget (mput es k v) k' = mget es k' := by
  have h1 := mget_del_other (es := es) h
  unfold mput
  rw [← h1]
  unfold mget
  rw [List.find?_cons_of_neg (by simpa using fun e => h e.symm)]
theorem mget_del_same (es : List (Int × V)) (k : Int) : mget (mdel es k) k = none := by
  unfold mget mdel
  rw [Option.map_eq_none_iff, List.find?_eq_none]
  intro e he
  have := (List.mem_filter.1 he).2
  simpa using this
theorem mdel_keys (es : List (Int × V)) (k : Int) : (mdel es k).map (·.1) = (es.map (·.1)).filter fun x => !(x == k) := by
  unfold mdel; rw [List.filter_map]; rfl
theorem mdel_nd {es : List (Int × V)} (h : (es.map (·.1)).Nodup) (k : Int) : ((mdel es k).map (·.1)).Nodup := by
  rw [mdel_keys]; exact h.filter _
theorem mput_nd {es : List (Int × V)} (h : (es.map (·.1)).Nodup) (k : Int) (v : V) : ((mput es k v).map (·.1)).Nodup := by
  unfold mput
  rw [List.map_cons, List.nodup_cons]
  refine ⟨fun hm => ?_, mdel_nd h k⟩
  rw [mdel_keys] at hm
  have := (List.mem_filter.1 hm).2
  simp at this
theorem mdel_len : ∀ {es : List (Int × V)} (k : Int), (es.map (·.1)).Nodup → (mdel es k).length + (if (mget es k).isSome then 1 else 0) = es.length
  | [], k, _ => rfl
  | (x, v) :: r, k, h => by
    rw [List.map_cons, List.nodup_cons] at h
    have ih := mdel_len k h.2
    by_cases hx : x = k
    · subst hx
      have hn : mget r x = none := by
        unfold mget
        rw [Option.map_eq_none_iff, List.find?_eq_none]
        intro e he hb
        rw [beq_iff_eq] at hb
        exact h.1 (List.mem_map.2 ⟨e, he, hb⟩)
      rw [hn] at ih
      have h1 : mget ((x, v) :: r) x = some v := by simp [mget]
      have h2 : mdel ((x, v) :: r) x = mdel r x := by simp [mdel]
      rw [h1, h2]
      simp at ih ⊢
      omega
    · have h1 : mget ((x, v) :: r) k = mget r k := by
        unfold mget; rw [List.find?_cons_of_neg (by simpa using hx)]
      have h2 : mdel ((x, v) :: r) k = (x, v) :: mdel r k := by
        unfold mdel; rw [List.filter_cons_of_pos (by simpa using hx)]
      rw [h1, h2, List.length_cons, List.length_cons]
      omega
end
/-- How a map's element reads. -/
def valD : (t : Ty) → t.D → DataW Unit
  | .int, n => .lit (.int .i64 n)
  | .bool, b => .lit (.bool b)
  | _, _ => .agg []
/-! Keys of three numbers, told as one number. -/
theorem pow_odd : ∀ {x y x' y' : Nat}, 2 ^ x * (2 * y + 1) = 2 ^ x' * (2 * y' + 1) → x = x' ∧ y = y'
  | 0, y, 0, y', h => by simp at h; omega
  | 0, y, x' + 1, y', h => by
    have e : 2 ^ (x' + 1) * (2 * y' + 1) = 2 * (2 ^ x' * (2 * y' + 1)) := by rw [Nat.pow_succ, Nat.mul_comm (2 ^ x') 2, Nat.mul_assoc]
    rw [e] at h
    generalize 2 ^ x' * (2 * y' + 1) = z at h
    simp at h; omega
  | x + 1, y, 0, y', h => by
    have e : 2 ^ (x + 1) * (2 * y + 1) = 2 * (2 ^ x * (2 * y + 1)) := by rw [Nat.pow_succ, Nat.mul_comm (2 ^ x) 2, Nat.mul_assoc]
    rw [e] at h
    generalize 2 ^ x * (2 * y + 1) = z at h
    simp at h; omega
  | x + 1, y, x' + 1, y', h => by
    have e : ∀ x y, 2 ^ (x + 1) * (2 * y + 1) = 2 * (2 ^ x * (2 * y + 1)) := fun x y => by rw [Nat.pow_succ, Nat.mul_comm (2 ^ x) 2, Nat.mul_assoc]
    rw [e, e] at h
    have := pow_odd (Nat.eq_of_mul_eq_mul_left (by decide) h)
    exact ⟨by omega, this.2⟩
def zig : Int → Nat
  | .ofNat n => 2 * n
  | .negSucc n => 2 * n + 1
theorem zig_inj : ∀ {x y : Int}, zig x = zig y → x = y
  | .ofNat _, .ofNat _, h => by simp only [zig] at h; congr 1; omega
  | .ofNat _, .negSucc _, h => by simp only [zig] at h; omega
  | .negSucc _, .ofNat _, h => by simp only [zig] at h; omega
  | .negSucc _, .negSucc _, h => by simp only [zig] at h; congr 1; omega
def encT (x : Int × Int × Int) : Int := ((2 ^ zig x.1 * (2 * (2 ^ zig x.2.1 * (2 * zig x.2.2 + 1)) + 1) : Nat) : Int)
theorem encT_inj {x y : Int × Int × Int} (h : encT x = encT y) : x = y := by
  have h1 := pow_odd (Int.ofNat.inj h)
  have h2 := pow_odd h1.2
  obtain ⟨a, b, c⟩ := x
  obtain ⟨a', b', c'⟩ := y
  have e1 : a = a' := zig_inj h1.1
  have e2 : b = b' := zig_inj h2.1
  have e3 : c = c' := zig_inj h2.2
  rw [e1, e2, e3]
/-- A key of three numbers as one number. -/
def encK (a b c : Int) : Int := encT (a, b, c)
theorem encK_inj {a b c a' b' c' : Int} (h : encK a b c = encK a' b' c') : a = a' ∧ b = b' ∧ c = c' := by
  have := encT_inj h
  simp only [Prod.mk.injEq] at this
  exact this
open Classical in
noncomputable def decK (k : Int) : Int × Int × Int := if h : ∃ x, encT x = k then Classical.choose h else (0, 0, 0)
theorem decK_enc (a b c : Int) : decK (encK a b c) = (a, b, c) := by
  have h : ∃ x, encT x = encK a b c := ⟨(a, b, c), rfl⟩
  rw [decK, dif_pos h]
  exact encT_inj (Classical.choose_spec h)
def i64R (n : Int) : Prop := -9223372036854775808 ≤ n ∧ n ≤ 9223372036854775807
instance (n : Int) : Decidable (i64R n) := inferInstanceAs (Decidable (_ ∧ _))
theorem i64R_wf {n : Int} (h : i64R n) : (Lit.int .i64 n).wf = true := by
  obtain ⟨h1, h2⟩ := h
  simp [Lit.wf, IntKind.min, IntKind.max, IntKind.signed, IntKind.bits]
  omega
/-- Is a number a key of this kind (true: three numbers)? -/
def KG (s : Bool) (k : Int) : Prop := if s then ∃ a b c, i64R a ∧ i64R b ∧ i64R c ∧ k = encK a b c else i64R k
/-- The key as a value. -/
noncomputable def kv (s : Bool) (k : Int) : Value := if s then .agg #[.int .i64 (decK k).1, .int .i64 (decK k).2.1, .int .i64 (decK k).2.2] else .int .i64 k
theorem kv_inj {s : Bool} {k k' : Int} (h : KG s k) (h' : KG s k') (he : kv s k = kv s k') : k = k' := by
  cases s with
  | false => simp only [kv, Bool.false_eq_true, if_false, Value.int.injEq, true_and] at he; exact he
  | true =>
    obtain ⟨a, b, c, _, _, _, rfl⟩ := h
    obtain ⟨a', b', c', _, _, _, rfl⟩ := h'
    simp only [kv, if_true, decK_enc] at he
    simp at he
    obtain ⟨rfl, rfl, rfl⟩ := he
    rfl
/-- The key's type goes with the kind. -/
structure KeyTy (P : Program) (kt : TypeId) (s : Bool) : Prop where
  keyed : Maps.Keyed P kt
  lit : ∀ k, KG s k → ∃ l, keyOf P kt (kv s k) = some l
noncomputable def kl (P : Program) (kt : TypeId) (s : Bool) (k : Int) : Lit := (keyOf P kt (kv s k)).getD .nil
section
variable {P : Program} {kt : TypeId} {s : Bool}
theorem KeyTy.at (h : KeyTy P kt s) {k : Int} (hk : KG s k) : keyOf P kt (kv s k) = some (kl P kt s k) := by
  obtain ⟨l, hl⟩ := h.lit k hk
  rw [kl, hl]; rfl
theorem KeyTy.ne (h : KeyTy P kt s) {k k' : Int} (hk : KG s k) (hk' : KG s k') (hne : k' ≠ k) : kl P kt s k' ≠ kl P kt s k := fun e =>
  hne (kv_inj hk' hk (h.keyed.inj (h.at hk') (e ▸ h.at hk)))
theorem KeyTy.isKey (h : KeyTy P kt s) {k : Int} (hk : KG s k) : WideAt.IsKeyLit (kl P kt s k) := h.keyed.key (h.at hk)
theorem int_key (h : P.underlying kt = some (.int .i64)) : KeyTy P kt false :=
  ⟨Maps.int_keyed h, fun k hk => ⟨_, Maps.keyOf_int_mk h (i64R_wf (by simpa [KG] using hk))⟩⟩
def is64 (P : Program) (t : TypeId) : Bool :=
  match P.underlying t with
  | some (.int .i64) => P.cellsOf t == 1
  | _ => false
/-- A struct of three integers. -/
def st3 (P : Program) (kt : TypeId) : Bool :=
  match P.underlying kt with
  | some (.struct fs) => match fs.toList with
    | [f, g, h] => (f.offset == 0 && (g.offset == 1 && h.offset == 2)) && ((is64 P f.type && (is64 P g.type && is64 P h.type)) && ((f.name != "_" && (g.name != "_" && h.name != "_")) && (P.cellsOf kt == 3 && (P.keyType kt && (P.keyTypeAt 2 kt && decide (kt < P.types.size))))))
    | _ => false
  | _ => false
theorem is64_spec {t : TypeId} (h : is64 P t = true) : P.underlying t = some (.int .i64) ∧ P.cellsOf t = 1 := by
  unfold is64 at h
  split at h
  · rename_i e; exact ⟨e, by simpa using h⟩
  · cases h
theorem st3_key (hl : laidOutB P = true) (h : st3 P kt = true) : KeyTy P kt true := by
  unfold st3 at h
  split at h
  · rename_i fs hu
    split at h
    · rename_i f g h' hfs
      simp only [Bool.and_eq_true, beq_iff_eq, decide_eq_true_eq] at h
      obtain ⟨⟨o1, o2, o3⟩, ⟨t1, t2, t3⟩, ⟨n1, n2, n3⟩, c3, k1, k2, k3⟩ := h
      obtain ⟨u1, c1⟩ := is64_spec t1
      obtain ⟨u2, c2⟩ := is64_spec t2
      obtain ⟨u3, c4⟩ := is64_spec t3
      refine ⟨Maps.Keyed.of_law (deep_law_laid hl (m := 2) (by decide) k3 k2 (by rw [hu])), fun k hk => ?_⟩
      obtain ⟨a, b, c, ha, hb, hc, rfl⟩ : ∃ a b c, i64R a ∧ i64R b ∧ i64R c ∧ k = encK a b c := by simpa [KG] using hk
      have hfs' : fs = #[f, g, h'] := by
        have := congrArg List.toArray hfs
        simpa using this
      obtain ⟨d, hd⟩ : ∃ d, P.types.size = d + 1 := ⟨P.types.size - 1, (Nat.sub_add_cancel (Nat.lt_of_le_of_lt (Nat.zero_le _) k3)).symm⟩
      have key : ∀ (t : TypeId) (x : Int), P.underlying t = some (.int .i64) → i64R x → P.keyLits (d + 1) t [.int .i64 x] = some [.int .i64 x] := fun t x ht hx => by
        simp [Program.keyLits, ht, i64R_wf hx]
      have hall : (fs.all (·.name != "_")) = true := by rw [hfs']; simp [n1, n2, n3]
      have hlits : P.keyLits (d + 1 + 1) kt [.int .i64 a, .int .i64 b, .int .i64 c] = some [.int .i64 a, .int .i64 b, .int .i64 c] := by
        unfold Program.keyLits
        simp only [hu, c3, hall, List.length_cons, List.length_nil, and_self, if_true, hfs, List.mapM_cons, List.mapM_nil, o1, o2, o3, c1, c2, c4]
        simp [key _ _ u1 ha, key _ _ u2 hb, key _ _ u3 hc]
      refine ⟨.string (keyBytes [.int .i64 a, .int .i64 b, .int .i64 c]), ?_⟩
      · simp only [kv, if_true, decK_enc]
        unfold keyOf
        rw [hu]
        simp only [k1, Value.formed, hu, c3, Value.cells, hd, hlits]
        simp
    · cases h
  · cases h
end
/-- The map's data are what the list of entries says. -/
structure MapIs (P : Program) (kt : TypeId) (s : Bool) (t : Ty) (es : List (Int × t.D)) (D : DataW Unit) : Prop where
  tidy : Maps.Tidy D
  nd : (es.map (·.1)).Nodup
  get : ∀ k z, KG s k → D.atKey (kl P kt s k) z = ((mget es k).map (valD t)).getD z
  has : ∀ k, KG s k → Maps.has D (kl P kt s k) = (mget es k).isSome
  size : Maps.size D = es.length
section
variable {P : Program} {kt : TypeId} {s : Bool}
theorem MapIs.nil (t : Ty) : MapIs P kt s t [] (.map []) := ⟨Maps.tidy_empty, .nil, fun _ _ _ => rfl, fun _ _ => rfl, rfl⟩
theorem MapIs.put {t : Ty} {es : List (Int × t.D)} {D : DataW Unit} (h : MapIs P kt s t es D) (K : KeyTy P kt s) {k : Int} (hk : KG s k) (v : t.D) : MapIs P kt s t (mput es k v) (D.put (kl P kt s k) (valD t v)) := by
  refine ⟨h.tidy.put (K.isKey hk) _, mput_nd h.nd k v, fun k' z hk' => ?_, fun k' hk' => ?_, ?_⟩
  · by_cases e : k' = k
    · subst e; rw [Maps.atKey_put_same h.tidy.isMap (K.isKey hk), mget_put_same]; rfl
    · rw [Maps.atKey_put_other (K.ne hk hk' e), mget_put_other e, h.get _ _ hk']
  · by_cases e : k' = k
    · subst e; rw [Maps.has_put_same h.tidy.isMap (K.isKey hk), mget_put_same]; rfl
    · rw [Maps.has_put_other (K.ne hk hk' e), mget_put_other e, h.has _ hk']
  · rw [Maps.size_put h.tidy, h.has _ hk, h.size]
    have := mdel_len (es := es) k h.nd
    unfold mput
    rw [List.length_cons]
    split <;> rename_i hh <;> simp [hh] at this <;> omega
theorem MapIs.del {t : Ty} {es : List (Int × t.D)} {D : DataW Unit} (h : MapIs P kt s t es D) (K : KeyTy P kt s) {k : Int} (hk : KG s k) : MapIs P kt s t (mdel es k) (D.del (kl P kt s k)) := by
  refine ⟨h.tidy.del _, mdel_nd h.nd k, fun k' z hk' => ?_, fun k' hk' => ?_, ?_⟩
  · by_cases e : k' = k
    · subst e; rw [Maps.atKey_del_same, mget_del_same]; rfl
    · rw [Maps.atKey_del_other (K.ne hk hk' e), mget_del_other e, h.get _ _ hk']
  · by_cases e : k' = k
    · subst e; rw [Maps.has_del_same, mget_del_same]; rfl
    · rw [Maps.has_del_other (K.ne hk hk' e), mget_del_other e, h.has _ hk']
  · have h1 := Maps.size_del (k := kl P kt s k) h.tidy
    have h2 := mdel_len (es := es) k h.nd
    rw [h.has _ hk, h.size] at h1
    omega
end
/-- A map's element type: integers, truth values. -/
def mapElem (P : Program) (e : TypeId) (t : Ty) : Bool :=
  match t, P.underlying e, (P.info? e).bind (·.zero) with
  | .int, some (.int .i64), some (.int .i64 n) => n == 0
  | .bool, some .bool, some (.bool b) => !b
  | _, _, _ => false
/-- Are a map's keys structs of three integers? -/
def k3 (P : Program) (mt : TypeId) : Bool :=
  match P.underlying mt with
  | some (.map kt _) => st3 P kt
  | _ => false
def MapTy (P : Program) (mt : TypeId) (t : Ty) (kt et : TypeId) : Prop := P.underlying mt = some (.map kt et) ∧ KeyTy P kt (k3 P mt) ∧ mapElem P et t = true
/-- A block is a map that reads as a list of entries. -/
def MapRep (P : Program) (mt : TypeId) (t : Ty) (es : List (Int × t.D)) (w : World) (b : Nat) : Prop :=
  ∃ kt et D, MapTy P mt t kt et ∧ w.ownsMap P kt (plainElem P et) b es.length D ∧ MapIs P kt (k3 P mt) t es D
section
variable {P : Program} {mt : TypeId} {t : Ty} {es : List (Int × t.D)} {w w' : World} {b : Nat}
theorem MapRep.lt (h : MapRep P mt t es w b) : b < w.heap.size := by
  obtain ⟨_, _, _, _, h, _⟩ := h
  exact h.lt
theorem MapRep.same (h : MapRep P mt t es w b) (he : w'.heap[b]? = w.heap[b]?) : MapRep P mt t es w' b := by
  obtain ⟨kt, et, D, ht, ⟨ms, clock, h1, h2⟩, hi⟩ := h
  exact ⟨kt, et, D, ht, ⟨ms, clock, he.trans h1, h2⟩, hi⟩
theorem ownsMap_len {H : Type} {P : Program} {w : World} {k : TypeId} {R : Value → Option (DataW H × List MemPlace)} {b n : Nat} {D : DataW H} (h : w.ownsMap P k R b n D) : w.ownsMap P k R b (Maps.size D) D := by
  obtain ⟨ms, clock, h1, h2, _, h4⟩ := h
  refine ⟨ms, clock, h1, h2, ?_, h4⟩
  subst h4
  simp [Maps.size, length_sorted]
/-- The value of an element. -/
def mval : (t : Ty) → t.D → Value
  | .int, n => .int .i64 n
  | .bool, b => .bool b
  | _, _ => undef
theorem plainElem_bool_inv {H : Type} {P : Program} {e : TypeId} (he : P.underlying e = some .bool) {v : Value} {z : DataW H × List MemPlace} (h : plainElem P e v = some z) : ∃ b, v = .bool b ∧ z = (.lit (.bool b), []) := by
  unfold plainElem at h
  rw [he] at h
  cases v <;> simp at h
  exact ⟨_, rfl, h.symm⟩
theorem mapElem_spec {e : TypeId} (h : mapElem P e t = true) : ((t = .int ∧ P.underlying e = some (.int .i64)) ∨ (t = .bool ∧ P.underlying e = some .bool)) ∧ (∀ w, (zeroValue e).run P w = .ok (mval t t.dflt) w) ∧
    (∀ d, plainElem (H := Unit) P e (mval t t.dflt) = d → d = some (valD t t.dflt, [])) ∧ ∀ v z, plainElem (H := Unit) P e v = some z → ∃ x : t.D, v = mval t x ∧ z = (valD t x, []) := by
  unfold mapElem at h
  split at h
  · rename_i n hu hz
    have hn : n = 0 := by simpa using h
    subst hn
    obtain ⟨i, hi, hz⟩ := Option.bind_eq_some_iff.1 hz
    refine ⟨.inl ⟨rfl, hu⟩, fun w => by simp [zeroValue, typeInfo, hi, hz, mval, Ty.dflt], fun d hd => ?_, fun v z hv => ?_⟩
    · rw [← hd]; exact plainElem_int hu (by decide)
    · obtain ⟨a, h1, h2, _⟩ := plainElem_int_inv hu hv
      exact ⟨a, h1, h2⟩
  · rename_i b hu hz
    have hb : b = false := by simpa using h
    subst hb
    obtain ⟨i, hi, hz⟩ := Option.bind_eq_some_iff.1 hz
    refine ⟨.inr ⟨rfl, hu⟩, fun w => by simp [zeroValue, typeInfo, hi, hz, mval, Ty.dflt], fun d hd => ?_, fun v z hv => ?_⟩
    · rw [← hd]; exact plainElem_bool hu _
    · exact plainElem_bool_inv hu hv
  · cases h
theorem valD_inj {x y : t.D} (hm : t = .int ∨ t = .bool) (h : valD t x = valD t y) : x = y := by
  rcases hm with rfl | rfl
  · simp only [valD, DataW.lit.injEq, Lit.int.injEq, true_and] at h; exact h
  · simp only [valD, DataW.lit.injEq, Lit.bool.injEq] at h; exact h
/-- A look-up. -/
theorem MapRep.look (h : MapRep P mt t es w b) {k : Int} (hk : KG (k3 P mt) k) (ok : Bool) : (Instr.lookup mt (.map (some b)) (kv (k3 P mt) k) ok).run P w = .ok (if ok then .tuple #[mval t ((mget es k).getD t.dflt), .bool (mget es k).isSome] else mval t ((mget es k).getD t.dflt)) w := by
  obtain ⟨kt, et, D, ⟨h1, h2, h3⟩, ho, hi⟩ := h
  obtain ⟨hm, hz, hd, hinv⟩ := mapElem_spec h3
  have hm' : t = .int ∨ t = .bool := by rcases hm with ⟨e, _⟩ | ⟨e, _⟩ <;> simp [e]
  have hkey := h2.at hk
  have K := h2.keyed
  have key : ∀ v ps, plainElem P et v = some (D.atKey (kl P kt (k3 P mt) k) (valD t t.dflt), ps) → v = mval t ((mget es k).getD t.dflt) := fun v ps hv => by
    obtain ⟨x, rfl, e⟩ := hinv v _ hv
    have e1 := (Prod.mk.inj e).1
    rw [hi.get _ _ hk] at e1
    congr 1
    cases hg : mget es k with
    | none => rw [hg] at e1; exact (valD_inj hm' e1).symm
    | some y => rw [hg] at e1; exact (valD_inj hm' e1).symm
  cases ok
  · obtain ⟨v, ps, hrun, hv⟩ := ho.lookup K h1 (hz w) (hd _ rfl) hkey
    rw [hrun, key v ps hv]; rfl
  · obtain ⟨v, ps, hrun, hv⟩ := ho.look_ok K h1 (hz w) (hd _ rfl) hkey
    rw [hrun, key v ps hv, hi.has _ hk]; rfl
theorem MapRep.len (h : MapRep P mt t es w b) (ty : TypeId) : (Builtin.len_ #[mt] ty #[.map (some b)]).run P w = .ok (.int .i64 es.length) w := by
  obtain ⟨kt, et, D, ⟨h1, h2, h3⟩, ho, hi⟩ := h
  rw [ho.len h1, hi.size]
/-- What a store or a deletion leaves of the memory. -/
theorem turned_block {b : Nat} (h : w.mapTurned w' b) : w'.os = w.os ∧ w'.tape = w.tape ∧ w'.output = w.output ∧ w'.heap.size = w.heap.size ∧ ∀ k, k ≠ b → w'.heap[k]? = w.heap[k]? := by
  obtain ⟨ms, c, ms', c', h1, rfl⟩ := h
  refine ⟨rfl, rfl, rfl, by simp [setBlock], fun k hk => ?_⟩
  exact heap_setBlock_other h1 _ hk
/-- A store. -/
theorem MapRep.put (h : MapRep P mt t es w b) {k : Int} (hk : KG (k3 P mt) k) {x : t.D} (hx : ∀ n : Int, HEq x n → t = .int → i64R n) (hl : es.length < maxLen) : ∃ w', (Instr.mapUpdate mt (.map (some b)) (kv (k3 P mt) k) (mval t x)).run P w = .ok () w' ∧ MapRep P mt t (mput es k x) w' b ∧ w.mapTurned w' b := by
  obtain ⟨kt, et, D, ⟨h1, h2, h3⟩, ho, hi⟩ := h
  obtain ⟨hm, hz, hd, hinv⟩ := mapElem_spec h3
  have hkey := h2.at hk
  have K := h2.keyed
  have hv : plainElem (H := Unit) P et (mval t x) = some (valD t x, []) := by
    rcases hm with ⟨rfl, hu⟩ | ⟨rfl, hu⟩
    · exact plainElem_int hu (i64R_wf (hx x HEq.rfl rfl))
    · exact plainElem_bool hu x
  obtain ⟨w', hrun, ho', hg⟩ := ho.store K h1 hl hkey hv
  have hi' := hi.put h2 hk x
  refine ⟨w', hrun, ⟨kt, et, _, ⟨h1, h2, h3⟩, ?_, hi'⟩, hg⟩
  rw [← hi'.size]
  exact ownsMap_len ho'
/-- A deletion. -/
theorem MapRep.del (h : MapRep P mt t es w b) {k : Int} (hk : KG (k3 P mt) k) (kt' : TypeId) (hkt : ∀ kt et, P.underlying mt = some (.map kt et) → kt = kt') (ty : TypeId) : ∃ w', (Builtin.delete_ #[mt, kt'] ty #[.map (some b), kv (k3 P mt) k]).run P w = .ok (.tuple #[]) w' ∧ MapRep P mt t (mdel es k) w' b ∧ w.mapTurned w' b := by
  obtain ⟨kt, et, D, ⟨h1, h2, h3⟩, ho, hi⟩ := h
  obtain rfl := hkt _ _ h1
  have hkey := h2.at hk
  have K := h2.keyed
  obtain ⟨w', hrun, ho', hg⟩ := ho.drop K h1 hkey ty
  have hi' := hi.del h2 hk
  refine ⟨w', hrun, ⟨kt, et, _, ⟨h1, h2, h3⟩, ?_, hi'⟩, hg⟩
  rw [← hi'.size]
  exact ownsMap_len ho'
/-- A new map. -/
theorem MapRep.made {kt et : TypeId} (ht : MapTy P mt t kt et) (w : World) : MapRep P mt t [] (w.alloc (.map #[] 0)) w.heap.size :=
  ⟨kt, et, _, ht, World.ownsMap_made w P kt (plainElem P et), MapIs.nil t⟩
end
attribute [irreducible] k3 encK kv
end Go.Proofs.YtefolocdfgelcaaDoor
