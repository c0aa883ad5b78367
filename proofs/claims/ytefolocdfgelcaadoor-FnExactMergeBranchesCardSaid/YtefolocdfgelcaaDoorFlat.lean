/- Slices of structs whose fields are all integers, bools and strings: what lies in their cells, and how such a row is read; no condition. -/
import Derived.Test.YtefolocdfgelcaaDoorIntS
namespace Go.Proofs.YtefolocdfgelcaaDoor
open Go.RowKit Go.Deep

def Ty.flat : Ty → Bool
  | .int | .bool | .str => true
  | .slice _ => false
  | .pair a b => a.flat && b.flat
def Ty.enc : (t : Ty) → t.D → List Value
  | .int, n => [.int .i64 n]
  | .bool, b => [.bool b]
  | .str, s => [.string s]
  | .slice _, _ => []
  | .pair a b, x => a.enc x.1 ++ b.enc x.2
theorem Ty.enc_length : ∀ {t : Ty} (x : t.D), t.flat = true → (t.enc x).length = t.size
  | .int, _, _ => rfl
  | .bool, _, _ => rfl
  | .str, _, _ => rfl
  | .slice _, _, h => by simp [Ty.flat] at h
  | .pair a b, x, h => by
    simp only [Ty.flat, Bool.and_eq_true] at h
    simp only [Ty.enc, List.length_append, Ty.enc_length _ h.1, Ty.enc_length _ h.2, Ty.size]
theorem range_split_ (a b : Nat) (ad : Addr) : (List.range (a + b)).map (ad.add ·) = (List.range a).map (ad.add ·) ++ (List.range b).map ((ad.add a).add ·) := by
  rw [List.range_add, List.map_append, List.map_map]
  congr 1
  exact List.map_congr_left fun j _ => by simp [add_of_add]
theorem Ty.mem_flat {R : Nat → Prop} {w : World} : ∀ {t : Ty} {a : Addr} {x : t.D}, t.flat = true → (∀ j, j < t.size → w.cell? (a.add j) = (t.enc x)[j]?) → Ty.Mem R w t a x ((List.range t.size).map (a.add ·))
  | .int, a, x, _, h => ⟨by simpa [Ty.enc, Addr.add] using h 0 (by simp [Ty.size]), by simp [Ty.size, Addr.add, List.range_succ]⟩
  | .bool, a, x, _, h => ⟨by simpa [Ty.enc, Addr.add] using h 0 (by simp [Ty.size]), by simp [Ty.size, Addr.add, List.range_succ]⟩
  | .str, a, x, _, h => ⟨by simpa [Ty.enc, Addr.add] using h 0 (by simp [Ty.size]), by simp [Ty.size, Addr.add, List.range_succ]⟩
  | .slice _, _, _, hf, _ => by simp [Ty.flat] at hf
  | .pair t u, a, x, hf, h => by
    simp only [Ty.flat, Bool.and_eq_true] at hf
    refine ⟨_, _, Ty.mem_flat hf.1 (fun j hj => ?_), Ty.mem_flat (a := a.add t.size) hf.2 (fun j hj => ?_), range_split_ _ _ _⟩
    · rw [h j (by simp only [Ty.size]; omega)]
      simp only [Ty.enc]
      rw [List.getElem?_append_left (by rw [Ty.enc_length _ hf.1]; exact hj)]
    · rw [add_of_add, h _ (by simp only [Ty.size]; omega)]
      simp only [Ty.enc]
      rw [List.getElem?_append_right (by rw [Ty.enc_length _ hf.1]; omega), Ty.enc_length _ hf.1]
      congr 1; omega
theorem Ty.Mem.flat {R : Nat → Prop} {w : World} : ∀ {t : Ty} {a : Addr} {x : t.D} {l : List Addr}, t.flat = true → Ty.Mem R w t a x l → (∀ j, j < t.size → w.cell? (a.add j) = (t.enc x)[j]?) ∧ l = (List.range t.size).map (a.add ·)
  | .int, a, x, l, _, ⟨h, e⟩ => ⟨fun j hj => by obtain rfl : j = 0 := by simp [Ty.size] at hj; omega
                                                simpa [Ty.enc, Addr.add] using h, by simp [e, Ty.size, Addr.add, List.range_succ]⟩
  | .bool, a, x, l, _, ⟨h, e⟩ => ⟨fun j hj => by obtain rfl : j = 0 := by simp [Ty.size] at hj; omega
                                                 simpa [Ty.enc, Addr.add] using h, by simp [e, Ty.size, Addr.add, List.range_succ]⟩
  | .str, a, x, l, _, ⟨h, e⟩ => ⟨fun j hj => by obtain rfl : j = 0 := by simp [Ty.size] at hj; omega
                                                simpa [Ty.enc, Addr.add] using h, by simp [e, Ty.size, Addr.add, List.range_succ]⟩
  | .slice _, _, _, _, hf, _ => by simp [Ty.flat] at hf
  | .pair t u, a, x, l, hf, ⟨l1, l2, h1, h2, e⟩ => by
    simp only [Ty.flat, Bool.and_eq_true] at hf
    obtain ⟨c1, rfl⟩ := Ty.Mem.flat hf.1 h1
    obtain ⟨c2, rfl⟩ := Ty.Mem.flat hf.2 h2
    refine ⟨fun j hj => ?_, e.trans (range_split_ _ _ _).symm⟩
    simp only [Ty.enc]
    by_cases h : j < t.size
    · rw [c1 j h, List.getElem?_append_left (by rw [Ty.enc_length _ hf.1]; exact h)]
    · rw [List.getElem?_append_right (by rw [Ty.enc_length _ hf.1]; omega), Ty.enc_length _ hf.1, ← c2 (j - t.size) (by simp only [Ty.size] at hj; omega), add_of_add]
      congr 2; omega

section
variable {R : Nat → Prop} {w : World} {t : Ty} {A : Option Addr} {c : Nat} {xs : List t.D} {l : List Addr}
theorem sl_flat_at (hfl : t.flat = true) (h : Sl R w t A c xs l) {k : Nat} (hk : k < xs.length) :
    ∃ b o, A = some ⟨b, o, none⟩ ∧ R b ∧ ∀ j, j < t.size → w.cell? ⟨b, o + k * t.size + j, none⟩ = (t.enc xs[k])[j]? := by
  obtain ⟨b, o, f, rfl, hr, _, _, hf⟩ := sl_at h (by omega)
  refine ⟨b, o, rfl, hr, fun j hj => ?_⟩
  rw [← add_mk]
  exact ((hf k hk).flat hfl).1 j hj
theorem flat_addrs (g n c : Nat) : (List.range n).flatMap (fun i => (List.range c).map (((⟨g, 0, none⟩ : Addr).add (i * c)).add ·)) = (List.range (n * c)).map fun j => (⟨g, j, none⟩ : Addr) := by
  induction n with
  | zero => simp
  | succ n ih =>
    rw [List.range_succ, List.flatMap_append, ih, Nat.succ_mul, List.range_add, List.map_append, List.map_map]
    congr 1
    simp only [List.flatMap_cons, List.flatMap_nil, List.append_nil]
    refine List.map_congr_left fun j _ => ?_
    rw [add_of_add]
    simp only [Function.comp_apply, Addr.add]
    split <;> simp_all
theorem sl_of_row_flat {g n : Nat} {tt : TypeId} {f : Nat → Value} (hfl : t.flat = true) (h : w.rowIs g tt (n * t.size) f) (hn : xs.length = n) (hc : n ≤ c) (hm : c ≤ maxLen) (hR : R g)
    (hf : ∀ (i : Nat) (hi : i < xs.length) (j : Nat), j < t.size → (t.enc xs[i])[j]? = some (f (i * t.size + j))) :
    Sl R w t (some ⟨g, 0, none⟩) c xs ((List.range (n * t.size)).map fun j => (⟨g, j, none⟩ : Addr)) := by
  subst hn
  refine ⟨hc, hm, fun i => (List.range t.size).map (((⟨g, 0, none⟩ : Addr).add (i * t.size)).add ·), (flat_addrs g xs.length t.size).symm, fun _ => ⟨_, rfl, hR, fun i hi => ?_⟩⟩
  refine Ty.mem_flat hfl fun j hj => ?_
  rw [hf i hi j hj, add_of_add]
  have ha : (⟨g, 0, none⟩ : Addr).add (i * t.size + j) = ⟨g, i * t.size + j, none⟩ := by simp [Addr.add]; intro h1 h2; omega
  rw [ha]
  refine h.cell ?_
  calc i * t.size + j < i * t.size + t.size := by omega
    _ = (i + 1) * t.size := (Nat.succ_mul i _).symm
    _ ≤ xs.length * t.size := Nat.mul_le_mul_right _ hi
theorem run_make_rowN {P : Program} (t e : TypeId) (z : Array Value) (sz bytes : Nat) (ht : P.underlying t = some (.slice e)) (hinfo : (P.info? e).map (fun i => (i.zero.map (·.cells), i.size, i.bytes)) = some (some z, sz, bytes))
    (kl kc : IntKind) (n : Nat) (hbytes : bytes * n ≤ 281474976710656) (h63 : n ≤ 9223372036854775807) (w : World) :
    (Instr.makeSlice t (.int kl (n : Int)) (.int kc (n : Int))).run P w = .ok (.slice (some ⟨w.heap.size, 0, none⟩) n n) (w.alloc (.cells (madeCells z (n * sz)) e)) := by
  obtain ⟨i, hi, hzz⟩ := Option.map_eq_some_iff.1 hinfo
  simp only [Prod.mk.injEq, Option.map_eq_some_iff] at hzz
  obtain ⟨⟨z', hz, rfl⟩, rfl, rfl⟩ := hzz
  have hb : (i.bytes : Int) * (n : Int) ≤ 281474976710656 := by
    have h : ((i.bytes * n : Nat) : Int) ≤ 281474976710656 := by omega
    rwa [Int.natCast_mul] at h
  have hr := run_make (P := P) w t e i z' ht hi hz kl kc n n (by omega) (by omega) hb (by omega)
  simp only [Int.toNat_natCast] at hr
  exact hr
theorem rowIs_madeN (w : World) (z : Array Value) (n : Nat) (t : TypeId) : (w.alloc (.cells (madeCells z n) t)).rowIs w.heap.size t n (fun j => z[j % z.size]!) := by
  have := World.rowIs_alloc w (madeCells z n) t (fun j => z[j % z.size]!) (fun i hi => by simp [madeCells] at hi; simp [madeCells, hi])
  rwa [show (madeCells z n).size = n by simp [madeCells]] at this
/-- The j-th cell of a row of flat structs, sz cells each. -/
def Ty.cellAt (t : Ty) (sz : Nat) (xs : List t.D) (j : Nat) : Value := (t.enc (xs.getD (j / sz) t.dflt)).getD (j % sz) (.int .i64 0)
theorem Ty.cellAt_eq (t : Ty) (sz : Nat) (xs : List t.D) (k j : Nat) (hk : k < xs.length) (hj : j < sz) : t.cellAt sz xs (k * sz + j) = (t.enc xs[k]).getD j (.int .i64 0) := by
  have h1 : (k * sz + j) / sz = k := by rw [Nat.mul_comm, Nat.mul_add_div (by omega), Nat.div_eq_of_lt hj, Nat.add_zero]
  have h2 : (k * sz + j) % sz = j := by rw [Nat.mul_comm, Nat.mul_add_mod, Nat.mod_eq_of_lt hj]
  simp only [Ty.cellAt, h1, h2]
  rw [List.getD_eq_getElem?_getD (l := xs), List.getElem?_eq_getElem hk, Option.getD_some]
theorem sl_of_cells {sz g c lo : Nat} {tt : TypeId} {f : Nat → Value} (hfl : t.flat = true) (hsz : t.size = sz) (h : w.rowIs g tt (xs.length * sz) f) (hc : xs.length ≤ c) (hm : c ≤ maxLen) (hR : R g) (hlo : lo ≤ g)
    (hf : ∀ j, j < xs.length * sz → f j = t.cellAt sz xs j) :
    ∃ l, Sl R w t (some ⟨g, 0, none⟩) c xs l ∧ Fresh w lo l := by
  subst hsz
  refine ⟨_, sl_of_row_flat hfl h rfl hc hm hR fun i hi j hj => ?_, fresh_row h hlo⟩
  have hlt : i * t.size + j < xs.length * t.size := by
    calc i * t.size + j < i * t.size + t.size := by omega
      _ = (i + 1) * t.size := (Nat.succ_mul i _).symm
      _ ≤ xs.length * t.size := Nat.mul_le_mul_right _ hi
  rw [hf _ hlt, Ty.cellAt_eq t _ xs i j hi hj, List.getD_eq_getElem?_getD, List.getElem?_eq_getElem (by rw [Ty.enc_length _ hfl]; exact hj), Option.getD_some]
end
end Go.Proofs.YtefolocdfgelcaaDoor
