/- Slices of flat data that a call itself makes and lets grow, and the data that they read as; no condition. -/
import Derived.Test.YtefolocdfgelcaaDoorMark
import Derived.Laws.AppendOwnNone
import Derived.Laws.OwnMore
import Derived.OwnWalk
import Derived.Deep.RegionLaw
namespace Go.Proofs.YtefolocdfgelcaaDoor
open Go.RowKit Go.Deep

def Ty.cells (t : Ty) (xs : List t.D) : List Value := xs.flatMap t.enc
theorem Ty.cells_length {t : Ty} (hfl : t.flat = true) (xs : List t.D) : (t.cells xs).length = xs.length * t.size := by
  unfold Ty.cells
  rw [List.length_flatMap]
  have : xs.map (fun x => (t.enc x).length) = xs.map (fun _ => t.size) := List.map_congr_left fun x _ => Ty.enc_length x hfl
  rw [this, List.map_const', List.sum_replicate_nat]
theorem Ty.cells_append (t : Ty) (xs ys : List t.D) : t.cells (xs ++ ys) = t.cells xs ++ t.cells ys := by simp [Ty.cells]
theorem Ty.cells_get {t : Ty} (hfl : t.flat = true) : ∀ (xs : List t.D) (i : Nat) (hi : i < xs.length) (j : Nat), j < t.size → (t.cells xs)[i * t.size + j]? = (t.enc xs[i])[j]?
  | [], i, hi, _, _ => absurd hi (by simp)
  | x :: r, 0, _, j, hj => by
    simp only [Ty.cells, List.flatMap_cons, Nat.zero_mul, Nat.zero_add, List.getElem_cons_zero]
    rw [List.getElem?_append_left (by rw [Ty.enc_length _ hfl]; exact hj)]
  | x :: r, i + 1, hi, j, hj => by
    simp only [Ty.cells, List.flatMap_cons, List.getElem_cons_succ]
    rw [List.getElem?_append_right (by rw [Ty.enc_length _ hfl, Nat.succ_mul]; omega), Ty.enc_length _ hfl]
    rw [show (i + 1) * t.size + j - t.size = i * t.size + j by rw [Nat.succ_mul]; omega]
    exact Ty.cells_get hfl r i (by simpa using hi) j hj
theorem Ty.enc_one : ∀ {t : Ty} (x : t.D), ∀ u ∈ t.enc x, u.oneCell' = true
  | .int, _, u, h => by obtain rfl := List.mem_singleton.1 h; rfl
  | .bool, _, u, h => by obtain rfl := List.mem_singleton.1 h; rfl
  | .str, _, u, h => by obtain rfl := List.mem_singleton.1 h; rfl
  | .slice _, _, u, h => by cases h
  | .pair a b, x, u, h => by
    rcases List.mem_append.1 h with h | h
    · exact Ty.enc_one _ u h
    · exact Ty.enc_one _ u h
theorem Ty.cells_one {t : Ty} (xs : List t.D) : ∀ u ∈ t.cells xs, u.oneCell' = true := fun u h => by
  obtain ⟨x, _, hu⟩ := List.mem_flatMap.1 h
  exact Ty.enc_one x u hu
theorem Ty.cells_int (xs : List Int) : Ty.cells .int xs = xs.map (Value.int .i64) := by
  induction xs with
  | nil => rfl
  | cons x r ih => simp only [Ty.cells, List.flatMap_cons] at ih ⊢; rw [ih]; rfl

theorem alloc_has {w : World} {p : Addr} {u : Value} (o : Obj) (h : w.cell? p = some u) : (w.alloc o).cell? p = some u := (World.cell?_alloc_lt _ _ _ (World.block_lt_of_cell? w p h)).trans h
theorem alloc_drew_has {w : World} {p : Addr} {u : Value} {o : Obj} (h : w.cell? p = some u) : (w.alloc o).drew.cell? p = some u := alloc_has o h
theorem alloc_drew_thaw {w : World} {p : Addr} {b : Bool} {o : Obj} (h : w.frozen? p = b) (hlt : p.block < w.heap.size) : (w.alloc o).drew.frozen? p = b := (World.frozen?_of_block (World.grownBy_alloc w o none |>.block _ hlt (by simp))).trans h
theorem alloc_drew_below {B : Nat} {a w : World} {o : Obj} (h : Below B a w) (hB : B ≤ w.heap.size) : Below B a (w.alloc o).drew := (Below.alloc h hB o).drew
section
variable {w : World} {lo : Nat} {e : TypeId} {t : Ty} {v : Value} {n : Nat} {xs : List t.D}
/-- What a call owns reads as data, and bears marks. -/
theorem sl_of_own (hfl : t.flat = true) (h : w.ownsRow lo e t.size v n (t.cells xs)) (hn : n = xs.length) : ∃ A c l, v = .slice A xs.length c ∧ Sl (From lo) w t A c xs l ∧ Fresh w lo l := by
  subst hn
  rcases h.2 with ⟨rfl, h0⟩ | ⟨g, cap, cur, rfl, hb, hg, hc, hm, hs, ht⟩
  · obtain rfl : xs = [] := List.length_eq_zero_iff.1 h0
    exact ⟨none, 0, [], rfl, ⟨by simp, by simp [maxLen], fun _ => [], by simp, fun h => absurd h (by simp)⟩, Fresh.nil w lo⟩
  · have hlt := (Array.getElem?_eq_some_iff.1 hg).1
    have hcell : ∀ j, j < xs.length * t.size → w.cell? ⟨g, j, none⟩ = (t.cells xs)[j]? := by
      intro j hj
      rw [cell_of_row w g j cur e (0, 0) hg, ← ht, List.getElem?_take]
      simp [hj]
    refine ⟨_, cap, (List.range (xs.length * t.size)).map fun j => (⟨g, j, none⟩ : Addr), rfl, ⟨hc, hm, fun i => (List.range t.size).map (((⟨g, 0, none⟩ : Addr).add (i * t.size)).add ·), (flat_addrs g xs.length t.size).symm, fun _ => ⟨_, rfl, hb, fun i hi => ?_⟩⟩, ?_⟩
    · refine Ty.mem_flat hfl fun j hj => ?_
      have hlt' : i * t.size + j < xs.length * t.size := by
        calc i * t.size + j < i * t.size + t.size := by omega
          _ = (i + 1) * t.size := (Nat.succ_mul i _).symm
          _ ≤ xs.length * t.size := Nat.mul_le_mul_right _ hi
      rw [← Ty.cells_get hfl xs i hi j hj, add_mk, add_mk, Nat.zero_add]
      exact hcell _ hlt'
    · refine ⟨List.pairwise_map.2 (List.nodup_range.imp fun hne e => hne (by injection e)), fun p hp => ?_⟩
      obtain ⟨j, _, rfl⟩ := List.mem_map.1 hp
      exact ⟨hb, hlt, h.frozenAt j⟩
theorem own_nil (w : World) (lo : Nat) (e : TypeId) (t : Ty) : w.ownsRow lo e t.size (.slice none 0 0) 0 (t.cells []) := World.ownsRow_nil w lo e t.size
/-- A literal without elements. -/
theorem own_lit (w : World) (e : TypeId) (t : Ty) (hb : lo ≤ w.heap.size) : (w.alloc (.cells #[] e)).ownsRow lo e t.size (.slice (some ⟨w.heap.size, 0, none⟩) 0 0) 0 (t.cells []) :=
  World.ownsRow_made w #[] 0 hb (by simp [maxLen]) (by simp)
theorem own_drew (h : w.ownsRow lo e t.size v n (t.cells xs)) : w.drew.ownsRow lo e t.size v n (t.cells xs) := h
theorem own_below {w' : World} (h : w.ownsRow lo e t.size v n (t.cells xs)) (hb : Below w.heap.size w w') : w'.ownsRow lo e t.size v n (t.cells xs) := by
  refine ⟨h.1, ?_⟩
  rcases h.2 with hn | ⟨g, cap, cur, rfl, hb', hg, rest⟩
  · exact .inl hn
  · exact .inr ⟨g, cap, cur, rfl, hb', (hb.block g (Array.getElem?_eq_some_iff.1 hg).1).trans hg, rest⟩
theorem own_lt (h : w.ownsRow lo e t.size v n (t.cells xs)) : ∀ k, v.ownBlock = some k → lo ≤ k := fun k hk => (h.lt k hk).1

theorem run_append_none_ {P : Program} (base : Nat) (ty rt : TypeId) (i : TypeInfo) (size c : Nat) (ht : P.underlying ty = some (.slice e)) (hi : P.info? e = some i) (cs : List Value) (hown : w.ownsRow base e size v n cs) :
    (Builtin.append_ #[ty, ty] rt #[v, .slice none 0 c]).run P w = .ok v w := by
  rcases hown.2 with ⟨rfl, rfl⟩ | ⟨g, cap, cur, rfl, _, _, hnc, _⟩
  · simp [Builtin.append_, run_underlying ht, sizeOf, typeInfo, hi, Builtin.lenOf, Builtin.firstCells]
  · simp [Builtin.append_, run_underlying ht, sizeOf, typeInfo, hi, Builtin.lenOf, Builtin.firstCells, hnc, storeCells]
variable {P : Program} {ops : Array Oper} {rest : List Oper} {o : Oper} {a : Act} {Q : Exit → Act → World → Prop}
/-- 'append' of all elements of a slice to what the call owns. -/
theorem own_append_sl {R : Nat → Prop} {A : Option Addr} {c : Nat} {ys : List t.D} {l : List Addr} {K : Act → World → Prop} (s x : Operand) (ty : TypeId)
    (ho : o.op = .call { callee := .builtin .append, args := #[s, x], argTypes := #[ty, ty] }) (base bytes : Nat) {z : Value} (ht : P.underlying ty = some (.slice e))
    (hinfo : (P.info? e).map (fun i => (i.zero, i.size, i.bytes)) = some (some z, t.size, bytes)) (hzs : z.cells.size = t.size) (hsz : 0 < t.size) (hfl : t.flat = true)
    (hs : a.eval s = v) (hown : w.ownsRow base e t.size v n (t.cells xs)) (hn : n = xs.length) (hy : Sl R w t A c ys l) (hx : a.eval x = .slice A ys.length c)
    (hbytes : (xs.length + ys.length) * bytes ≤ 140737488355328) (h63 : xs.length + ys.length ≤ 9007199254740992) (hbase : base ≤ w.heap.size)
    (h : ∀ v' w', w'.ownsRow base e t.size v' (xs ++ ys).length (t.cells (xs ++ ys)) → Below base w w' → K (a.put o.dst v') w') : o.wp P a w K Q := by
  subst hn
  obtain ⟨i, hi, hz, hsize, hby⟩ := info_parts hinfo
  have hlt := own_lt hown
  cases A with
  | none =>
    have h0 : ys = [] := by
      rcases Nat.eq_zero_or_pos ys.length with h0 | h0
      · exact List.length_eq_zero_iff.1 h0
      · obtain ⟨_, _, _, _, hf⟩ := hy
        obtain ⟨ad, he, _⟩ := hf h0
        cases he
    subst h0
    rw [List.append_nil] at h
    have hrun := run_append_none_ (P := P) base ty o.type i t.size c ht hi _ hown
    have hx' : a.eval x = .slice none 0 c := hx
    unfold Oper.wp
    simp [execOp, ho, resolve, invoke, builtin, hs, hx', hrun, Result.andThen]
    exact h v w hown (Below.refl base w)
  | some ad =>
    refine wp_append_own w s x ty ho base e i z t.size bytes ht hi hz hsize hby hzs hsz v xs.length _ hs hown ad ys.length c (t.cells ys) hx (Ty.cells_length hfl ys) ?_ (Ty.cells_one ys) (by simp only [maxLen]; omega) hbytes hbase ?_
    · intro j u hj
      have hlt' := (List.getElem?_eq_some_iff.1 hj).1
      rw [Ty.cells_length hfl] at hlt'
      have hi' : j / t.size < ys.length := Nat.div_lt_of_lt_mul (by rw [Nat.mul_comm]; exact hlt')
      have h0 : 0 < ys.length := Nat.lt_of_le_of_lt (Nat.zero_le _) hi'
      have hm := Nat.mod_lt j hsz
      have hj' : j / t.size * t.size + j % t.size = j := by rw [Nat.mul_comm]; exact Nat.div_add_mod j t.size
      obtain ⟨_, _, f, _, hf⟩ := hy
      obtain ⟨ad', he, _, hmem⟩ := hf h0
      obtain rfl := Option.some.inj he
      have := ((hmem _ hi').flat hfl).1 _ hm
      rw [add_of_add, hj', ← Ty.cells_get hfl ys _ hi' _ hm, hj'] at this
      rw [this]; exact hj
    · intro v' w' hown' hg _
      rw [← Ty.cells_append] at hown'
      rw [List.length_append] at h
      exact h v' w' hown' ((Below.refl base w).grown hg hbase hlt)
/-- The same as a step of a list of operations, and as a step of a region that draws its order. -/
theorem wp_append_sl {R : Nat → Prop} {A : Option Addr} {c : Nat} {ys : List t.D} {l : List Addr} (hgd : o.guard = none) (s x : Operand) (ty : TypeId)
    (ho : o.op = .call { callee := .builtin .append, args := #[s, x], argTypes := #[ty, ty] }) (base bytes : Nat) {z : Value} (ht : P.underlying ty = some (.slice e))
    (hinfo : (P.info? e).map (fun i => (i.zero, i.size, i.bytes)) = some (some z, t.size, bytes)) (hzs : z.cells.size = t.size) (hsz : 0 < t.size) (hfl : t.flat = true)
    (hs : a.eval s = v) (hown : w.ownsRow base e t.size v n (t.cells xs)) (hn : n = xs.length) (hy : Sl R w t A c ys l) (hx : a.eval x = .slice A ys.length c)
    (hbytes : (xs.length + ys.length) * bytes ≤ 140737488355328) (h63 : xs.length + ys.length ≤ 9007199254740992) (hbase : base ≤ w.heap.size)
    (h : ∀ v' w', w'.ownsRow base e t.size v' (xs ++ ys).length (t.cells (xs ++ ys)) → Below base w w' → wpList P ops Q rest (a.put o.dst v') w') : wpList P ops Q (o :: rest) a w :=
  wpList_plain hgd fun _ hK => own_append_sl s x ty ho base bytes ht hinfo hzs hsz hfl hs hown hn hy hx hbytes h63 hbase fun v' w' h1 h2 => hK _ _ (h v' w' h1 h2)
theorem step_append_sl {R : Nat → Prop} {A : Option Addr} {c : Nat} {ys : List t.D} {l : List Addr} {K : Act → World → Prop} {E : Prop} (hgd : o.guard = none) (s x : Operand) (ty : TypeId)
    (ho : o.op = .call { callee := .builtin .append, args := #[s, x], argTypes := #[ty, ty] }) (base bytes : Nat) {z : Value} (ht : P.underlying ty = some (.slice e))
    (hinfo : (P.info? e).map (fun i => (i.zero, i.size, i.bytes)) = some (some z, t.size, bytes)) (hzs : z.cells.size = t.size) (hsz : 0 < t.size) (hfl : t.flat = true)
    (hs : a.eval s = v) (hown : w.ownsRow base e t.size v n (t.cells xs)) (hn : n = xs.length) (hy : Sl R w t A c ys l) (hx : a.eval x = .slice A ys.length c)
    (hbytes : (xs.length + ys.length) * bytes ≤ 140737488355328) (h63 : xs.length + ys.length ≤ 9007199254740992) (hbase : base ≤ w.heap.size)
    (h : ∀ v' w', w'.ownsRow base e t.size v' (xs ++ ys).length (t.cells (xs ++ ys)) → Below base w w' → K (a.put o.dst v') w') : if Region.wanted o (yielded ops a.tmps) = true then Oper.wp P o a w K Q else E := by
  have hw : Region.wanted o (yielded ops a.tmps) = true := by simp [Region.wanted, hgd]
  rw [if_pos hw]
  exact own_append_sl s x ty ho base bytes ht hinfo hzs hsz hfl hs hown hn hy hx hbytes h63 hbase h
end
end Go.Proofs.YtefolocdfgelcaaDoor
