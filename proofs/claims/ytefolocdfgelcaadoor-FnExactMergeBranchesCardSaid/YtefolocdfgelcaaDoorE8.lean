/- An abstract machine: slices that are made, cut and appended to; conditions: their elements are flat. -/
import Derived.Test.YtefolocdfgelcaaDoorE7
namespace Go.Proofs.YtefolocdfgelcaaDoor
open Go.RowKit Go.Deep

/-- Operations on slices that make objects. -/
inductive J where
  | st (one : Bool) (m : Nat) (x y : Opd)
  | mkS (e : TypeId) (t : Ty) (xs : List Opd)
  | make (e : TypeId) (t : Ty) (bytes : Nat) (len cap : Opd)
  | append (e : TypeId) (t : Ty) (bytes : Nat) (x y : Opd)
  | slice (sz : Nat) (x : Opd) (lo hi mx : Option Opd)
  | sub (x : Opd) (lo hi : Option Opd)

/-- The elements of a literal. -/
def mkElems (f : Nat → AV) (t : Ty) : List Opd → Option (List t.D)
  | [] => some []
  | x :: xs => match (match x.ev f with | .agg cs => t.ofAV cs | c => t.ofAV [c]), mkElems f t xs with
    | some y, some ys => some (y :: ys)
    | _, _ => none
def evMkS (f : Nat → AV) (i : Oid) (e : TypeId) (t : Ty) (xs : List Opd) : Option (AV × List (Oid × Option Ob)) :=
  match mkElems f t xs with
  | some ys => some (.own i t 0 ys.length, [(i, some (.arr e t ys))])
  | none => none
def evMake (f : Nat → AV) (i : Oid) (e : TypeId) (t : Ty) (bytes : Nat) (len cap : Opd) : Option (AV × List (Oid × Option Ob)) :=
  match len.ev f, cap.ev f with
  | .int _ n, .int _ c => if 0 ≤ n ∧ n ≤ c ∧ c ≤ 1073741824 ∧ (bytes : Int) * c ≤ 140737488355328 then some (.own i t 0 n.toNat, [(i, some (.arr e t (List.replicate n.toNat t.dflt)))]) else none
  | _, _ => none
/-- To append to a nil slice makes an object; to append to an owned slice, from its first element to its last, puts another in the place of the object. -/
def evAppend (f : Nat → AV) (ob : Oid → Option Ob) (i : Oid) (e : TypeId) (t : Ty) (bytes : Nat) (x y : Opd) : Option (AV × List (Oid × Option Ob)) :=
  match srcOf ob t (y.ev f) with
  | some ys => match x.ev f with
    | .nils => if ys.length ≤ 1073741824 ∧ ys.length * bytes ≤ 140737488355328 then some (.own i t 0 ys.length, [(i, some (.arr e t ys))]) else none
    | .own j _ off len => match ob j with
      | some (.arr e' u xs) => match Ty.eq? u t with
        | some h => if off = 0 ∧ len ≤ xs.length ∧ e' = e ∧ len + ys.length ≤ 1073741824 ∧ (len + ys.length) * bytes ≤ 140737488355328 then
            some (.own (j.1, i.2) t 0 (len + ys.length), [(j, none), ((j.1, i.2), some (.arr e t ((castL h xs).take len ++ ys)))]) else none
        | none => none
      | _ => none
    | _ => none
  | none => none
def optInt (f : Nat → AV) (d : Nat) : Option Opd → Option Int
  | none => some d
  | some x => match x.ev f with
    | .int _ n => some n
    | _ => none
def evSlice (f : Nat → AV) (sz : Nat) (x : Opd) (lo hi mx : Option Opd) : Option AV :=
  match (x.ev f).un with
  | .tree t xs => match optInt f 0 lo, optInt f xs.length hi, optInt f xs.length mx with
    | some l, some h, some m => if t.size = sz ∧ 0 ≤ l ∧ l ≤ h ∧ h ≤ m ∧ m ≤ xs.length then some (.tree t ((xs.take h.toNat).drop l.toNat)) else none
    | _, _, _ => none
  | .own i t off len => match optInt f 0 lo, optInt f len hi, mx with
    | some l, some h, none => if t.size = sz ∧ 0 ≤ l ∧ l ≤ h ∧ h ≤ len then some (.own i t (off + l.toNat) (h - l).toNat) else none
    | _, _, _ => none
  | _ => none
def evSub (f : Nat → AV) (x : Opd) (lo hi : Option Opd) : Option AV :=
  match x.ev f with
  | .str s => match optInt f 0 lo, optInt f s.size hi with
    | some l, some h => if 0 ≤ l ∧ l ≤ h ∧ h ≤ s.size then some (.str (s.extract l.toNat h.toNat)) else none
    | _, _ => none
  | _ => none

section
variable {P : Program} {G : World → Prop} {w0 w w' : World} {ob : Oid → Option Ob} {σ : Oid → Option Loc} {K K' : Nat → Prop} {im : Nat → Prop}

/-- A new row. -/
theorem Goes.row (h : Mem0 G w0 ob σ K w) (hK : ∀ n, K n → K' n) {i : Oid} (hi : ¬ K i.2) (hi' : K' i.2) {e : TypeId} {t : Ty} {xs : List t.D} (hfl : t.flat = true) (hb : Below w.heap.size w w') {l : Loc} (hl : ∀ b c s, l = .at_ b c s → s = t.size)
    (ho : ownsV w' w.heap.size e t.size (l.val xs.length) xs.length (t.cells xs)) : Goes G w0 (upd ob i (some (.arr e t xs))) K' σ (imm ob σ) w (.own i t 0 xs.length) (l.val xs.length) w' := by
  have hs := Goes.fresh h hi
  have hlt : ∀ b c s, l = .at_ b c s → w.heap.size ≤ b ∧ b < w'.heap.size ∧ c ≤ maxLen := by
    intro b c s e
    subst e
    refine ⟨(ho.lt b rfl).1, (ho.lt b rfl).2, ?_⟩
    rcases ho.2 with ⟨e1, _⟩ | ⟨_, _, _, e1, _, _, _, hm, _⟩
    · cases e1
    · cases e1; exact hm
  have hL := Later.new (ob := ob) (i := i) (l := l) (o := .arr e t xs) hs hb (fun b c s e => (hlt b c s e).1)
  have ho' : ownsV w' w0.heap.size e t.size (l.val xs.length) xs.length (t.cells xs) := by
    refine ⟨ho.1, ?_⟩
    rcases ho.2 with hn | ⟨g, cap, cur, e1, hb', rest⟩
    · exact .inl hn
    · exact .inr ⟨g, cap, cur, e1, Nat.le_trans h.below.size hb', rest⟩
  refine ⟨_, hL, h.new hs hb hlt hK hi' ⟨hfl, ho', hl⟩, ?_⟩
  cases l with
  | nil =>
    rcases ho.2 with ⟨_, h0⟩ | ⟨_, _, _, e1, _⟩
    · rw [h0]; exact .inl ⟨upd_same _ _ _, rfl, rfl, rfl⟩
    · cases e1
  | at_ b c s =>
    obtain rfl := hl b c s rfl
    rcases ho.2 with ⟨e1, _⟩ | ⟨g, cap, cur, e1, _, _, hc, _⟩
    · cases e1
    · cases e1
      exact .inr (.inl ⟨b, c, upd_same _ _ _, by omega, by simp [Loc.val]⟩)

theorem made_take {t : Ty} {z : Array Value} {n c : Int} {sz : Nat} (hfl : t.flat = true) (hz : z.size = t.size) (he : z.toList = t.enc t.dflt) (hnc : n ≤ c) (_h0 : 0 ≤ n) (hs : sz = t.size) (hp : 0 < t.size) :
    (madeCells z (c.toNat * sz)).toList.take (n.toNat * t.size) = t.cells (List.replicate n.toNat t.dflt : List t.D) := by
  subst hs
  have hle : n.toNat * t.size ≤ c.toNat * t.size := Nat.mul_le_mul_right _ (by omega)
  apply List.ext_getElem?
  intro j
  rw [List.getElem?_take]
  split
  · rename_i hj
    have hi : j / t.size < n.toNat := Nat.div_lt_of_lt_mul (by rw [Nat.mul_comm]; exact hj)
    have hm := Nat.mod_lt j hp
    have hj' : j / t.size * t.size + j % t.size = j := by rw [Nat.mul_comm]; exact Nat.div_add_mod j t.size
    have := Ty.cells_get hfl (List.replicate n.toNat t.dflt : List t.D) (j / t.size) (by simpa using hi) (j % t.size) hm
    rw [hj'] at this
    rw [this, List.getElem_replicate, ← he]
    have hlt : j < c.toNat * t.size := by omega
    simp [madeCells, hlt, hz, hm]
  · rename_i hj
    rw [List.getElem?_eq_none (by rw [Ty.cells_length hfl]; simp; omega)]
theorem Later.trans {σ1 σ2 σ3 : Oid → Option Loc} {i1 i2 i3 : Nat → Prop} {a b c : World} (h : Later σ1 σ2 i1 i2 a b) (k : Later σ2 σ3 i2 i3 b c) : Later σ1 σ3 i1 i3 a c :=
  ⟨fun i l hi => k.loc i l (h.loc i l hi), fun x hx hi => k.im_ x (Nat.lt_of_lt_of_le hx h.size) (h.im_ x hx hi), fun x hx hi => (k.blk x (Nat.lt_of_lt_of_le hx h.size) (h.im_ x hx hi)).trans (h.blk x hx hi), Nat.le_trans h.size k.size⟩
/-- An object that nobody looks at any more. -/
theorem imm_kill {i : Oid} {b : Nat} (h : imm ob σ b) : imm (upd ob i none) σ b := fun j o c s hj => by
  by_cases e : j = i
  · subst e; rw [upd_same] at hj; cases hj
  · rw [upd_other _ _ _ _ e] at hj; exact h j o c s hj
theorem Later.kill (i : Oid) : Later σ σ (imm ob σ) (imm (upd ob i none) σ) w w := ⟨fun _ _ h => h, fun _ _ h => imm_kill h, fun _ _ _ => rfl, Nat.le_refl _⟩
theorem Mem0.kill (h : Mem0 G w0 ob σ K w) (i : Oid) : Mem0 G w0 (upd ob i none) σ K w := by
  refine ⟨h.below, h.inv, h.gen, h.lt, h.cap, fun j k b c s c' s' o o' hj hk => ?_, fun j o l hj hl => ?_⟩
  · have nj : j ≠ i := fun e => by subst e; rw [upd_same] at hj; cases hj
    have nk : k ≠ i := fun e => by subst e; rw [upd_same] at hk; cases hk
    rw [upd_other _ _ _ _ nj] at hj
    rw [upd_other _ _ _ _ nk] at hk
    exact h.inj j k b c s c' s' o o' hj hk
  · have nj : j ≠ i := fun e => by subst e; rw [upd_same] at hj; cases hj
    rw [upd_other _ _ _ _ nj] at hj
    exact (h.obs j o l hj hl).later (Later.kill i) fun _ _ _ _ => rfl

/-- A shorter part of an owned row, from its first element on. -/
theorem own_take {e : TypeId} {t : Ty} {xs : List t.D} {base n : Nat} {l : Loc} (hfl : t.flat = true) (h : ownsV w base e t.size (l.val xs.length) xs.length (t.cells xs)) (hn : n ≤ xs.length) (hl : l = .nil → n = 0) :
    ownsV w base e t.size (l.val n) n (t.cells (xs.take n)) := by
  have hc : t.cells (xs.take n) = (t.cells xs).take (n * t.size) := by simpa using cells_seg hfl xs 0 n
  have hlen : (xs.take n).length = n := by rw [List.length_take]; omega
  refine ⟨by rw [Ty.cells_length hfl, hlen], ?_⟩
  cases l with
  | nil => exact .inl ⟨rfl, hl rfl⟩
  | at_ b c s =>
    rcases h.2 with ⟨e1, _⟩ | ⟨g, cap, cur, e1, hb, hg, hnc, hm, hs, ht⟩
    · cases e1
    · cases e1
      refine .inr ⟨b, c, cur, rfl, hb, hg, by omega, hm, hs, ?_⟩
      rw [hc, ← ht, List.take_take, Nat.min_eq_left (Nat.mul_le_mul_right _ hn)]

/-- An append to an owned row. -/
theorem append_runV {ty e rt : TypeId} {inf : TypeInfo} {z : Value} {sz bytes : Nat} (ht : P.underlying ty = some (.slice e)) (q1 : P.info? e = some inf) (q2 : inf.zero = some z) (q3 : inf.size = sz) (q4 : inf.bytes = bytes) (q7 : 0 < sz) (q8 : z.cells.size = sz)
    {cs ds : List Value} {n m : Nat} {l : Loc} (hs : ∀ b c s, l = .at_ b c s → s = sz) {base : Nat} (hown : ownsV w base e sz (l.val n) n cs) (hlen : ds.length = m * sz) (h1 : ∀ u ∈ ds, u.oneCell' = true)
    {A : Option Addr} {cp : Nat} (hA : A = none → m = 0) (hsrc : ∀ ad, A = some ad → ∀ j u, ds[j]? = some u → w.cell? (ad.add j) = some u) (h63 : n + m ≤ 1073741824) (hby : (n + m) * bytes ≤ 140737488355328) :
    ∃ (l' : Loc) (w' : World), (Builtin.append_ #[ty, ty] rt #[l.val n, .slice A m cp]).run P w = .ok (l'.val (n + m)) w' ∧ (∀ b c s, l' = .at_ b c s → s = sz) ∧
      ((∃ b c, l = .at_ b c sz ∧ l' = .at_ b c sz ∧ Only b w w' ∧ ownsV w' base e sz (l'.val (n + m)) (n + m) (cs ++ ds)) ∨
       (Below w.heap.size w w' ∧ ownsV w' w.heap.size e sz (l'.val (n + m)) (n + m) (cs ++ ds))) := by
  subst q3
  have hzero : m = 0 → A = none → (Builtin.append_ #[ty, ty] rt #[l.val n, .slice A m cp]).run P w = .ok (l.val n) w := by
    rintro rfl rfl
    cases l with
    | nil =>
      have h0 : n = 0 := by
        rcases hown.2 with ⟨_, h⟩ | ⟨_, _, _, e1, _⟩
        · exact h
        · cases e1
      subst h0
      simp [Builtin.append_, run_underlying ht, sizeOf, typeInfo, q1, Builtin.lenOf, Builtin.firstCells, Loc.val]
    | at_ b c s =>
      rcases hown.2 with ⟨e1, _⟩ | ⟨g, cap, cur, e1, _, _, hnc, _⟩
      · cases e1
      · cases e1
        simp [Builtin.append_, run_underlying ht, sizeOf, typeInfo, q1, Builtin.lenOf, Builtin.firstCells, hnc, storeCells, Loc.val]
  have hnew : ∀ cap, n + m ≤ cap → cap ≤ maxLen → cs.length = n * inf.size → ownsV (w.drew.alloc (.cells (cs.toArray ++ ds.toArray ++ Builtin.zeroCells z.cells (cap - (n + m))) e)) w.heap.size e inf.size (.slice (some ⟨w.heap.size, 0, none⟩) (n + m) cap) (n + m) (cs ++ ds) := by
    intro cap h2 h3 h4
    have hl : (cs ++ ds).length = (n + m) * inf.size := by rw [List.length_append, h4, hlen, Nat.add_mul]
    refine ⟨hl, .inr ⟨w.heap.size, cap, _, rfl, Nat.le_refl _, heap_alloc_new w.drew _, h2, h3, ?_, ?_⟩⟩
    · simp only [Array.size_append, List.size_toArray, size_zeroCells, q8, h4, hlen, ← Nat.add_mul]
      exact Nat.mul_le_mul_right _ (by omega)
    · simp only [Array.toList_append]
      rw [← hl]
      exact List.take_left
  cases A with
  | none =>
    have h0 := hA rfl
    have hr := hzero h0 rfl
    subst h0
    obtain rfl : ds = [] := List.eq_nil_of_length_eq_zero (by simpa using hlen)
    cases l with
    | nil =>
      have h0 : n = 0 := by
        rcases hown.2 with ⟨_, h⟩ | ⟨_, _, _, e1, _⟩
        · exact h
        · cases e1
      exact ⟨.nil, w, hr, hs, .inr ⟨Below.refl _ _, by simpa using hown.1, .inl ⟨rfl, by simpa using h0⟩⟩⟩
    | at_ b c s =>
      obtain rfl := hs b c s rfl
      exact ⟨.at_ b c inf.size, w, hr, hs, .inl ⟨b, c, rfl, rfl, Only.of_below (Below.refl _ _), by simpa using hown⟩⟩
  | some ad =>
    cases l with
    | nil =>
      have h0 : n = 0 := by
        rcases hown.2 with ⟨_, h⟩ | ⟨_, _, _, e1, _⟩
        · exact h
        · cases e1
      subst h0
      obtain rfl : cs = [] := List.eq_nil_of_length_eq_zero (by simpa using hown.1)
      obtain ⟨v', w', hr, ho, hg, _⟩ := run_append_own (P := P) w w.heap.size ty rt e inf z inf.size bytes ht q1 q2 rfl q4 (by rw [q8]) q7 (Value.slice none 0 0) 0 [] (World.ownsRow_nil w _ e inf.size) ad m cp ds hlen (hsrc ad rfl) h1 (by simp only [maxLen]; omega) hby (Nat.le_refl _)
      have hb : Below w.heap.size w w' := ⟨hg.os, hg.tape, hg.output, hg.size, fun k hk => hg.block k hk (by simp [Value.ownBlock])⟩
      have ho' : ownsV w' w.heap.size e inf.size v' (0 + m) ([] ++ ds) := by
        refine ⟨ho.1, ?_⟩
        rcases ho.2 with hn | ⟨g, cap, cur, e1, a1, a2, a3, a4, a5, a6⟩
        · exact .inl hn
        · exact .inr ⟨g, cap, cur, e1, a1, a2, a3, a4, Nat.le_of_eq a5.symm, a6⟩
      rcases ho.2 with ⟨rfl, hn⟩ | ⟨g, cap, cur, rfl, _⟩
      · exact ⟨.nil, w', hr, (fun _ _ _ e => by cases e), .inr ⟨hb, ho'⟩⟩
      · exact ⟨.at_ g cap inf.size, w', hr, (fun _ _ _ e => by cases e; rfl), .inr ⟨hb, ho'⟩⟩
    | at_ b c s =>
      obtain rfl := hs b c s rfl
      have holds := hown.cells (g := b) rfl
      have hown1 := hown.1
      rcases hown.2 with ⟨e1, _⟩ | ⟨g, cap, cur, e1, hbg, hgg, hnc, hcm, hcs, htake⟩
      · cases e1
      · cases e1
        by_cases hroom : n + m ≤ c
        · have hfit : n * inf.size + ds.length ≤ cur.size := by
            rw [hlen, ← Nat.add_mul]; exact Nat.le_trans (Nat.mul_le_mul_right _ hroom) hcs
          have hr2 := run_append_room (P := P) w ty rt e inf ht q1 b n c cur hgg ad m cp ds hlen (hsrc ad rfl) h1 hroom hfit
          refine ⟨.at_ b c inf.size, _, hr2, (fun _ _ _ e => by cases e; rfl), .inl ⟨b, c, rfl, rfl, Only.setRow w b _, ?_⟩⟩
          refine ⟨by rw [List.length_append, hown1, hlen, Nat.add_mul], .inr ⟨b, c, _, rfl, hbg, setRow_heap w b cur _ e _ hgg, hroom, hcm, ?_, ?_⟩⟩
          · have hct : (cur.toList.take (n * inf.size)).length = n * inf.size := by rw [htake, hown1]
            have hcl : cur.toList.length = cur.size := Array.length_toList ..
            simp only [List.size_toArray, List.length_append, List.length_drop, hct, hcl]
            omega
          · have hl : (cs ++ ds).length = (n + m) * inf.size := by rw [List.length_append, hown1, hlen, Nat.add_mul]
            rw [htake, ← hl]
            exact List.take_left
        · have hr2 := run_append_grow (P := P) w ty rt e inf z ht q1 q2 ⟨b, 0, none⟩ n c cs hown1 holds ad m cp ds hlen (hsrc ad rfl) (by omega) (by omega) (growslice_fits (by omega) (by rw [q4]; exact hby))
          exact ⟨.at_ w.heap.size _ inf.size, _, hr2, (fun _ _ _ e => by cases e; rfl), .inr ⟨((Below.refl _ _).drew).alloc (Nat.le_refl _) _, hnew _ (grownCap_ge w (n + m) c e) (grownCap_le_maxLen w (n + m) c e (by simp only [maxLen]; omega)) hown1⟩⟩
theorem append_run {ty e rt : TypeId} {t : Ty} {bytes : Nat} (ht : P.underlying ty = some (.slice e)) (hel : elemB P e t bytes = true) {xs ys : List t.D} {l : Loc} (hs : ∀ b c s, l = .at_ b c s → s = t.size) {base : Nat} (hown : ownsV w base e t.size (l.val xs.length) xs.length (t.cells xs))
    {A : Option Addr} {cp : Nat} (hA : A = none → ys = []) (hsrc : ∀ ad, A = some ad → ∀ j u, (t.cells ys)[j]? = some u → w.cell? (ad.add j) = some u) (h63 : xs.length + ys.length ≤ 1073741824) (hby : (xs.length + ys.length) * bytes ≤ 140737488355328) :
    ∃ (l' : Loc) (w' : World), (Builtin.append_ #[ty, ty] rt #[l.val xs.length, .slice A ys.length cp]).run P w = .ok (l'.val (xs.length + ys.length)) w' ∧ (∀ b c s, l' = .at_ b c s → s = t.size) ∧
      ((∃ b c, l = .at_ b c t.size ∧ l' = .at_ b c t.size ∧ Only b w w' ∧ ownsV w' base e t.size (l'.val (xs.length + ys.length)) (xs.length + ys.length) (t.cells (xs ++ ys))) ∨
       (Below w.heap.size w w' ∧ ownsV w' w.heap.size e t.size (l'.val (xs.length + ys.length)) (xs.length + ys.length) (t.cells (xs ++ ys)))) := by
  obtain ⟨inf, z, q1, q2, q3, q4, q5, q6, q7, q8⟩ := elemB_spec hel
  rw [Ty.cells_append]
  exact append_runV ht q1 q2 q3 q4 q7 q8 hs hown (Ty.cells_length q5 ys) (Ty.cells_one ys) (fun h => by rw [hA h]; rfl) hsrc h63 hby

theorem evMake_does {o : Oper} {a : Act} {f : Nat → AV} {i : Oid} {v : AV} {us : List (Oid × Option Ob)} {ty e : TypeId} {t : Ty} {bytes : Nat} {x y : Operand} {x' y' : Opd} (ho : o.op = .makeSlice ty x y) (ht : P.underlying ty = some (.slice e)) (hel : elemB P e t bytes = true) (h2 : Opd.of x = some x') (h3 : Opd.of y = some y')
    (he : evMake f i e t bytes x' y' = some (v, us)) (hm : Mem0 G w0 ob σ K w) (hK : ∀ n, K n → K' n) (hi : ¬ K i.2) (hi' : K' i.2)
    (hf : ∀ x ∈ o.op.operands, ∀ y, Opd.of x = some y → AV.Rep σ (imm ob σ) w (y.ev f) (a.eval x)) : Oper.does P o a w (Goes G w0 (applyU us ob) K' σ (imm ob σ) w v) := by
  have r1 := hf x (by simp [ho, Op.operands]) x' h2
  have r2 := hf y (by simp [ho, Op.operands]) y' h3
  unfold evMake at he
  split at he
  · rename_i k n k' c hx hy
    rw [hx] at r1
    rw [hy] at r2
    have e1 : a.eval x = .int k n := r1
    have e2 : a.eval y = .int k' c := r2
    split at he
    · rename_i hc
      obtain ⟨c1, c2, c3, c4⟩ := hc
      obtain ⟨rfl, rfl⟩ := Prod.mk.inj (Option.some.inj he)
      obtain ⟨inf, z, q1, q2, q3, q4, q5, q6, q7, q8⟩ := elemB_spec hel
      have hrun := run_make (P := P) w ty e inf z ht q1 q2 k k' n c c1 c2 (by rw [q4]; omega) (by omega)
      have hlen : (List.replicate n.toNat t.dflt : List t.D).length = n.toNat := List.length_replicate
      have hg := Goes.row (w' := w.alloc (.cells (madeCells z.cells (c.toNat * inf.size)) e)) hm hK hi hi' (e := e) (xs := (List.replicate n.toNat t.dflt : List t.D)) q5 ((Below.refl _ _).alloc (Nat.le_refl _) _) (l := .at_ w.heap.size c.toNat t.size) (fun b c s h => by cases h; rfl) (by
        rw [hlen]
        refine ⟨by rw [Ty.cells_length q5, hlen], .inr ⟨w.heap.size, c.toNat, madeCells z.cells (c.toNat * inf.size), rfl, Nat.le_refl _, by show (w.heap.push _)[w.heap.size]? = _; simp, by omega, by simp only [maxLen]; omega, by simp [madeCells, q3], ?_⟩⟩
        exact made_take q5 (by rw [q8]) q6 c2 c1 q3 q7)
      rw [hlen] at hg
      exact Oper.does_value (by simp [execOp, ho, e1, e2, hrun, Loc.val]) hg
    · cases he
  · cases he

theorem evAppend_does {o : Oper} {a : Act} {f : Nat → AV} {i : Oid} {v : AV} {us : List (Oid × Option Ob)} {ty e : TypeId} {t : Ty} {bytes : Nat} {x y : Operand} {x' y' : Opd} {c : Call} (ho : o.op = .call c) (hcb : c.callee = .builtin .append) (hca : c.args = #[x, y]) (hct : c.argTypes = #[ty, ty])
    (ht : P.underlying ty = some (.slice e)) (hel : elemB P e t bytes = true) (h2 : Opd.of x = some x') (h3 : Opd.of y = some y')
    {obL : Oid → Option Ob} (he : evAppend f obL i e t bytes x' y' = some (v, us)) (hob : ∀ i o l, obL i = some o → σ i = some l → o.Rep w0.heap.size σ (imm ob σ) w l) (hE : x'.ev f ≠ .nils → obL = ob) (hm : Mem0 G w0 ob σ K w) (hK : ∀ n, K n → K' n) (hi : ¬ K i.2) (hi' : K' i.2)
    (hf : ∀ x ∈ o.op.operands, ∀ y, Opd.of x = some y → AV.Rep σ (imm ob σ) w (y.ev f) (a.eval x)) : Oper.does P o a w (Goes G w0 (applyU us ob) K' σ (imm ob σ) w v) := by
  have r1 := hf x (by simp [ho, Op.operands, Call.operands, hca]) x' h2
  have r2 := hf y (by simp [ho, Op.operands, Call.operands, hca]) y' h3
  have hfl : t.flat = true := by obtain ⟨_, _, _, _, _, _, h, _⟩ := elemB_spec hel; exact h
  have hex : ∀ r w', (Builtin.append_ #[ty, ty] o.type #[a.eval x, a.eval y]).run P w = .ok r w' → (execOp a.eval o).run P w = .ok (.value r) w' := by
    intro r w' h
    simp [execOp, ho, resolve, hcb, hca, hct, invoke, builtin, h]
  unfold evAppend at he
  split at he
  · rename_i ys hys
    obtain ⟨A, cp, e2, hA, hsrc⟩ := srcOf_rep hfl hys hob r2
    split at he
    · rename_i hx
      rw [hx] at r1
      have e1 : a.eval x = .slice none 0 0 := r1
      split at he
      · rename_i hc
        obtain ⟨rfl, rfl⟩ := Prod.mk.inj (Option.some.inj he)
        obtain ⟨l', w', hr, hs, hcase⟩ := append_run (P := P) (rt := o.type) (w := w) (xs := ([] : List t.D)) (l := .nil) ht hel (fun _ _ _ e => by cases e) (base := w.heap.size) ⟨by simp [Ty.cells], .inl ⟨rfl, rfl⟩⟩ (ys := ys) (cp := cp) hA hsrc (by simpa using hc.1) (by simpa using hc.2)
        simp only [List.length_nil, Nat.zero_add, List.nil_append] at hr hcase
        have hb : Below w.heap.size w w' ∧ ownsV w' w.heap.size e t.size (l'.val ys.length) ys.length (t.cells ys) := by
          rcases hcase with ⟨_, _, h, _⟩ | h
          · cases h
          · exact h
        refine Oper.does_value (hex _ _ (by rw [e1, e2]; exact hr)) (Goes.row hm hK hi hi' hfl hb.1 hs hb.2)
      · cases he
    · rename_i j u0 off len hx
      rw [hx] at r1
      have hEE : obL = ob := hE (by rw [hx]; simp)
      subst hEE
      split at he
      · rename_i e' u xs hj
        split at he
        · rename_i hh _
          split at he
          · rename_i hc
            obtain ⟨rfl, c2, rfl, c4, c5⟩ := hc
            obtain ⟨rfl, rfl⟩ := Prod.mk.inj (Option.some.inj he)
            obtain ⟨hh⟩ := hh
            subst hh
            rw [castL_self]
            have hlen : (xs.take len).length = len := by rw [List.length_take]; omega
            have hsl : ∃ l, σ j = some l ∧ a.eval x = l.val len ∧ (l = .nil → len = 0) := by
              rcases r1 with ⟨g1, _, g3, g4⟩ | ⟨b, cap, g1, _, g4⟩ | ⟨_, _, g, _⟩
              rotate_left
              rotate_left
              · exact absurd rfl g
              · exact ⟨.nil, g1, g4, fun _ => g3⟩
              · exact ⟨.at_ b cap u0.size, g1, by simpa [Loc.val] using g4, fun h => by cases h⟩
            obtain ⟨l, g1, g2, g3⟩ := hsl
            obtain ⟨_, hown, hs⟩ := hm.obs j _ _ hj g1
            have hown' := own_take hfl hown c2 g3
            rw [← hlen] at hown'
            obtain ⟨l', w', hr, hs', hcase⟩ := append_run (P := P) (rt := o.type) (w := w) (xs := xs.take len) (l := l) ht hel hs (base := w0.heap.size) (by rw [hlen] at hown' ⊢; exact hown') (ys := ys) (cp := cp) hA hsrc (by rw [hlen]; exact c4) (by rw [hlen]; exact c5)
            rw [hlen] at hr hcase
            have hfr : σ (j.1, i.2) = none := Goes.fresh hm (i := (j.1, i.2)) hi
            refine Oper.does_value (hex _ _ (by rw [g2, e2]; exact hr)) ?_
            rcases hcase with ⟨b, c, rfl, rfl, hb, ho'⟩ | ⟨hb, ho'⟩
            · have hL := Later.swap (o' := .arr e' u (xs.take len ++ ys)) (c' := c) (s' := u.size) hj g1 (.inr hfr) hb
              refine ⟨_, hL, hm.swap hj g1 (.inr hfr) hb hK hi' (hm.cap _ _ _ _ g1) ⟨hfl, ?_, hs'⟩, .inr (.inl ⟨b, c, upd_same _ _ _, ?_, by simp [Loc.val]⟩)⟩
              · rw [List.length_append, hlen]; exact ho'
              · rcases ho'.2 with ⟨e1, _⟩ | ⟨_, _, _, e1, _, _, hc', _⟩
                · cases e1
                · cases e1; omega
            · have hg := Goes.row (hm.kill j) hK (i := (j.1, i.2)) hi hi' (xs := xs.take len ++ ys) hfl hb hs' (by rw [List.length_append, hlen]; exact ho')
              rw [List.length_append, hlen] at hg
              obtain ⟨σ', hL, hM, hR⟩ := hg
              exact ⟨σ', (Later.kill j).trans hL, hM, hR⟩
          · cases he
        · cases he
      · cases he
    · cases he
  · cases he
end
end Go.Proofs.YtefolocdfgelcaaDoor
