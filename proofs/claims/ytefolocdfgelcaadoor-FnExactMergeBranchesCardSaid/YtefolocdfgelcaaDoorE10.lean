/- An abstract machine: calls of functions by contracts; no condition. -/
import Derived.Test.YtefolocdfgelcaaDoorE9v
namespace Go.Proofs.YtefolocdfgelcaaDoor
open Go.RowKit Go.Deep

def mapO (g : AV → Option AV) : List AV → Option (List AV)
  | [] => some []
  | c :: cs => match g c, mapO g cs with
    | some d, some ds => some (d :: ds)
    | _, _ => none
/-- Pieces of as many cells each, read. -/
def chunks {α : Type} (g : List AV → Option α) (sz : Nat) : Nat → List AV → Option (List α)
  | 0, _ => some []
  | n + 1, cs => match g (cs.take sz), chunks g sz n (cs.drop sz) with
    | some x, some xs => some (x :: xs)
    | _, _ => none
/-- What a row of things reads as. -/
def vecD {α : Type} (ob : Oid → Option Ob) (sz : Nat) (g : List AV → Option α) : AV → Option (List α)
  | .own i _ off len => match ob i with
    | some (.vec _ sz' n cs) => if sz' = sz ∧ off + len ≤ n then chunks g sz len ((cs.drop (off * sz)).take (len * sz)) else none
    | _ => none
  | _ => none
/-- What cells read as. -/
def rdC (ob : Oid → Option Ob) : (t : Ty) → List AV → Option t.D
  | .int, cs => ofI cs
  | .bool, cs => ofB cs
  | .str, cs => ofS cs
  | .slice u, cs => match cs with
    | [c] => match srcOf ob u c with
      | some xs => some xs
      | none => vecD ob u.size (rdC ob u) c
    | _ => none
  | .pair a b, cs => match rdC ob a (cs.take a.size), rdC ob b (cs.drop a.size) with
    | some x, some y => some (x, y)
    | _, _ => none
/-- An argument without names of objects: what it reads az. -/
def gnd (ob : Oid → Option Ob) : Nat → AV → Option AV
  | 0, _ => none
  | n + 1, c => match c with
    | .int k m => some (.int k m)
    | .bool b => some (.bool b)
    | .str s => some (.str s)
    | .nils => some .nils
    | .tree t xs => some (.tree t xs)
    | .giv _ t xs => some (.tree t xs)
    | .own i t off len => match ob i with
      | some (.arr _ u xs) => if off + len ≤ xs.length then some (.tree u ((xs.drop off).take len)) else none
      | some (.vec _ _ _ _) => (vecD ob t.size (rdC ob t) (.own i t off len)).map (.tree t)
      | _ => none
    | .mp i => match ob i with
      | some (.map mt t es) => some (.mtree mt t es)
      | _ => none
    | .mtree mt t es => some (.mtree mt t es)
    | .box i k => match ob i with
      | some (.cells _ cs) => (mapO (gnd ob n) (cs.drop k)).map .ref
      | _ => none
    | .agg cs => (mapO (gnd ob n) cs).map .agg
    | .fn f cs => (mapO (gnd ob n) cs).map (.fn f)
    | .ref cs => (mapO (gnd ob n) cs).map .ref
    | _ => none

/-- The cells of a row of rows: the r-th leads to the r-th row under the name p. -/
def hdL (p : Oid) (u : Ty) (xss : List (List u.D)) : List AV := xss.zipIdx.map fun x => .own (kid p x.2) u 0 x.1.length
/-- The rows under the name p. -/
def kidsL (p : Oid) (e : TypeId) (u : Ty) (xss : List (List u.D)) : List (Oid × Option Ob) := xss.zipIdx.map fun x => (kid p x.2, some (.arr e u x.1))
/-- A leaf of a result: a number or text, a new row, a new row of rows, a part of what was given. -/
inductive RL where
  | sc (c : AV)
  | new (e : TypeId) (t : Ty) (xs : List t.D)
  | newM (e e' : TypeId) (u : Ty) (xss : List (List u.D))
  | arg (i : Nat) (k : Option Nat)
  | frz (c : AV)
/-- A part of what was given, az it was given. -/
def compV (vs : List Value) (i : Nat) : Option Nat → Option Value
  | none => vs[i]?
  | some k => match vs[i]? with
    | some (.agg a) => a.toList[k]?
    | _ => none
def compA (az : List AV) (i : Nat) : Option Nat → AV
  | none => az.getD i .any
  | some k => match az[i]? with
    | some (.agg cs) => cs.getD k .any
    | _ => .any
/-- A result: one value or several, each one value or the cells of a struct. -/
structure RV where
  tup : Bool
  ps : List (Bool × List RL)
def AV.scal : AV → Bool
  | .int .. | .bool .. | .str .. | .nils => true
  | _ => false
mutual
def AV.gndB : AV → Bool
  | .int .. | .bool .. | .str .. | .nils => true
  | .tree .. => true
  | .mtree .. => true
  | .agg cs => AV.gndBL cs
  | .tup cs => AV.gndBL cs
  | .fn _ cs => AV.gndBL cs
  | .ref cs => AV.gndBL cs
  | _ => false
def AV.gndBL : List AV → Bool
  | [] => true
  | c :: cs => c.gndB && AV.gndBL cs
end
def RL.out (mk : Nat → Oid) (az : List AV) : Nat → List RL → List AV × List (Oid × Option Ob)
  | _, [] => ([], [])
  | j, .sc c :: r => (c :: (RL.out mk az j r).1, (RL.out mk az j r).2)
  | j, .new e t xs :: r => (.own (mk j) t 0 xs.length :: (RL.out mk az (j + 1) r).1, (mk j, some (.arr e t xs)) :: (RL.out mk az (j + 1) r).2)
  | j, .newM e e' u xss :: r => (.own (mk j) (.slice u) 0 xss.length :: (RL.out mk az (j + 1) r).1, (mk j, some (.vec e 1 xss.length (hdL (mk j) u xss))) :: (kidsL (mk j) e' u xss ++ (RL.out mk az (j + 1) r).2))
  | j, .arg i k :: r => (compA az i k :: (RL.out mk az j r).1, (RL.out mk az j r).2)
  | j, .frz c :: r => (c :: (RL.out mk az j r).1, (RL.out mk az j r).2)
def RL.okB : RL → Bool
  | .sc c => c.scal
  | .new _ t _ => t.flat
  | .newM _ _ u _ => u.flat
  | .arg _ _ => true
  | .frz c => c.gndB
def partsA : List (Bool × List RL) → List AV → List AV
  | [], _ => []
  | (b, rs) :: ps, us => (if b then .agg (us.take rs.length) else us.headD .any) :: partsA ps (us.drop rs.length)
def partsV : List (Bool × List RL) → List Value → List Value
  | [], _ => []
  | (b, rs) :: ps, us => (if b then .agg (us.take rs.length).toArray else us.headD undef) :: partsV ps (us.drop rs.length)
def RV.leaves (r : RV) : List RL := r.ps.flatMap (·.2)
def RV.out (r : RV) (mk : Nat → Oid) (az : List AV) : AV × List (Oid × Option Ob) :=
  (if r.tup then .tup (partsA r.ps (RL.out mk az 0 r.leaves).1) else (partsA r.ps (RL.out mk az 0 r.leaves).1).headD .any, (RL.out mk az 0 r.leaves).2)

/-- The values of the leaves, and where the new rows lie. -/
def RL.RepL (lo : Nat) (im : Nat → Prop) (vs : List Value) (w : World) : List RL → List Value → List Loc → Prop
  | [], us, ls => us = [] ∧ ls = []
  | .sc c :: r, us, ls => ∃ u us', us = u :: us' ∧ AV.Rep (fun _ => none) im w c u ∧ c.scal = true ∧ RL.RepL lo im vs w r us' ls
  | .new e t xs :: r, us, ls => ∃ l ls' us', us = l.val xs.length :: us' ∧ ls = l :: ls' ∧ t.flat = true ∧ ownsV w lo e t.size (l.val xs.length) xs.length (t.cells xs) ∧ (∀ b c s, l = .at_ b c s → s = t.size) ∧ RL.RepL lo im vs w r us' ls'
  | .newM e e' u xss :: r, us, ls => ∃ (l : Loc) (kl ls' : List Loc) (us' ks : List Value), us = l.val xss.length :: us' ∧ ls = l :: (kl ++ ls') ∧ ((kl.length = xss.length ∧ u.flat = true) ∧ (ownsV w lo e 1 (l.val xss.length) xss.length ks ∧ (∀ b c s, l = .at_ b c s → s = 1)) ∧
      ∀ (k : Nat) (xs : List u.D) (l : Loc), xss[k]? = some xs → kl[k]? = some l → ks[k]? = some (l.val xs.length) ∧ ownsV w lo e' u.size (l.val xs.length) xs.length (u.cells xs) ∧ ∀ b c s, l = .at_ b c s → s = u.size) ∧ RL.RepL lo im vs w r us' ls'
  | .arg i k :: r, us, ls => ∃ u us', us = u :: us' ∧ compV vs i k = some u ∧ RL.RepL lo im vs w r us' ls
  | .frz c :: r, us, ls => ∃ u us', us = u :: us' ∧ AV.Rep (fun _ => none) (fun b => lo ≤ b) w c u ∧ c.gndB = true ∧ RL.RepL lo im vs w r us' ls
/-- No two rows in one block. -/
def apartL : List Loc → Prop
  | [] => True
  | l :: r => (∀ b c s, l = .at_ b c s → ∀ c' s', .at_ b c' s' ∉ r) ∧ apartL r
def RV.Rep (lo : Nat) (im : Nat → Prop) (vs : List Value) (w : World) (r : RV) (u : Value) : Prop :=
  ∃ us ls, RL.RepL lo im vs w r.leaves us ls ∧ (apartL ls ∧ ((∃ c, RL.frz c ∈ r.leaves) → ls = [])) ∧ u = (if r.tup then .tuple (partsV r.ps us).toArray else (partsV r.ps us).headD undef)

/-- A contract: with such arguments the function hands back such a result and only makes memory. -/
def CallOK (P : Program) (G : World → Prop) (f : FuncId) (args : List AV) (r : RV) : Prop :=
  ∀ (w : World) (im : Nat → Prop) (vs : List Value), (∀ w', Below w.heap.size w w' → G w') → AV.RepL (fun _ => none) im w args vs →
    Calls P f vs.toArray w fun e w' => ∃ u, e = .returned u ∧ Below w.heap.size w w' ∧ r.Rep w.heap.size im vs w' u

/-- A nil slice as an argument reads as a slice without elements. -/
def nilT1 : Option Ty → AV → AV
  | some t, .nils => .tree t []
  | _, c => c
def nilL : List (Option Ty) → List AV → List AV
  | t :: ts, c :: cs => nilT1 t c :: nilL ts cs
  | _, cs => cs
def nilT : List (Option Ty) → AV → AV
  | ts, .agg cs => .agg (nilL ts cs)
  | t :: _, c => nilT1 t c
  | [], c => c
def nilTL : List (List (Option Ty)) → List AV → List AV
  | t :: ts, c :: cs => nilT t c :: nilTL ts cs
  | _, cs => cs

section
variable {P : Program} {G : World → Prop} {w0 w w' : World} {ob : Oid → Option Ob} {σ : Oid → Option Loc} {K K' : Nat → Prop} {im : Nat → Prop}

theorem nilT1_rep {t : Option Ty} {c : AV} {v : Value} (h : AV.Rep σ im w c v) : AV.Rep σ im w (nilT1 t c) v := by
  unfold nilT1
  split
  · exact ⟨none, 0, [], h, by simp, by simp [maxLen], fun _ => [], by simp, fun h => absurd h (by simp)⟩
  · exact h
theorem nilL_rep : ∀ {ts : List (Option Ty)} {cs : List AV} {vs : List Value}, AV.RepL σ im w cs vs → AV.RepL σ im w (nilL ts cs) vs
  | _ :: _, _ :: _, _, ⟨u, us, e, h1, h2⟩ => ⟨u, us, e, nilT1_rep h1, nilL_rep h2⟩
  | [], _, _, h => by simpa [nilL] using h
  | _ :: _, [], _, h => by simpa [nilL] using h
theorem nilT_rep {ts : List (Option Ty)} {c : AV} {v : Value} (h : AV.Rep σ im w c v) : AV.Rep σ im w (nilT ts c) v := by
  unfold nilT
  split
  · obtain ⟨vs, e, hl⟩ := h; exact ⟨vs, e, nilL_rep hl⟩
  · exact nilT1_rep h
  · exact h
theorem nilTL_rep : ∀ {ts : List (List (Option Ty))} {cs : List AV} {vs : List Value}, AV.RepL σ im w cs vs → AV.RepL σ im w (nilTL ts cs) vs
  | _ :: _, _ :: _, _, ⟨u, us, e, h1, h2⟩ => ⟨u, us, e, nilT_rep h1, nilTL_rep h2⟩
  | [], _, _, h => by simpa [nilTL] using h
  | _ :: _, [], _, h => by simpa [nilTL] using h

theorem mapO_rep {g : AV → Option AV} {σ' : Oid → Option Loc} {im' : Nat → Prop} (hg : ∀ c d v, g c = some d → AV.Rep σ im w c v → AV.Rep σ' im' w d v) : ∀ {cs ds : List AV} {vs : List Value}, mapO g cs = some ds → AV.RepL σ im w cs vs → AV.RepL σ' im' w ds vs
  | [], ds, vs, h, hr => by
    obtain rfl : [] = ds := Option.some.inj h
    exact hr
  | c :: cs, ds, vs, h, ⟨u, us, e, h1, h2⟩ => by
    simp only [mapO] at h
    split at h
    · rename_i d ds' q1 q2
      obtain rfl := Option.some.inj h
      exact ⟨u, us, e, hg c d u q1 h1, mapO_rep hg q2 h2⟩
    · cases h

theorem own_sl {e : TypeId} {t : Ty} {xs : List t.D} {b cap base off len : Nat} (hfl : t.flat = true) (h : ownsV w base e t.size (.slice (some ⟨b, 0, none⟩) xs.length cap) xs.length (t.cells xs)) (hle : off + len ≤ xs.length) :
    ∃ l, Sl (fun b' => b' = b) w t (some ⟨b, off * t.size, none⟩) (cap - off) ((xs.drop off).take len) l := by
  have hc : xs.length ≤ cap ∧ cap ≤ maxLen := by
    rcases h.2 with ⟨e1, _⟩ | ⟨_, _, _, e1, _, _, h1, h2, _⟩
    · cases e1
    · cases e1; exact ⟨h1, h2⟩
  have hlen : ((xs.drop off).take len).length = len := by rw [List.length_take, List.length_drop]; omega
  refine ⟨_, by rw [hlen]; omega, by omega, fun i => (List.range t.size).map ((⟨b, (off + i) * t.size, none⟩ : Addr).add ·), rfl, fun _ => ⟨_, rfl, rfl, fun i hi => ?_⟩⟩
  rw [hlen] at hi
  have hget : ((xs.drop off).take len)[i]'(by rw [hlen]; exact hi) = xs[off + i]'(by omega) := by
    rw [List.getElem_take, List.getElem_drop]
  rw [hget, add_mk, ← Nat.add_mul]
  refine Ty.mem_flat hfl fun j hj => ?_
  rw [add_mk]
  have hx : (t.enc (xs[off + i]'(by omega)))[j]? = some ((t.enc (xs[off + i]'(by omega)))[j]'(by rw [Ty.enc_length _ hfl]; exact hj)) := List.getElem?_eq_getElem _
  rw [hx]
  exact flat_cell hfl h (List.getElem?_eq_getElem _) hx

theorem chunks_get {α : Type} {g : List AV → Option α} {sz : Nat} : ∀ {n : Nat} {cs : List AV} {xs : List α}, chunks g sz n cs = some xs → xs.length = n ∧ ∀ (k : Nat) (x : α), xs[k]? = some x → g ((cs.drop (k * sz)).take sz) = some x
  | 0, cs, xs, h => by
    obtain rfl : [] = xs := Option.some.inj h
    exact ⟨rfl, fun k x h => by simp at h⟩
  | n + 1, cs, xs, h => by
    simp only [chunks] at h
    split at h
    · rename_i y ys h1 h2
      obtain rfl := Option.some.inj h
      obtain ⟨q1, q2⟩ := chunks_get h2
      refine ⟨by simp [q1], fun k x hk => ?_⟩
      cases k with
      | zero =>
        obtain rfl := Option.some.inj hk
        simpa using h1
      | succ k =>
        have := q2 k x (by simpa using hk)
        rw [List.drop_drop] at this
        rw [Nat.succ_mul, Nat.add_comm]
        exact this
    · cases h
theorem val_flat : ∀ {t : Ty} {x : t.D}, t.flat = true → ∃ l, Ty.Val (fun _ => True) w t (t.enc x) x l
  | .int, _, _ => ⟨[], rfl, rfl⟩
  | .bool, _, _ => ⟨[], rfl, rfl⟩
  | .str, _, _ => ⟨[], rfl, rfl⟩
  | .slice _, _, h => by cases h
  | .pair a b, x, h => by
    simp only [Ty.flat, Bool.and_eq_true] at h
    obtain ⟨l1, h1⟩ := val_flat (x := x.1) h.1
    obtain ⟨l2, h2⟩ := val_flat (x := x.2) h.2
    exact ⟨_, _, _, l1, l2, rfl, h1, h2, rfl⟩
/-- A slice value's elements. -/
theorem srcOf_sl {lo : Nat} (hob : ∀ i o l, ob i = some o → σ i = some l → o.Rep lo σ im w l) {R : Nat → Prop} (hR1 : ∀ b, im b → R b) (hR2 : ∀ i o b c s, ob i = some o → σ i = some (.at_ b c s) → R b) {t : Ty} {c : AV} {v : Value} {ys : List t.D} (h : srcOf ob t c = some ys) (hr : AV.Rep σ im w c v) :
    ∃ A cp l, v = .slice A ys.length cp ∧ Sl R w t A cp ys l := by
  unfold srcOf at h
  split at h
  · obtain rfl := Option.some.inj h
    exact ⟨none, 0, [], hr, by simp, by simp [maxLen], fun _ => [], by simp, fun h => absurd h (by simp)⟩
  · split at h
    · rename_i hh _
      obtain rfl := Option.some.inj h
      obtain ⟨hh⟩ := hh
      subst hh
      obtain ⟨A, cp, l, e, hs⟩ := hr
      exact ⟨A, cp, l, e, sl_mono (fun b _ hb => hR1 b hb) hs⟩
    · cases h
  · split at h
    · rename_i hh _
      obtain rfl := Option.some.inj h
      obtain ⟨hh⟩ := hh
      subst hh
      obtain ⟨A, cp, l, e, hs⟩ := hr.2
      exact ⟨A, cp, l, e, sl_mono (fun b _ hb => hR1 b hb) hs⟩
    · cases h
  · rename_i i u0 off len
    split at h
    · rename_i e u xs hj
      split at h
      · rename_i hle
        split at h
        · rename_i hh _
          obtain rfl := Option.some.inj h
          obtain ⟨hh⟩ := hh
          subst hh
          rw [castL_self]
          have hlen : ((xs.drop off).take len).length = len := by rw [List.length_take, List.length_drop]; omega
          rcases hr with ⟨g1, rfl, rfl, g4⟩ | ⟨b, cap, g1, g2, g3⟩ | ⟨lc, g1, g2, g3, A, c, g4, g5⟩
          rotate_left
          rotate_left
          · subst g3
            exact ⟨A, c, [], by rw [hlen]; exact g4, by simp, g5, fun _ => [], by simp, fun h => absurd h (by simp)⟩
          · exact ⟨none, 0, [], by rw [hlen]; exact g4, by simp, by simp [maxLen], fun _ => [], by simp, fun h => absurd h (by simp)⟩
          · obtain ⟨hfl, hown, hs⟩ := hob _ _ _ hj g1
            have hs0 := hs b cap _ rfl
            obtain ⟨l, hl⟩ := own_sl hfl hown hle
            exact ⟨_, _, l, by rw [hlen, ← hs0]; exact g3, sl_mono (fun b' _ e => by subst e; exact hR2 _ _ _ _ _ hj g1) hl⟩
        · cases h
      · cases h
    · cases h
  · cases h
theorem vecD_sl {lo : Nat} (hob : ∀ i o l, ob i = some o → σ i = some l → o.Rep lo σ im w l) {R : Nat → Prop} (hR1 : ∀ b, im b → R b) (hR2 : ∀ i o b c s, ob i = some o → σ i = some (.at_ b c s) → R b) {t : Ty} (ih : ∀ (cs : List AV) (vs : List Value) (x : t.D), AV.RepL σ im w cs vs → rdC ob t cs = some x → ∃ l, Ty.Val R w t vs x l)
    {c : AV} {v : Value} {ys : List t.D} (h : vecD ob t.size (rdC ob t) c = some ys) (hr : AV.Rep σ im w c v) : ∃ A cp l, v = .slice A ys.length cp ∧ Sl R w t A cp ys l := by
  unfold vecD at h
  split at h
  · rename_i i u0 off len
    split at h
    · rename_i e sz n cs hj
      split at h
      · rename_i hc
        obtain ⟨rfl, hle⟩ := hc
        obtain ⟨hlen, hget⟩ := chunks_get h
        subst hlen
        rcases hr with ⟨g1, rfl, h0, g4⟩ | ⟨b, cap, g1, g2, g3⟩ | ⟨lc, g1, g2, g3, A, c, g4, g5⟩
        rotate_left
        rotate_left
        · exact ⟨A, c, [], by rw [g4, g3], by rw [g3]; simp, g5, fun _ => [], by rw [g3]; simp, fun h => absurd h (by rw [g3]; simp)⟩
        · exact ⟨none, 0, [], by rw [g4, h0], by rw [h0]; simp, by simp [maxLen], fun _ => [], by rw [h0]; simp, fun h => absurd h (by rw [h0]; simp)⟩
        · obtain ⟨vs, hown, p2, p3, hs⟩ := hob _ _ _ hj g1
          have hs0 := hs b cap _ rfl
          have hl := hown.1
          have hcap : cap ≤ maxLen := by
            rcases hown.2 with ⟨e1, _⟩ | ⟨_, _, _, e1, _, _, _, h2, _⟩
            · cases e1
            · cases e1; exact h2
          have hsz := Ty.size_pos t
          have hex : ∀ k : Nat, ∃ ls, ∀ (hk : k < ys.length), Ty.Mem R w t ((⟨b, off * u0.size, none⟩ : Addr).add (k * t.size)) ys[k] ls := by
            intro k
            by_cases hk : k < ys.length
            · have hq := hget k _ (List.getElem?_eq_getElem hk)
              have hseg : ((((cs.drop (off * t.size)).take (ys.length * t.size)).drop (k * t.size)).take t.size) = (cs.drop ((off + k) * t.size)).take t.size := by
                rw [List.drop_take, List.drop_drop, List.take_take, ← Nat.add_mul]
                congr 1
                have : (k + 1) * t.size ≤ ys.length * t.size := Nat.mul_le_mul_right _ hk
                rw [Nat.succ_mul] at this
                omega
              rw [hseg] at hq
              have hmul : (off + k + 1) * t.size ≤ n * t.size := Nat.mul_le_mul_right _ (by omega)
              rw [Nat.succ_mul] at hmul
              obtain ⟨l, hv⟩ := ih _ _ _ ((p2.drop ((off + k) * t.size)).take t.size) hq
              obtain ⟨bs, hm⟩ := Ty.Val.mem hv (a := (⟨b, off * u0.size, none⟩ : Addr).add (k * t.size)) (fun j hj => by
                have hjl : j < t.size := by rw [hv.length] at hj; exact hj
                rw [List.getElem?_take, if_pos hjl, List.getElem?_drop]
                have hin : (off + k) * t.size + j < vs.length := by omega
                have := hown.cells (g := b) rfl _ _ (List.getElem?_eq_getElem hin)
                rw [add_mk, Nat.zero_add] at this
                rw [add_mk, add_mk, hs0, ← Nat.add_mul, List.getElem?_eq_getElem hin]
                exact this)
              exact ⟨bs, fun _ => hm⟩
            · exact ⟨[], fun h => absurd h hk⟩
          refine ⟨_, cap - off, _, g3, by omega, by omega, fun k => Classical.choose (hex k), rfl, fun _ => ⟨_, rfl, hR2 _ _ _ _ _ hj g1, fun k hk => Classical.choose_spec (hex k) hk⟩⟩
      · cases h
    · cases h
  · cases h
theorem rdC_val {lo : Nat} (hob : ∀ i o l, ob i = some o → σ i = some l → o.Rep lo σ im w l) {R : Nat → Prop} (hR1 : ∀ b, im b → R b) (hR2 : ∀ i o b c s, ob i = some o → σ i = some (.at_ b c s) → R b) : ∀ (t : Ty) (cs : List AV) (vs : List Value) (x : t.D), AV.RepL σ im w cs vs → rdC ob t cs = some x → ∃ l, Ty.Val R w t vs x l
  | .int, cs, vs, x, hr, h => ⟨[], Ty.ofAV_enc (t := .int) rfl hr h, rfl⟩
  | .bool, cs, vs, x, hr, h => ⟨[], Ty.ofAV_enc (t := .bool) rfl hr h, rfl⟩
  | .str, cs, vs, x, hr, h => ⟨[], Ty.ofAV_enc (t := .str) rfl hr h, rfl⟩
  | .slice u, cs, vs, x, hr, h => by
    simp only [rdC] at h
    split at h
    · rename_i c
      obtain ⟨v, _, rfl, hv, rfl⟩ := hr
      split at h
      · rename_i ys hs
        obtain rfl := Option.some.inj h
        obtain ⟨A, cp, l, e, hsl⟩ := srcOf_sl hob hR1 hR2 hs hv
        exact ⟨l, A, cp, by rw [e], hsl⟩
      · obtain ⟨A, cp, l, e, hsl⟩ := vecD_sl hob hR1 hR2 (rdC_val hob hR1 hR2 u) h hv
        exact ⟨l, A, cp, by rw [e], hsl⟩
    · cases h
  | .pair a b, cs, vs, x, hr, h => by
    simp only [rdC] at h
    split at h
    · rename_i y z h1 h2
      obtain rfl := Option.some.inj h
      obtain ⟨l1, v1⟩ := rdC_val hob hR1 hR2 a _ _ y (hr.take a.size) h1
      obtain ⟨l2, v2⟩ := rdC_val hob hR1 hR2 b _ _ z (hr.drop a.size) h2
      exact ⟨_, _, _, l1, l2, (List.take_append_drop a.size vs).symm, v1, v2, rfl⟩
    · cases h
theorem gnd_repW {lo : Nat} (hob : ∀ i o l, ob i = some o → σ i = some l → o.Rep lo σ im w l) {R : Nat → Prop} (hR1 : ∀ b, im b → R b) (hR2 : ∀ i o b c s, ob i = some o → σ i = some (.at_ b c s) → R b) {σ2 : Oid → Option Loc} : ∀ (n : Nat) (c d : AV) (v : Value), gnd ob n c = some d → AV.Rep σ im w c v → AV.Rep σ2 R w d v
  | 0, _, _, _, h, _ => by cases h
  | n + 1, c, d, v, h, hr => by
    have ih := fun {cs ds : List AV} {vs : List Value} => mapO_rep (σ := σ) (im := im) (w := w) (σ' := σ2) (im' := R) (gnd_repW hob hR1 hR2 n) (cs := cs) (ds := ds) (vs := vs)
    simp only [gnd] at h
    split at h
    · obtain rfl := Option.some.inj h; exact hr
    · obtain rfl := Option.some.inj h; exact hr
    · obtain rfl := Option.some.inj h; exact hr
    · obtain rfl := Option.some.inj h; exact hr
    · obtain rfl := Option.some.inj h
      obtain ⟨A, c, l, e, hs⟩ := hr
      exact ⟨A, c, l, e, sl_mono (fun b _ hb => hR1 b hb) hs⟩
    · obtain rfl := Option.some.inj h
      obtain ⟨A, c, l, e, hs⟩ := hr.2
      exact ⟨A, c, l, e, sl_mono (fun b _ hb => hR1 b hb) hs⟩
    · rename_i i u0 off len
      split at h
      · rename_i e u xs hj
        split at h
        · rename_i hle
          obtain rfl := Option.some.inj h
          have hlen : ((xs.drop off).take len).length = len := by rw [List.length_take, List.length_drop]; omega
          rcases hr with ⟨g1, rfl, rfl, g4⟩ | ⟨b, cap, g1, g2, g3⟩ | ⟨lc, g1, g2, g3, A, c, g4, g5⟩
          rotate_left
          rotate_left
          · subst g3
            exact ⟨A, c, [], by rw [hlen]; exact g4, by simp, g5, fun _ => [], by simp, fun h => absurd h (by simp)⟩
          · exact ⟨none, 0, [], by rw [hlen]; exact g4, by simp, by simp [maxLen], fun _ => [], by simp, fun h => absurd h (by simp)⟩
          · obtain ⟨hfl, hown, hs⟩ := hob _ _ _ hj g1
            have hs0 := hs b cap _ rfl
            obtain ⟨l, hl⟩ := own_sl hfl hown hle
            exact ⟨_, _, l, by rw [hlen, ← hs0]; exact g3, sl_mono (fun b' _ e => by subst e; exact hR2 _ _ _ _ _ hj g1) hl⟩
        · cases h
      · obtain ⟨ys, hys, rfl⟩ := Option.map_eq_some_iff.1 h
        obtain ⟨A, cp, l, e, hs⟩ := vecD_sl hob hR1 hR2 (rdC_val hob hR1 hR2 _) hys hr
        exact ⟨A, cp, l, e, hs⟩
      · cases h
    · rename_i i
      split at h
      · rename_i mt t es hj
        obtain rfl := Option.some.inj h
        obtain ⟨b, cap, sz, g1, g2⟩ := hr
        exact ⟨b, g2, hR2 _ _ _ _ _ hj g1, hob _ _ _ hj g1⟩
      · cases h
    · obtain rfl := Option.some.inj h
      obtain ⟨b, e, h1, h2⟩ := hr
      exact ⟨b, e, hR1 _ h1, h2⟩
    · rename_i i k
      split at h
      · rename_i ty cs hj
        obtain ⟨ds, hds, rfl⟩ := Option.map_eq_some_iff.1 h
        obtain ⟨b, cap, sz, g1, g2⟩ := hr
        obtain ⟨vs, q1, q2, _⟩ := hob _ _ _ hj g1
        refine ⟨b, k, vs.drop k, g2, ⟨(Array.getElem?_eq_some_iff.1 q1).1, hR2 _ _ _ _ _ hj g1⟩, fun j u hu => ?_, ih hds (q2.drop k)⟩
        rw [List.getElem?_drop] at hu
        simp only [World.cell?, q1]
        simpa using hu
      · cases h
    · obtain ⟨ds, hds, rfl⟩ := Option.map_eq_some_iff.1 h
      obtain ⟨vs, e, hl⟩ := hr
      exact ⟨vs, e, ih hds hl⟩
    · obtain ⟨ds, hds, rfl⟩ := Option.map_eq_some_iff.1 h
      obtain ⟨vs, e, hl⟩ := hr
      exact ⟨vs, e, ih hds hl⟩
    · obtain ⟨ds, hds, rfl⟩ := Option.map_eq_some_iff.1 h
      obtain ⟨b, k, vs, e1, e2, e3, e4⟩ := hr
      exact ⟨b, k, vs, e1, ⟨e2.1, hR1 _ e2.2⟩, e3, ih hds e4⟩
    · cases h
theorem gnd_rep {lo : Nat} (hob : ∀ i o l, ob i = some o → σ i = some l → o.Rep lo σ im w l) (n : Nat) (c d : AV) (v : Value) (h : gnd ob n c = some d) (hr : AV.Rep σ im w c v) : AV.Rep (fun _ => none) (fun _ => True) w d v :=
  gnd_repW hob (fun _ _ => trivial) (fun _ _ _ _ _ _ _ => trivial) n c d v h hr
end
end Go.Proofs.YtefolocdfgelcaaDoor
