/- An abstract machine: calls of functions by contracts; no condition. -/
import Derived.Test.YthjdknddcceigaaDoorE9
namespace Go.Proofs.YthjdknddcceigaaDoor
open Go.RowKit Go.Deep

def mapO (g : AV → Option AV) : List AV → Option (List AV)
  | [] => some []
  | c :: cs => match g c, mapO g cs with
    | some d, some ds => some (d :: ds)
    | _, _ => none
/-- An argument without names of objects: what it reads az. -/
def gnd (ob : Oid → Option Ob) : Nat → AV → Option AV
  | 0, _ => none
  | n + 1, c => match c with
    | .int k m => some (.int k m)
    | .bool b => some (.bool b)
    | .str s => some (.str s)
    | .nils => some .nils
    | .tree t xs => some (.tree t xs)
    | .giv _ t xs => some (.tree t xs)
    | .own i _ off len => match ob i with
      | some (.arr _ u xs) => if off + len ≤ xs.length then some (.tree u ((xs.drop off).take len)) else none
      | _ => none
    | .mp i => match ob i with
      | some (.map mt t es) => some (.mtree mt t es)
      | _ => none
    | .mtree mt t es => some (.mtree mt t es)
    | .box i k => match ob i with
      | some (.cells _ cs) => (mapO (gnd ob n) (cs.drop k)).map .ref
      | _ => none
    | .agg cs => (mapO (gnd ob n) cs).map .agg
    | .fn f cs => (mapO (gnd ob n) cs).map (.fn f)
    | .ref cs => (mapO (gnd ob n) cs).map .ref
    | _ => none

/-- A leaf of a result: a number or text, a new row, a part of what was given. -/
inductive RL where
  | sc (c : AV)
  | new (e : TypeId) (t : Ty) (xs : List t.D)
  | arg (i : Nat) (k : Option Nat)
  | frz (c : AV)
/-- A part of what was given, az it was given. -/
def compV (vs : List Value) (i : Nat) : Option Nat → Option Value
  | none => vs[i]?
  | some k => match vs[i]? with
    | some (.agg a) => a.toList[k]?
    | _ => none
def compA (az : List AV) (i : Nat) : Option Nat → AV
  | none => az.getD i .any
  | some k => match az[i]? with
    | some (.agg cs) => cs.getD k .any
    | _ => .any
/-- A result: one value or several, each one value or the cells of a struct. -/
structure RV where
  tup : Bool
  ps : List (Bool × List RL)
def AV.scal : AV → Bool
  | .int .. | .bool .. | .str .. | .nils => true
  | _ => false
mutual
def AV.gndB : AV → Bool
  | .int .. | .bool .. | .str .. | .nils => true
  | .tree .. => true
  | .mtree .. => true
  | .agg cs => AV.gndBL cs
  | .tup cs => AV.gndBL cs
  | .fn _ cs => AV.gndBL cs
  | .ref cs => AV.gndBL cs
  | _ => false
def AV.gndBL : List AV → Bool
  | [] => true
  | c :: cs => c.gndB && AV.gndBL cs
end
def RL.out (mk : Nat → Oid) (az : List AV) : Nat → List RL → List AV × List (Oid × Option Ob)
  | _, [] => ([], [])
  | j, .sc c :: r => (c :: (RL.out mk az j r).1, (RL.out mk az j r).2)
  | j, .new e t xs :: r => (.own (mk j) t 0 xs.length :: (RL.out mk az (j + 1) r).1, (mk j, some (.arr e t xs)) :: (RL.out mk az (j + 1) r).2)
  | j, .arg i k :: r => (compA az i k :: (RL.out mk az j r).1, (RL.out mk az j r).2)
  | j, .frz c :: r => (c :: (RL.out mk az j r).1, (RL.out mk az j r).2)
def RL.okB : RL → Bool
  | .sc c => c.scal
  | .new _ t _ => t.flat
  | .arg _ _ => true
  | .frz c => c.gndB
def partsA : List (Bool × List RL) → List AV → List AV
  | [], _ => []
  | (b, rs) :: ps, us => (if b then .agg (us.take rs.length) else us.headD .any) :: partsA ps (us.drop rs.length)
def partsV : List (Bool × List RL) → List Value → List Value
  | [], _ => []
  | (b, rs) :: ps, us => (if b then .agg (us.take rs.length).toArray else us.headD undef) :: partsV ps (us.drop rs.length)
def RV.leaves (r : RV) : List RL := r.ps.flatMap (·.2)
def RV.out (r : RV) (mk : Nat → Oid) (az : List AV) : AV × List (Oid × Option Ob) :=
  (if r.tup then .tup (partsA r.ps (RL.out mk az 0 r.leaves).1) else (partsA r.ps (RL.out mk az 0 r.leaves).1).headD .any, (RL.out mk az 0 r.leaves).2)

/-- The values of the leaves, and where the new rows lie. -/
def RL.RepL (lo : Nat) (im : Nat → Prop) (vs : List Value) (w : World) : List RL → List Value → List Loc → Prop
  | [], us, ls => us = [] ∧ ls = []
  | .sc c :: r, us, ls => ∃ u us', us = u :: us' ∧ AV.Rep (fun _ => none) im w c u ∧ c.scal = true ∧ RL.RepL lo im vs w r us' ls
  | .new e t xs :: r, us, ls => ∃ l ls' us', us = l.val xs.length :: us' ∧ ls = l :: ls' ∧ t.flat = true ∧ w.ownsRow lo e t.size (l.val xs.length) xs.length (t.cells xs) ∧ (∀ b c s, l = .at_ b c s → s = t.size) ∧ RL.RepL lo im vs w r us' ls'
  | .arg i k :: r, us, ls => ∃ u us', us = u :: us' ∧ compV vs i k = some u ∧ RL.RepL lo im vs w r us' ls
  | .frz c :: r, us, ls => ∃ u us', us = u :: us' ∧ AV.Rep (fun _ => none) (fun b => lo ≤ b) w c u ∧ c.gndB = true ∧ RL.RepL lo im vs w r us' ls
/-- No two rows in one block. -/
def apartL : List Loc → Prop
  | [] => True
  | l :: r => (∀ b c s, l = .at_ b c s → ∀ c' s', .at_ b c' s' ∉ r) ∧ apartL r
def RV.Rep (lo : Nat) (im : Nat → Prop) (vs : List Value) (w : World) (r : RV) (u : Value) : Prop :=
  ∃ us ls, RL.RepL lo im vs w r.leaves us ls ∧ (apartL ls ∧ ((∃ c, RL.frz c ∈ r.leaves) → ls = [])) ∧ u = (if r.tup then .tuple (partsV r.ps us).toArray else (partsV r.ps us).headD undef)

/-- A contract: with such arguments the function hands back such a result and only makes memory. -/
def CallOK (P : Program) (G : World → Prop) (f : FuncId) (args : List AV) (r : RV) : Prop :=
  ∀ (w : World) (im : Nat → Prop) (vs : List Value), (∀ w', Below w.heap.size w w' → G w') → AV.RepL (fun _ => none) im w args vs →
    Calls P f vs.toArray w fun e w' => ∃ u, e = .returned u ∧ Below w.heap.size w w' ∧ r.Rep w.heap.size im vs w' u

/-- A nil slice as an argument reads as a slice without elements. -/
def nilT1 : Option Ty → AV → AV
  | some t, .nils => .tree t []
  | _, c => c
def nilL : List (Option Ty) → List AV → List AV
  | t :: ts, c :: cs => nilT1 t c :: nilL ts cs
  | _, cs => cs
def nilT : List (Option Ty) → AV → AV
  | ts, .agg cs => .agg (nilL ts cs)
  | t :: _, c => nilT1 t c
  | [], c => c
def nilTL : List (List (Option Ty)) → List AV → List AV
  | t :: ts, c :: cs => nilT t c :: nilTL ts cs
  | _, cs => cs

section
variable {P : Program} {G : World → Prop} {w0 w w' : World} {ob : Oid → Option Ob} {σ : Oid → Option Loc} {K K' : Nat → Prop} {im : Nat → Prop}

theorem nilT1_rep {t : Option Ty} {c : AV} {v : Value} (h : AV.Rep σ im w c v) : AV.Rep σ im w (nilT1 t c) v := by
  unfold nilT1
  split
  · exact ⟨none, 0, [], h, by simp, by simp [maxLen], fun _ => [], by simp, fun h => absurd h (by simp)⟩
  · exact h
theorem nilL_rep : ∀ {ts : List (Option Ty)} {cs : List AV} {vs : List Value}, AV.RepL σ im w cs vs → AV.RepL σ im w (nilL ts cs) vs
  | _ :: _, _ :: _, _, ⟨u, us, e, h1, h2⟩ => ⟨u, us, e, nilT1_rep h1, nilL_rep h2⟩
  | [], _, _, h => by simpa [nilL] using h
  | _ :: _, [], _, h => by simpa [nilL] using h
theorem nilT_rep {ts : List (Option Ty)} {c : AV} {v : Value} (h : AV.Rep σ im w c v) : AV.Rep σ im w (nilT ts c) v := by
  unfold nilT
  split
  · obtain ⟨vs, e, hl⟩ := h; exact ⟨vs, e, nilL_rep hl⟩
  · exact nilT1_rep h
  · exact h
theorem nilTL_rep : ∀ {ts : List (List (Option Ty))} {cs : List AV} {vs : List Value}, AV.RepL σ im w cs vs → AV.RepL σ im w (nilTL ts cs) vs
  | _ :: _, _ :: _, _, ⟨u, us, e, h1, h2⟩ => ⟨u, us, e, nilT_rep h1, nilTL_rep h2⟩
  | [], _, _, h => by simpa [nilTL] using h
  | _ :: _, [], _, h => by simpa [nilTL] using h

theorem mapO_rep {g : AV → Option AV} {σ' : Oid → Option Loc} {im' : Nat → Prop} (hg : ∀ c d v, g c = some d → AV.Rep σ im w c v → AV.Rep σ' im' w d v) : ∀ {cs ds : List AV} {vs : List Value}, mapO g cs = some ds → AV.RepL σ im w cs vs → AV.RepL σ' im' w ds vs
  | [], ds, vs, h, hr => by
    obtain rfl : [] = ds := Option.some.inj h
    exact hr
  | c :: cs, ds, vs, h, ⟨u, us, e, h1, h2⟩ => by
    simp only [mapO] at h
    split at h
    · rename_i d ds' q1 q2
      obtain rfl := Option.some.inj h
      exact ⟨u, us, e, hg c d u q1 h1, mapO_rep hg q2 h2⟩
    · cases h

theorem own_sl {e : TypeId} {t : Ty} {xs : List t.D} {b cap base off len : Nat} (hfl : t.flat = true) (h : w.ownsRow base e t.size (.slice (some ⟨b, 0, none⟩) xs.length cap) xs.length (t.cells xs)) (hle : off + len ≤ xs.length) :
    ∃ l, Sl (fun b' => b' = b) w t (some ⟨b, off * t.size, none⟩) (cap - off) ((xs.drop off).take len) l := by
  have hc : xs.length ≤ cap ∧ cap ≤ maxLen := by
    rcases h.2 with ⟨e1, _⟩ | ⟨_, _, _, e1, _, _, h1, h2, _⟩
    · cases e1
    · cases e1; exact ⟨h1, h2⟩
  have hlen : ((xs.drop off).take len).length = len := by rw [List.length_take, List.length_drop]; omega
  refine ⟨_, by rw [hlen]; omega, by omega, fun i => (List.range t.size).map ((⟨b, (off + i) * t.size, none⟩ : Addr).add ·), rfl, fun _ => ⟨_, rfl, rfl, fun i hi => ?_⟩⟩
  rw [hlen] at hi
  have hget : ((xs.drop off).take len)[i]'(by rw [hlen]; exact hi) = xs[off + i]'(by omega) := by
    rw [List.getElem_take, List.getElem_drop]
  rw [hget, add_mk, ← Nat.add_mul]
  refine Ty.mem_flat hfl fun j hj => ?_
  rw [add_mk]
  have hx : (t.enc (xs[off + i]'(by omega)))[j]? = some ((t.enc (xs[off + i]'(by omega)))[j]'(by rw [Ty.enc_length _ hfl]; exact hj)) := List.getElem?_eq_getElem _
  rw [hx]
  exact flat_cell hfl h (List.getElem?_eq_getElem _) hx

theorem gnd_rep {lo : Nat} (hob : ∀ i o l, ob i = some o → σ i = some l → o.Rep lo σ im w l) : ∀ (n : Nat) (c d : AV) (v : Value), gnd ob n c = some d → AV.Rep σ im w c v → AV.Rep (fun _ => none) (fun _ => True) w d v
  | 0, _, _, _, h, _ => by cases h
  | n + 1, c, d, v, h, hr => by
    have ih := fun {cs ds : List AV} {vs : List Value} => mapO_rep (σ := σ) (im := im) (w := w) (σ' := fun _ => none) (im' := fun _ => True) (gnd_rep hob n) (cs := cs) (ds := ds) (vs := vs)
    simp only [gnd] at h
    split at h
    · obtain rfl := Option.some.inj h; exact hr
    · obtain rfl := Option.some.inj h; exact hr
    · obtain rfl := Option.some.inj h; exact hr
    · obtain rfl := Option.some.inj h; exact hr
    · obtain rfl := Option.some.inj h
      obtain ⟨A, c, l, e, hs⟩ := hr
      exact ⟨A, c, l, e, sl_any hs⟩
    · obtain rfl := Option.some.inj h
      obtain ⟨A, c, l, e, hs⟩ := hr.2
      exact ⟨A, c, l, e, sl_any hs⟩
    · rename_i i u0 off len
      split at h
      · rename_i e u xs hj
        split at h
        · rename_i hle
          obtain rfl := Option.some.inj h
          have hlen : ((xs.drop off).take len).length = len := by rw [List.length_take, List.length_drop]; omega
          rcases hr with ⟨g1, rfl, rfl, g4⟩ | ⟨b, cap, g1, g2, g3⟩ | ⟨lc, g1, g2, g3, A, c, g4, g5⟩
          rotate_left
          rotate_left
          · subst g3
            exact ⟨A, c, [], by rw [hlen]; exact g4, by simp, g5, fun _ => [], by simp, fun h => absurd h (by simp)⟩
          · exact ⟨none, 0, [], by rw [hlen]; exact g4, by simp, by simp [maxLen], fun _ => [], by simp, fun h => absurd h (by simp)⟩
          · obtain ⟨hfl, hown, hs⟩ := hob _ _ _ hj g1
            have hs0 := hs b cap _ rfl
            obtain ⟨l, hl⟩ := own_sl hfl hown hle
            exact ⟨_, _, l, by rw [hlen, ← hs0]; exact g3, sl_any hl⟩
        · cases h
      · cases h
    · rename_i i
      split at h
      · rename_i mt t es hj
        obtain rfl := Option.some.inj h
        obtain ⟨b, cap, sz, g1, g2⟩ := hr
        exact ⟨b, g2, trivial, hob _ _ _ hj g1⟩
      · cases h
    · obtain rfl := Option.some.inj h
      obtain ⟨b, e, _, h2⟩ := hr
      exact ⟨b, e, trivial, h2⟩
    · rename_i i k
      split at h
      · rename_i ty cs hj
        obtain ⟨ds, hds, rfl⟩ := Option.map_eq_some_iff.1 h
        obtain ⟨b, cap, sz, g1, g2⟩ := hr
        obtain ⟨vs, q1, q2, _⟩ := hob _ _ _ hj g1
        refine ⟨b, k, vs.drop k, g2, ⟨(Array.getElem?_eq_some_iff.1 q1).1, trivial⟩, fun j u hu => ?_, ih hds (q2.drop k)⟩
        rw [List.getElem?_drop] at hu
        simp only [World.cell?, q1]
        simpa using hu
      · cases h
    · obtain ⟨ds, hds, rfl⟩ := Option.map_eq_some_iff.1 h
      obtain ⟨vs, e, hl⟩ := hr
      exact ⟨vs, e, ih hds hl⟩
    · obtain ⟨ds, hds, rfl⟩ := Option.map_eq_some_iff.1 h
      obtain ⟨vs, e, hl⟩ := hr
      exact ⟨vs, e, ih hds hl⟩
    · obtain ⟨ds, hds, rfl⟩ := Option.map_eq_some_iff.1 h
      obtain ⟨b, k, vs, e1, e2, e3, e4⟩ := hr
      exact ⟨b, k, vs, e1, ⟨e2.1, trivial⟩, e3, ih hds e4⟩
    · cases h
end
end Go.Proofs.YthjdknddcceigaaDoor
