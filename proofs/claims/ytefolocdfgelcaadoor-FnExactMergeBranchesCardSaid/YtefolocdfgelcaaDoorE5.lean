/- An abstract machine: loads from objects, and stores into them; no condition. -/
import Derived.Test.YtefolocdfgelcaaDoorE4
import Derived.Laws.CopyRow
namespace Go.Proofs.YtefolocdfgelcaaDoor
open Go.RowKit Go.Deep

/-- The datum of a flat type that such cells read as. -/
def ofI : List AV → Option Int
  | [.int .i64 n] => some n
  | _ => none
def ofB : List AV → Option Bool
  | [.bool b] => some b
  | _ => none
def ofS : List AV → Option ByteArray
  | [.str s] => some s
  | _ => none
def Ty.ofAV : (t : Ty) → List AV → Option t.D
  | .int, cs => ofI cs
  | .bool, cs => ofB cs
  | .str, cs => ofS cs
  | .slice _, _ => none
  | .pair a b, cs => match a.ofAV (cs.take a.size), b.ofAV (cs.drop a.size) with
    | some x, some y => some (x, y)
    | _, _ => none

def stCells (one : Bool) (m k : Nat) (cs : List AV) (v : AV) : Option (List AV) :=
  if one then (if k < cs.length ∧ v.one = true then some (cs.set k v) else none) else
    match v with
    | .agg ds => if ds.length = m ∧ k + m ≤ cs.length ∧ ds.all AV.one = true then some (cs.take k ++ (ds ++ cs.drop (k + m))) else none
    | _ => none

/-- A store. -/
def evSt (f : Nat → AV) (ob : Oid → Option Ob) (one : Bool) (m : Nat) (x y : Opd) : Option (AV × List (Oid × Option Ob)) :=
  match x.ev f with
  | .box j k => match ob j with
    | some (.cells ty cs) => (stCells one m k cs (y.ev f)).map fun ds => (.any, [(j, none), (j, some (.cells ty ds))])
    | _ => none
  | .elt j e k => match ob j with
    | some (.arr et t xs) => match xs[e]? with
      | some d => match stCells one m k (t.av d) (y.ev f) with
        | some ds => match t.ofAV ds with
          | some d' => some (.any, [(j, none), (j, some (.arr et t (xs.set e d')))])
          | none => none
        | none => none
      | none => none
    | some (.vec et sz n cs) => (stCells one m (e * sz + k) cs (y.ev f)).map fun ds => (.any, [(j, none), (j, some (.vec et sz n ds))])
    | _ => none
  | _ => none

section
variable {P : Program} {G : World → Prop} {w0 w w' : World} {ob : Oid → Option Ob} {σ : Oid → Option Loc} {K K' : Nat → Prop} {im : Nat → Prop}

theorem Ty.enc_rep : ∀ {t : Ty} (x : t.D), t.flat = true → AV.RepL σ im w (t.av x) (t.enc x)
  | .int, _, _ => ⟨_, _, rfl, rfl, rfl⟩
  | .bool, _, _ => ⟨_, _, rfl, rfl, rfl⟩
  | .str, _, _ => ⟨_, _, rfl, rfl, rfl⟩
  | .slice _, _, h => by cases h
  | .pair a b, x, h => by
    simp only [Ty.flat, Bool.and_eq_true] at h
    exact AV.RepL.append (Ty.enc_rep x.1 h.1) (Ty.enc_rep x.2 h.2)
theorem Ty.ofAV_enc : ∀ {t : Ty} {cs : List AV} {vs : List Value} {x : t.D}, t.flat = true → AV.RepL σ im w cs vs → t.ofAV cs = some x → vs = t.enc x
  | .int, cs, vs, x, _, h, he => by
    have he' : ofI cs = some x := he
    unfold ofI at he'
    split at he'
    · obtain ⟨_, _, rfl, h1, h2⟩ := h
      obtain rfl := Option.some.inj he'
      rw [h1, h2]; rfl
    · cases he'
  | .bool, cs, vs, x, _, h, he => by
    have he' : ofB cs = some x := he
    unfold ofB at he'
    split at he'
    · obtain ⟨_, _, rfl, h1, h2⟩ := h
      obtain rfl := Option.some.inj he'
      rw [h1, h2]; rfl
    · cases he'
  | .str, cs, vs, x, _, h, he => by
    have he' : ofS cs = some x := he
    unfold ofS at he'
    split at he'
    · obtain ⟨_, _, rfl, h1, h2⟩ := h
      obtain rfl := Option.some.inj he'
      rw [h1, h2]; rfl
    · cases he'
  | .slice _, _, _, _, h, _, _ => by cases h
  | .pair a b, cs, vs, x, hf, h, he => by
    simp only [Ty.flat, Bool.and_eq_true] at hf
    simp only [Ty.ofAV] at he
    split at he
    · rename_i y z h1 h2
      obtain rfl := Option.some.inj he
      have e1 := Ty.ofAV_enc hf.1 (h.take a.size) h1
      have e2 := Ty.ofAV_enc hf.2 (h.drop a.size) h2
      rw [← List.take_append_drop a.size vs, e1, e2]
      rfl
    · cases he

theorem flat_cell {e : TypeId} {t : Ty} {xs : List t.D} {b cap n base : Nat} (hfl : t.flat = true) (h : ownsV w base e t.size (.slice (some ⟨b, 0, none⟩) n cap) n (t.cells xs)) {i k : Nat} {x : t.D} (hx : xs[i]? = some x) {u : Value} (hu : (t.enc x)[k]? = some u) :
    w.cell? ⟨b, i * t.size + k, none⟩ = some u := by
  obtain ⟨hlt, rfl⟩ := List.getElem?_eq_some_iff.1 hx
  have hk : k < t.size := by have := (List.getElem?_eq_some_iff.1 hu).1; rwa [Ty.enc_length _ hfl] at this
  have hc := h.cells (g := b) rfl (i * t.size + k) u (by rw [Ty.cells_get hfl xs i hlt k hk]; exact hu)
  rwa [add_mk, Nat.zero_add] at hc

/-- A load. -/
theorem evR_does [IsP P] {o : Oper} {a : Act} {q : I} {f : Nat → AV} {v : AV} {obL : Oid → Option Ob} (hc : I.of P o = some q) (he : evR f obL q = some v) (hm : Mem0 G w0 ob σ K w) (hK : ∀ n, K n → K' n)
    (hob : ∀ i o l, obL i = some o → σ i = some l → o.Rep w0.heap.size σ (imm ob σ) w l)
    (hf : ∀ x ∈ o.op.operands, ∀ y, Opd.of x = some y → AV.Rep σ (imm ob σ) w (y.ev f) (a.eval x)) : Oper.does P o a w (Goes G w0 ob K' σ (imm ob σ) w v) := by
  unfold I.of at hc
  split at hc <;> try (first
    | (obtain ⟨_, _, rfl⟩ := Option.map_eq_some_iff.1 hc; simp only [evR] at he; cases he; done)
    | ((repeat' split at hc) <;> first | (cases hc; done) | (obtain rfl := Option.some.inj hc; simp only [evR] at he; cases he; done) | (obtain ⟨_, _, rfl⟩ := Option.map_eq_some_iff.1 hc; simp only [evR] at he; cases he; done)))
  · skip
    rename_i t x ho
    split at hc
    · rename_i one m x' h1 h2
      obtain rfl := Option.some.inj hc
      have r1 := hf x (by simp [ho, Op.operands]) x' h2
      simp only [evR] at he
      split at he
      · rename_i j k hx
        rw [hx] at r1
        obtain ⟨b, cap, sz, e1, e2⟩ := r1
        split at he
        · rename_i ty cs hj
          obtain ⟨vs, g1, g2, _⟩ := hob j _ _ hj e1
          obtain ⟨u, hu, hr⟩ := ld_rep (P := P) (w := w) (σ := σ) (im := imm ob σ) (ad := ⟨b, k, none⟩) h1 he (fun j d hd => by
            obtain ⟨u, hu, hr⟩ := g2.get hd
            refine ⟨u, ?_, hr⟩
            rw [add_mk]
            simp only [World.cell?, g1]
            simpa using hu)
          exact Oper.does_value (by simp [execOp, ho, e2, hu]) (Goes.same hm hK hr)
        · cases he
      · rename_i j e k hx
        rw [hx] at r1
        obtain ⟨b, cap, sz, e1, e2⟩ := r1
        split at he
        · rename_i et t' xs hj
          split at he
          · rename_i y hy
            obtain ⟨hfl, hown, hsz⟩ := hob j _ _ hj e1
            obtain rfl := hsz b cap sz rfl
            obtain ⟨u, hu, hr⟩ := ld_rep (P := P) (w := w) (σ := σ) (im := imm ob σ) (ad := ⟨b, e * t'.size + k, none⟩) h1 he (fun j d hd => by
              obtain ⟨u, hu, hr⟩ := (Ty.enc_rep (σ := σ) (im := imm ob σ) (w := w) y hfl).get hd
              refine ⟨u, ?_, hr⟩
              rw [add_mk, Nat.add_assoc]
              exact flat_cell hfl hown hy hu)
            exact Oper.does_value (by simp [execOp, ho, e2, hu]) (Goes.same hm hK hr)
          · cases he
        · rename_i et sz' n cs hj
          obtain ⟨vs, hown, g2, _, hsz⟩ := hob j _ _ hj e1
          obtain rfl := hsz b cap sz rfl
          obtain ⟨u, hu, hr⟩ := ld_rep (P := P) (w := w) (σ := σ) (im := imm ob σ) (ad := ⟨b, e * sz + k, none⟩) h1 he (fun j d hd => by
            obtain ⟨u, hu, hr⟩ := g2.get hd
            refine ⟨u, ?_, hr⟩
            have := hown.cells (g := b) rfl _ _ hu
            rw [add_mk, Nat.zero_add] at this
            rw [add_mk]; exact this)
          exact Oper.does_value (by simp [execOp, ho, e2, hu]) (Goes.same hm hK hr)
        · cases he
      · cases he
    · cases hc
  · -- len of a map
    rename_i c ho
    split at hc
    · rename_i x t hca hcb hcc
      have hargs : c.args = #[x] := by rw [← Array.toArray_toList (xs := c.args), hcb]
      have htys : c.argTypes = #[t] := by rw [← Array.toArray_toList (xs := c.argTypes), hcc]
      split at hc
      · obtain rfl := Option.some.inj hc; simp only [evR] at he; cases he
      · obtain rfl := Option.some.inj hc; simp only [evR] at he; cases he
      · rename_i x' hu h1
        obtain rfl := Option.some.inj hc
        have r1 := hf x (by simp [ho, Op.operands, Call.operands, hca, hargs]) x' h1
        simp only [evR] at he
        split at he
        · rename_i j hx
          rw [hx] at r1
          obtain ⟨b, cap, sz, e1, e2⟩ := r1
          split at he
          · rename_i mt' ty es hj
            split at he
            · rename_i hmt
              subst hmt
              obtain rfl := Option.some.inj he
              have hr := hob j _ _ hj e1
              have hP := IsP.eq (P := P)
              subst hP
              have hrun := MapRep.len hr o.type
              exact Oper.does_value (v := .int .i64 es.length) (by simp [execOp, ho, resolve, hca, hargs, htys, invoke, builtin, e2, hrun, Result.andThen]) (Goes.same hm hK rfl)
            · cases he
          · cases he
        · cases he
      · cases hc
    · cases hc
  · -- lookup
    rename_i t x n ok ho
    split at hc
    · rename_i x' n' hu h1 h2
      obtain rfl := Option.some.inj hc
      have r1 := hf x (by simp [ho, Op.operands]) x' h1
      have r2 := hf n (by simp [ho, Op.operands]) n' h2
      simp only [evR] at he
      split at he
      · rename_i j k hx hn
        rw [hx] at r1
        have hk := (keyN_rep r2 hn).1
        have e3 := (keyN_rep r2 hn).2
        obtain ⟨b, cap, sz, e1, e2⟩ := r1
        split at he
        · rename_i mt' ty es hj
          split at he
          · rename_i hmt
            subst hmt
            obtain rfl := Option.some.inj he
            have hr := hob j _ _ hj e1
            have hP := IsP.eq (P := P)
            subst hP
            have hrun := MapRep.look hr hk ok
            exact Oper.does_value (v := if ok then .tuple #[mval ty ((mget es k).getD ty.dflt), .bool (mget es k).isSome] else mval ty ((mget es k).getD ty.dflt)) (by simp [execOp, ho, e2, e3, hrun, Result.andThen]) (Goes.same hm hK (lookAV_rep _ _ _ _))
          · cases he
        · cases he
      · cases he
    · cases hc
end
end Go.Proofs.YtefolocdfgelcaaDoor
