/- An abstract machine: structs and arrays that are built of parts; the lesser and the greater of two numbers; no condition. -/
import Derived.Test.YtefolocdfgelcaaDoorE11
namespace Go.Proofs.YtefolocdfgelcaaDoor
open Go.RowKit Go.Deep

def oneCells : AV → Option (List AV)
  | .agg cs => some cs
  | c => if c.one then some [c] else none
/-- The parts take the place of as many cells. -/
def buildCells (f : Nat → AV) : List (Nat × Nat × Opd) → List AV → Option (List AV)
  | [], cs => some cs
  | (off, sz, x) :: ps, cs => match oneCells (x.ev f) with
    | some ds => if ds.length = sz ∧ off + sz ≤ cs.length then buildCells f ps (cs.take off ++ (ds ++ cs.drop (off + sz))) else none
    | none => none
def evBuild (f : Nat → AV) (z : List AV) (ps : List (Nat × Nat × Opd)) : Option AV :=
  match buildCells f ps z with
  | some cs => some (.agg cs)
  | none => none
def evMM (f : Nat → AV) (mx : Bool) (x y : Opd) : Option AV :=
  match x.ev f, y.ev f with
  | .int k a, .int k' b => if k = k' then some (.int k (if mx then (if a < b then b else a) else (if b < a then b else a))) else none
  | _, _ => none

def placeOf (P : Program) (t : TypeId) (i : Nat) : Option (Nat × Nat) :=
  match P.underlying t with
  | some (.struct fs) => (fs.toList[i]?).map fun g => (g.offset, P.cellsOf g.type)
  | some (.array _ e) => some (i * P.cellsOf e, P.cellsOf e)
  | _ => none
def placesOK (P : Program) (t : TypeId) : Bool :=
  match P.underlying t with
  | some (.struct fs) => fs.toList.all fun g => (P.info? g.type).isSome
  | some (.array _ e) => (P.info? e).isSome
  | _ => false
def partsOfOps (P : Program) (t : TypeId) : List (Nat × Operand) → Option (List (Nat × Nat × Opd))
  | [] => some []
  | (i, x) :: r => match placeOf P t i, Opd.of x, partsOfOps P t r with
    | some (o, s), some x', some ps => some ((o, s, x') :: ps)
    | _, _, _ => none

section
variable {P : Program} {G : World → Prop} {w0 w w' : World} {ob : Oid → Option Ob} {σ : Oid → Option Loc} {K K' : Nat → Prop} {im : Nat → Prop}

theorem oneCells_rep {c : AV} {ds : List AV} {v : Value} (h : oneCells c = some ds) (hr : AV.Rep σ im w c v) : AV.RepL σ im w ds v.cells.toList := by
  unfold oneCells at h
  split at h
  · obtain rfl := Option.some.inj h
    obtain ⟨vs, e, hl⟩ := hr
    rw [e]; simpa [Value.cells] using hl
  · split at h
    · rename_i h1
      obtain rfl := Option.some.inj h
      have hone := AV.one_rep h1 hr
      have : v.cells.toList = [v] := by cases v <;> first | rfl | cases hone
      rw [this]
      exact ⟨v, [], rfl, hr, rfl⟩
    · cases h
theorem fill_rep {f : Nat → AV} {a : Act} {place : Nat → Option (Nat × Nat)} {t : TypeId} (hp : ∀ i, place i = placeOf P t i) : ∀ {parts : List (Nat × Operand)} {ps : List (Nat × Nat × Opd)} {cs ds : List AV} {cells : Array Value}, partsOfOps P t parts = some ps → buildCells f ps cs = some ds →
    AV.RepL σ im w cs cells.toList → (∀ x ∈ parts.map (·.2), ∀ y, Opd.of x = some y → AV.Rep σ im w (y.ev f) (a.eval x)) → ∃ cells', Instr.fill place cells (parts.map fun (i, x) => (i, a.eval x)) = some cells' ∧ AV.RepL σ im w ds cells'.toList
  | [], ps, cs, ds, cells, h, hb, hr, _ => by
    obtain rfl : [] = ps := Option.some.inj h
    obtain rfl : cs = ds := Option.some.inj hb
    exact ⟨cells, rfl, hr⟩
  | (i, x) :: parts, ps, cs, ds, cells, h, hb, hr, hf => by
    simp only [partsOfOps] at h
    split at h
    · rename_i o s x' ps' h1 h2 h3
      obtain rfl := Option.some.inj h
      simp only [buildCells] at hb
      split at hb
      · rename_i es hes
        split at hb
        · rename_i hc
          have hv := oneCells_rep hes (hf x (by simp) x' h2)
          have hsz : (a.eval x).cells.size = s := by rw [← Array.length_toList, hv.length, hc.1]
          have hcl : cs.length = cells.size := by rw [← hr.length]; simp
          have hfs := fold_set_get o (a.eval x).cells.toList 0 cells (by rw [Array.length_toList]; omega)
          rw [← Array.toList_zipIdx, Array.foldl_toList] at hfs
          obtain ⟨g1, g2⟩ := hfs
          have hnew : ((a.eval x).cells.zipIdx.foldl (fun (cs : Array Value) (p : Value × Nat) => cs.setIfInBounds (o + p.2) p.1) cells).toList = cells.toList.take o ++ ((a.eval x).cells.toList ++ cells.toList.drop (o + s)) := by
            apply List.ext_getElem?
            intro j
            rw [Array.getElem?_toList, g2 j, Array.length_toList, hsz]
            simp only [List.getElem?_append, List.length_take, Array.length_toList, List.getElem?_take, List.getElem?_drop, hsz, Array.getElem?_toList, Nat.add_zero]
            repeat' split
            all_goals first | rfl | (exfalso; omega) | (congr 1; omega)
          obtain ⟨cells', q1, q2⟩ := fill_rep hp (cells := (a.eval x).cells.zipIdx.foldl (fun (cs : Array Value) (p : Value × Nat) => cs.setIfInBounds (o + p.2) p.1) cells) h3 hb (by rw [hnew]; exact (hr.take o).append (hv.append (hr.drop _))) (fun z hz => hf z (by simp at hz ⊢; exact .inr hz))
          refine ⟨cells', ?_, q2⟩
          simp only [List.map_cons, Instr.fill, hp, h1]
          rw [if_neg (by simp [hsz]; omega)]
          exact q1
        · cases hb
      · cases hb
    · cases h

theorem evBuild_does {o : Oper} {a : Act} {f : Nat → AV} {v : AV} {t : TypeId} {parts : Array (Nat × Operand)} {ps : List (Nat × Nat × Opd)} {inf : TypeInfo} {z : Value} (ho : o.op = .build t parts) (hi0 : P.info? t = some inf) (hz : inf.zero = some z) (hok : placesOK P t = true) (hps : partsOfOps P t parts.toList = some ps)
    (he : evBuild f (z.cells.toList.map AV.of1) ps = some v) (hm : Mem0 G w0 ob σ K w) (hK : ∀ n, K n → K' n)
    (hf : ∀ x ∈ o.op.operands, ∀ y, Opd.of x = some y → AV.Rep σ (imm ob σ) w (y.ev f) (a.eval x)) : Oper.does P o a w (Goes G w0 ob K' σ (imm ob σ) w v) := by
  have hops : o.op.operands = (parts.toList.map (·.2)).toArray := by rw [ho]; rfl
  have hf' : ∀ x ∈ parts.toList.map (·.2), ∀ y, Opd.of x = some y → AV.Rep σ (imm ob σ) w (y.ev f) (a.eval x) := fun x hx => hf x (by rw [hops]; simpa using hx)
  unfold evBuild at he
  split at he
  · rename_i cs hcs
    obtain rfl := Option.some.inj he
    have hzr : AV.RepL σ (imm ob σ) w (z.cells.toList.map AV.of1) z.cells.toList := AV.of1_repL _
    have hzv : (zeroValue t).run P w = .ok z w := by simp [zeroValue, typeInfo, hi0, hz]
    unfold placesOK at hok
    split at hok
    · rename_i fs hu
      have hmap : (fs.mapM fun g : Field => Prod.mk g.offset <$> sizeOf g.type : Sem (Array (Nat × Nat))).run P w = .ok (fs.map fun g => (g.offset, P.cellsOf g.type)) w := by
        rw [Array.mapM_eq_mapM_toList]
        have key : ∀ l : List Field, l.all (fun g => (P.info? g.type).isSome) = true → (l.mapM fun g : Field => Prod.mk g.offset <$> sizeOf g.type : Sem (List (Nat × Nat))).run P w = .ok (l.map fun g => (g.offset, P.cellsOf g.type)) w := by
          intro l
          induction l with
          | nil => intro _; rfl
          | cons g l ih =>
            intro h
            rw [List.all_cons, Bool.and_eq_true] at h
            obtain ⟨i, hi⟩ := Option.isSome_iff_exists.1 h.1
            have hc : P.cellsOf g.type = i.size := by simp [Program.cellsOf, hi]
            have hh : (Prod.mk g.offset <$> sizeOf g.type : Sem (Nat × Nat)).run P w = .ok (g.offset, P.cellsOf g.type) w := by
              simp [sizeOf, typeInfo, hi, hc]
            rw [List.mapM_cons, Sem.run_bind, hh]
            simp only [Result.andThen_ok, Sem.run_bind, ih h.2, Sem.run_pure, List.map_cons]
        rw [Sem.run_map, key _ hok]
        simp only [Result.andThen_ok]
        congr 1
        apply Array.ext'
        simp
      obtain ⟨cells', q1, q2⟩ := fill_rep (P := P) (place := ((fs.map fun g => (g.offset, P.cellsOf g.type))[·]?)) (t := t) (fun i => by simp [placeOf, hu]) hps hcs hzr hf'
      refine Oper.does_value (v := .agg cells') ?_ (Goes.same hm hK ⟨cells'.toList, by simp, q2⟩)
      have q1' : Instr.fill (fun x => (fs.map fun g => (g.offset, P.cellsOf g.type))[x]?) z.cells (List.map (fun x => (x.1, a.eval x.2)) parts.toList) = some cells' := q1
      simp [execOp, ho, Instr.build, hzv, run_underlying hu]
      rw [hmap]
      simp only [Result.andThen_ok]
      rw [q1']
      rfl
    · rename_i n e hu
      obtain ⟨i, hi⟩ := Option.isSome_iff_exists.1 hok
      have hc : P.cellsOf e = i.size := by simp [Program.cellsOf, hi]
      obtain ⟨cells', q1, q2⟩ := fill_rep (P := P) (place := fun j => some (j * i.size, i.size)) (t := t) (fun j => by simp [placeOf, hu, hc]) hps hcs hzr hf'
      refine Oper.does_value (v := .agg cells') ?_ (Goes.same hm hK ⟨cells'.toList, by simp, q2⟩)
      have q1' : Instr.fill (fun j => some (j * i.size, i.size)) z.cells (List.map (fun x => (x.1, a.eval x.2)) parts.toList) = some cells' := q1
      simp [execOp, ho, Instr.build, hzv, run_underlying hu, sizeOf, typeInfo, hi]
      rw [q1']
      rfl
    · cases hok
  · cases he

theorem evMM_does {o : Oper} {a : Act} {f : Nat → AV} {v : AV} {mx : Bool} {x y : Operand} {x' y' : Opd} {c : Call} (ho : o.op = .call c) (hcb : c.callee = .builtin (if mx then .max else .min)) (hca : c.args = #[x, y]) (h2 : Opd.of x = some x') (h3 : Opd.of y = some y')
    (he : evMM f mx x' y' = some v) (hm : Mem0 G w0 ob σ K w) (hK : ∀ n, K n → K' n)
    (hf : ∀ x ∈ o.op.operands, ∀ y, Opd.of x = some y → AV.Rep σ (imm ob σ) w (y.ev f) (a.eval x)) : Oper.does P o a w (Goes G w0 ob K' σ (imm ob σ) w v) := by
  have r1 := hf x (by simp [ho, Op.operands, Call.operands, hca]) x' h2
  have r2 := hf y (by simp [ho, Op.operands, Call.operands, hca]) y' h3
  unfold evMM at he
  split at he
  · rename_i k m k' n hx hy
    rw [hx] at r1
    rw [hy] at r2
    have e1 : a.eval x = .int k m := r1
    have e2 : a.eval y = .int k' n := r2
    split at he
    · rename_i hk
      subst hk
      obtain rfl := Option.some.inj he
      cases mx
      · refine Oper.does_value (v := .int k (if n < m then n else m)) ?_ (Goes.same hm hK rfl)
        simp [execOp, ho, resolve, hcb, hca, invoke, builtin, Builtin.min_, Builtin.min2, e1, e2]
      · refine Oper.does_value (v := .int k (if m < n then n else m)) ?_ (Goes.same hm hK rfl)
        simp [execOp, ho, resolve, hcb, hca, invoke, builtin, Builtin.max_, Builtin.max2, e1, e2]
    · cases he
  · cases he
end
end Go.Proofs.YtefolocdfgelcaaDoor
