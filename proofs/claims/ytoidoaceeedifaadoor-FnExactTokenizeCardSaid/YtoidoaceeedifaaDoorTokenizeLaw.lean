/- The law FnExactTokenize returns true for every input, and leaves its arguments and the listed table reading as they did; no condition beyond what the card states of the table. -/
import Derived.Test.YtoidoaceeedifaaDoorZ4
import Derived.Test.YtoidoaceeedifaaDoorCards
import Derived.Test.YtoidoaceeedifaaDoorTie
import Derived.Deep.DeepHandedRow
import Derived.Lib.LaidTab
import Derived.Stop.LaidErr
import Derived.Shelf.Vars
import Derived.Lib.ItoaNum
import Derived.LaidHandle
namespace Go.Proofs.YtoidoaceeedifaaDoor.fnExactTokenize
open Go.ChangeShapes Go.WideShapes Go.ChangeAt Go.RowKit
open Go.ChangeMaps (open_string shut_string)
set_option linter.unusedVariables false
theorem own : ownKnob Tryd.prog.godebug = none := by kernel_rfl
theorem laidOut : laidOutB Tryd.prog = true := by kernel_rfl
theorem readable : ∀ t ∈ Tryd.f3.params.toList, Tryd.prog.readableRec t = true ∧ t < Tryd.prog.types.size := by
  rw [Tryd.params3]
  intro t ht
  simp only [List.mem_cons, List.not_mem_nil, or_false] at ht
  subst ht; exact ⟨by kernel_rfl, of_decide_eq_true (by kernel_rfl)⟩
theorem sentCells : Tryd.prog.cellsOf 101 = 1 := by kernel_rfl
theorem sentStr : Tryd.prog.cellsOf 9 = 1 := by kernel_rfl
theorem sentStar : "*" ++ "errors.errorString" = "*errors.errorString" := by decide
theorem sentRow (u : TypeId) (h : Tryd.prog.typeName? 3 u = some "*errors.errorString") : u = 79 :=
  typeName_ptr_named (nm := "errors.errorString") (by rw [sentStar]; kernel_rfl) (by kernel_rfl) (by decide) u (by rw [sentStar]; exact h)
theorem gerrFault : Tryd.prog.globalNamed "loop.example/g01073/impl.errFault" = some 0 := by kernel_rfl
theorem gerrFaultType : (Tryd.prog.globals[0]?).map (·.type) = some 29 := by kernel_rfl
theorem senterrFault {W : World} (h : laidMetH Tryd.prog Rows.fnExactTokenizeRow.laid W) : ∃ p, W.cell? ⟨0, 0, none⟩ = some (.iface 79 (.pointer (some p))) := by
  obtain ⟨a, _, hv, _⟩ := laid_sentinel (n := "loop.example/g01073/impl.errFault") (nm := "*errors.errorString") (text := [102, 97, 117, 108, 116, 32, 111, 102, 32, 97, 32, 116, 101, 120, 116]) (show laidMet Tryd.prog [("loop.example/g01073/impl.errFault", Rows.laid_loop_example_g01073_impl_errFault)] W from (show laidMet Tryd.prog [("loop.example/g01073/impl.errFault", Rows.laid_loop_example_g01073_impl_errFault)] W ∧ _ from h).1) gerrFault gerrFaultType Tryd.underlying29 sentRow Tryd.underlying79 Tryd.underlying101 rfl rfl Tryd.underlying9 sentCells sentStr
  exact ⟨a, by have h0 := World.var?_cell gerrFault hv 0; simpa using h0⟩
theorem gErrT : Tryd.prog.globalNamed "errors.errorType" = some 1 := by kernel_rfl
theorem cutRt : (Tryd.prog.cutTypes.find? (·.1 == "internal/reflectlite.rtype")).map (·.2) = some 64 := by kernel_rfl
theorem oneRow : ((List.range 113).filter fun t => Tryd.prog.rowNamed t [101, 114, 114, 111, 114]) = [29] := by kernel_rfl
theorem nTypes : Tryd.prog.types.size = 113 := by kernel_rfl
theorem tHandle : typeHandle Tryd.prog 29 = .pointer (some ⟨3, 29, none⟩) := by kernel_rfl
theorem handle {W : World} (h : laidMetH Tryd.prog Rows.fnExactTokenizeRow.laid W) : W.cell? ⟨1, 0, none⟩ = some (.iface 64 (.agg #[.pointer (some ⟨3, 29, none⟩)])) := by
  have h' : laidMet Tryd.prog [("loop.example/g01073/impl.errFault", Rows.laid_loop_example_g01073_impl_errFault)] W ∧ handlesMet Tryd.prog [("errors.errorType", Rows.laid_errors_errorType)] W := h
  obtain ⟨name, u, ty, e1, e2, e3, e4, e5⟩ := h'.2 _ (List.mem_singleton.2 rfl)
  have en : name = [101, 114, 114, 111, 114] := (Option.some.inj e1).symm
  subst en
  obtain rfl := Option.some.inj (cutRt.symm.trans e2)
  have hm : ty ∈ (List.range 113).filter fun t => Tryd.prog.rowNamed t [101, 114, 114, 111, 114] := List.mem_filter.2 ⟨List.mem_range.2 (by rw [← nTypes]; exact e3), e4⟩
  rw [oneRow] at hm
  obtain rfl := List.mem_singleton.1 hm
  rw [tHandle] at e5
  simpa using World.var?_cell gErrT e5 0
theorem readableVars : ∀ n ∈ Rows.fnExactTokenizeSpec.vars, ∀ g t, Tryd.prog.globalNamed n = some g → (Tryd.prog.globals[g]?).map (·.type) = some t → Tryd.prog.readableRec t = true ∧ t < Tryd.prog.types.size := by
  intro n hn g t h1 h2
  obtain rfl : n = "loop.example/g01073/impl.errFault" := by simpa [Rows.fnExactTokenizeSpec] using hn
  obtain rfl : 0 = g := Option.some.inj (gerrFault.symm.trans h1)
  obtain rfl : 29 = t := Option.some.inj (gerrFaultType.symm.trans h2)
  exact ⟨by kernel_rfl, of_decide_eq_true (by kernel_rfl)⟩
set_option maxRecDepth 100000 in
/-- What the walk gives, for all arguments that can be read. -/
theorem contract (H : Type) (enc : TypeId × Value → H) (W : World) (base : Nat) (args : Array Value) (ds gs : List (DataW H)) (before : List MemPlace)
    (hval : ∀ (j : Nat) t v, Tryd.f3.params[j]? = some t → args[j]? = some v → Value.okWide Tryd.prog W .any base t v)
    (hW : DataW.Whole enc Tryd.prog Tryd.f3.params.toList Rows.fnExactTokenizeSpec.vars false W args.toList ds gs before) (hL : laidMetH Tryd.prog Rows.fnExactTokenizeRow.laid W) :
    Calls Tryd.prog 3 args W fun e W' => ∃ v, e = .returned v ∧ Rows.fnExactTokenizeSpec.post enc Tryd.prog Tryd.f3 false true false false W args v W' := by
  have hW' := hW
  obtain ⟨p, q, hA0, hV, rfl, hfz, hnd⟩ := hW
  have hA : DataW.TrodAll enc Tryd.prog W 0 (fun _ => true) true Tryd.f3.params.toList args.toList ds p := hA0
  rw [Tryd.params3] at hA hval
  obtain ⟨v0, vs0, d0, ds0, p0, q0, hargs, rfl, rfl, h0, r0⟩ := trodAll_cons hA
  obtain ⟨rfl, rfl, rfl⟩ := trodAll_nil r0
  obtain rfl : args = #[v0] := by cases args; simp_all
  obtain ⟨g0, t0, cs0, f0, dg, pg, rfl, _⟩ := trodVars_one hV
  obtain ⟨s, rfl, rfl, rfl, i_s⟩ := open_string Tryd.underlying9 (hval 0 9 v0 rfl rfl) h0
  have tab : Tab W := ⟨senterrFault hL, handle hL⟩
  refine (tokenize_walk s W i_s tab).mono fun e W' ⟨he, hb⟩ => ?_
  subst he
  exact ⟨_, rfl, law_post (tb := 4) laidOut hW' hb rfl (by kernel_rfl) Tryd.underlying4 readable readableVars⟩
def fill (h : Array Obj) (g : Nat) (vs : Array Value) : Array Obj := h.modify g fun
  | .cells _ t frozen => .cells vs t frozen
  | o => o
/-- So many blocks has the settled world. -/
noncomputable def low : Nat := (World.holding Tryd.prog default ⟨#[], #[], []⟩).heap.size
/-- A world for the witness: the settled one, the table holding what its initialiser lays. -/
noncomputable def laidWorld (os : Os) : World :=
  { World.holding Tryd.prog os ⟨#[.cells #[.string ⟨#[102, 97, 117, 108, 116, 32, 111, 102, 32, 97, 32, 116, 101, 120, 116]⟩] 101], #[], []⟩ with heap := fill (fill ((World.holding Tryd.prog os ⟨#[.cells #[.string ⟨#[102, 97, 117, 108, 116, 32, 111, 102, 32, 97, 32, 116, 101, 120, 116]⟩] 101], #[], []⟩).heap) 1 #[.iface 64 (.agg #[.pointer (some ⟨3, 29, none⟩)])]) 0 #[.iface 79 (.pointer (some ⟨low + 0, 0, none⟩))] }
theorem laid_met (os : Os) : laidMetH Tryd.prog Rows.fnExactTokenizeRow.laid ((laidWorld os).forCall (fun _ _ => 0) ⟨#[], #[.string ByteArray.empty], []⟩).memory :=
  laidMetH_of_parts (laidMet_of_run' 8 (by kernel_rfl) (by kernel_rfl)) (by kernel_rfl)
theorem reads (os : Os) {H : Type} (enc : TypeId × Value → H) : ∃ places, DataW.whole enc Tryd.prog ((laidWorld os).forCall (fun _ _ => 0) ⟨#[], #[.string ByteArray.empty], []⟩).memory Tryd.f3.params.toList Rows.fnExactTokenizeSpec.vars false (#[.string ByteArray.empty] : Array Value).toList 8 = some ([.lit (.string [])], [.held (enc (79, .pointer (some ⟨low + 0, 0, none⟩)))], places) :=
  ⟨[.cell 0 0], by kernel_rfl⟩
set_option maxRecDepth 100000 in
theorem w_ni : Tryd.checked.prog.inits.idxOf? 3 = none := by kernel_rfl
set_option maxRecDepth 100000 in
theorem w_hv (os : Os) : ((laidWorld os).forCall (fun _ _ => 0) ⟨#[], #[.string ByteArray.empty], []⟩).variablesB Tryd.checked.prog = true := by kernel_rfl
set_option maxRecDepth 100000 in
theorem w_hok (os : Os) : Input.okWideB Tryd.checked.prog ((laidWorld os).forCall (fun _ _ => 0) ⟨#[], #[.string ByteArray.empty], []⟩) 3 ⟨#[], #[.string ByteArray.empty], []⟩ = true := by kernel_rfl
set_option maxRecDepth 100000 in
theorem w_hr (os : Os) : (((laidWorld os).forCall (fun _ _ => 0) ⟨#[], #[.string ByteArray.empty], []⟩).heap.toList.drop Tryd.checked.prog.globals.size).take ((begin Tryd.checked.prog (fun _ _ => 0) default).world.heap.size - Tryd.checked.prog.globals.size) = (begin Tryd.checked.prog (fun _ _ => 0) default).world.heap.toList.drop Tryd.checked.prog.globals.size := by kernel_rfl
set_option maxRecDepth 100000 in
theorem lifted (os : Os) (started : os.Started) (H : Type) (enc : TypeId × Value → H) (F : Stop.Interp) :
    ReturnsInHanded {} Tryd.checked os 3 .any ((OpenSpec.ofChange Rows.fnExactTokenizeSpec).preRow enc Tryd.prog Tryd.f3 Rows.fnExactTokenizeRow.domain false Rows.fnExactTokenizeRow.laid) (((OpenSpec.ofChange Rows.fnExactTokenizeSpec).at F).post enc Tryd.prog Tryd.f3 false true false false) := by
  obtain ⟨places, hx⟩ := reads os enc
  refine returnsInHanded_of_row (C := Tryd.checked) (s := OpenSpec.ofChange Rows.fnExactTokenizeSpec) own started w_ni Tryd.func3
    (witness_row_at (enc := enc) (C := Tryd.checked) false (laidWorld os) #[.string ByteArray.empty] rfl (w_hv os) (w_hr os) (w_hok os)
      (OpenSpec.preRow_of_cond 8 hx (by kernel_rfl) (fun k hk => by cases hk) (by kernel_rfl) (laid_met os))) ?_
  intro W base args ds gs before hval hW _ _ _ hL _ _
  exact contract H enc W base args ds gs before hval hW hL
theorem said : Rows.FnExactTokenizeSaid :=
  OpenClaim.holds_of_cond 3 Tryd.f3 rfl rfl rfl rfl rfl rfl rfl ⟨rfl, rfl, rfl, rfl, rfl⟩ rfl rfl rfl rfl rfl (by kernel_rfl) Tryd.func3 (by kernel_rfl)
    (of_decide_eq_true (by kernel_rfl)) (by unfold Func.isWrapper; first | (rw [if_pos (by decide +kernel)]; kernel_rfl) | (rw [if_neg (by decide +kernel)]; exact ⟨rfl, rfl⟩))
    (fun os started H enc _ F => by rw [OpenClaim.pre_eq_preRow]; exact lifted os started H enc F)
theorem plain (f : FuncId) (fn : Func) (hf : Tryd.pinned.checked.prog.funcNamed "loop.example/g01073/laws.FnExactTokenize" = some f) (hfn : Tryd.pinned.checked.prog.funcs[f]? = some fn) :
    true = Tryd.pinned.checked.prog.looks [] ∧ ∀ (j : Nat) t, fn.params[j]? = some t → Tryd.pinned.checked.prog.wantsStandIn t = false := by
  obtain rfl : f = 3 := Option.some.inj ((show Tryd.prog.funcNamed "loop.example/g01073/laws.FnExactTokenize" = some 3 by kernel_rfl).symm.trans hf) |>.symm
  obtain rfl : fn = Tryd.f3 := (Option.some.inj (Tryd.func3.symm.trans hfn)).symm
  refine ⟨by kernel_rfl, fun j t ht => ?_⟩
  have hm : t ∈ Tryd.f3.params.toList := Array.mem_toList_iff.2 (Array.mem_of_getElem? ht)
  rw [Tryd.params3] at hm
  simp only [List.mem_cons, List.not_mem_nil, or_false] at hm
  subst hm; exact (show Tryd.prog.wantsStandIn 9 = false by kernel_rfl)
/-- The card. -/
theorem card : Rows.FnExactTokenizeCardSaid :=
  Claim7.holds_tied_plain_at .later [] _ _ _ _ said (fun _ h => by cases h) (by kernel_rfl) (fun _ h => by cases h) fnExactTokenize_row_tie rfl ⟨rfl, rfl⟩ (by kernel_rfl) rfl plain (by kernel_rfl)
end Go.Proofs.YtoidoaceeedifaaDoor.fnExactTokenize
