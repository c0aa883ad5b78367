/- The law FnExactMirrorGraph returns true for every input, and leaves its arguments reading as they did; no condition. -/
import Derived.Test.YtdjehfcigdkgjaaZ6
namespace Go.Proofs.Ytdjehfcigdkgjaa.fnExactMirrorGraph
open Go.ChangeShapes Go.WideShapes Go.ChangeAt Go.RowKit
open Go.ChangeMaps (open_string shut_string)
set_option linter.unusedVariables false
theorem own : ownKnob Try.prog.godebug = none := by kernel_rfl
theorem laidOut : laidOutB Try.prog = true := by kernel_rfl
theorem readable : ∀ t ∈ Try.f3.params.toList, Try.prog.readableRec t = true ∧ t < Try.prog.types.size := by
  rw [Try.params3]
  intro t ht
  simp only [List.mem_cons, List.not_mem_nil, or_false] at ht
  subst ht; exact ⟨by kernel_rfl, of_decide_eq_true (by kernel_rfl)⟩
theorem readableVars : ∀ n ∈ Rows.fnExactMirrorGraphSpec.vars, ∀ g t, Try.prog.globalNamed n = some g → (Try.prog.globals[g]?).map (·.type) = some t → Try.prog.readableRec t = true ∧ t < Try.prog.types.size := by
  intro n hn
  cases hn
set_option maxRecDepth 100000 in
/-- What the walk gives, for all arguments that can be read. -/
theorem contract (H : Type) (enc : TypeId × Value → H) (W : World) (base : Nat) (args : Array Value) (ds gs : List (DataW H)) (before : List MemPlace)
    (hval : ∀ (j : Nat) t v, Try.f3.params[j]? = some t → args[j]? = some v → Value.okWide Try.prog W .any base t v)
    (hW : DataW.Whole enc Try.prog Try.f3.params.toList Rows.fnExactMirrorGraphSpec.vars false W args.toList ds gs before) :
    Calls Try.prog 3 args W fun e W' => ∃ v, e = .returned v ∧ Rows.fnExactMirrorGraphSpec.post enc Try.prog Try.f3 false true false false W args v W' := by
  have hW' := hW
  obtain ⟨p, q, hA0, hV, rfl, hfz, hnd⟩ := hW
  have hA : DataW.TrodAll enc Try.prog W 0 (fun _ => true) true Try.f3.params.toList args.toList ds p := hA0
  rw [Try.params3] at hA hval
  obtain ⟨v0, vs0, d0, ds0, p0, q0, hargs, rfl, rfl, h0, r0⟩ := trodAll_cons hA
  obtain ⟨rfl, rfl, rfl⟩ := trodAll_nil r0
  obtain rfl : args = #[v0] := by cases args; simp_all
  obtain ⟨rfl, rfl⟩ := trodVars_none hV
  obtain ⟨cs0, x0, l0, rfl, y0, i0⟩ := open_struct (ty := (.pair .int (.pair (.slice (.pair .int (.pair .int (.pair (.slice .int) (.slice .int))))) (.pair (.slice .int) (.slice .int))))) Try.underlying25 ⟨9, by kernel_rfl⟩ (hval 0 25 v0 rfl rfl) h0
  obtain ⟨gWires, gEdges, gIn, gOut⟩ := x0
  obtain ⟨_, _, l_gWires, l_gWires_, rfl, ⟨rfl, rfl⟩, ⟨_, _, l_gEdges, l_gEdges_, rfl, ⟨A_gEdges, c_gEdges, rfl, s_gEdges⟩, ⟨_, _, l_gIn, l_gOut, rfl, ⟨A_gIn, c_gIn, rfl, s_gIn⟩, ⟨A_gOut, c_gOut, rfl, s_gOut⟩, rfl⟩, rfl⟩, rfl⟩ := y0
  obtain ⟨i_gWires, i_gEdges, i_gIn, i_gOut⟩ := i0
  refine (mirrorGraph_walk gWires gEdges A_gEdges c_gEdges _ gIn A_gIn c_gIn _ gOut A_gOut c_gOut _ W i_gWires s_gEdges i_gEdges s_gIn i_gIn s_gOut i_gOut trivial).mono fun e W' ⟨he, hb⟩ => ?_
  subst he
  exact ⟨_, rfl, law_post (tb := 4) laidOut hW' hb rfl (by kernel_rfl) Try.underlying4 readable readableVars⟩
set_option maxRecDepth 100000 in
theorem lifted (os : Os) (started : os.Started) (H : Type) (enc : TypeId × Value → H) :
    ReturnsInHanded {} Try.checked os 3 .any (Rows.fnExactMirrorGraphSpec.pre6 enc Try.prog Try.f3 Rows.fnExactMirrorGraphRow.domain false) (Rows.fnExactMirrorGraphSpec.post enc Try.prog Try.f3 false true false false) := by
  refine returnsInHanded_of_change (C := Try.checked) own started (by kernel_rfl) Try.func3
    (ChangeSpec.witness6 (enc := enc) (C := Try.checked) false ⟨#[], #[.agg #[.int .i64 0, .slice none 0 0, .slice none 0 0, .slice none 0 0]], []⟩ 8 (by kernel_rfl) (by kernel_rfl) (by kernel_rfl) (by kernel_rfl)) ?_
  intro W base args ds gs before hval hW _ _
  exact contract H enc W base args ds gs before hval hW
theorem over : Rows.fnExactMirrorGraphRow.holds Try.pinned (OpenSpec.ofChange Rows.fnExactMirrorGraphSpec) :=
  OpenClaim.holds_of_wide 3 Try.f3 rfl rfl rfl rfl rfl rfl rfl ⟨rfl, rfl, rfl, rfl, rfl⟩ rfl rfl rfl rfl rfl (by kernel_rfl) Try.func3 (by kernel_rfl)
    (of_decide_eq_true (by kernel_rfl)) (by unfold Func.isWrapper; first | (rw [if_pos (by decide +kernel)]; kernel_rfl) | (rw [if_neg (by decide +kernel)]; exact ⟨rfl, rfl⟩))
    (fun os started H enc _ => lifted os started H enc)
/-- The statement. -/
theorem proved : Rows.FnExactMirrorGraphSaid := over
end Go.Proofs.Ytdjehfcigdkgjaa.fnExactMirrorGraph
