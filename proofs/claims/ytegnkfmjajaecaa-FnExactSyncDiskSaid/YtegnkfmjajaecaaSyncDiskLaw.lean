/- The law FnExactSyncDisk returns true for every input, and leaves its arguments reading as they did; no condition. -/
import Derived.Test.YtegnkfmjajaecaaLawKit
import Derived.Test.YtegnkfmjajaecaaSyncDiskWalk
namespace Go.Proofs.Ytegnkfmjajaecaa.fnExactSyncDisk
open Go.ChangeShapes Go.WideShapes Go.ChangeAt Go.RowKit
open Go.ChangeMaps (open_string shut_string)
set_option linter.unusedVariables false
theorem own : ownKnob Try.prog.godebug = none := by kernel_rfl
theorem laidOut : laidOutB Try.prog = true := by kernel_rfl
theorem readable : ∀ t ∈ Try.f4.params.toList, Try.prog.readableRec t = true ∧ t < Try.prog.types.size := by
  rw [Try.params4]
  intro t ht
  simp only [List.mem_cons, List.not_mem_nil, or_false] at ht
  subst ht; exact ⟨by kernel_rfl, of_decide_eq_true (by kernel_rfl)⟩
theorem readableVars : ∀ n ∈ Rows.fnExactSyncDiskSpec.vars, ∀ g t, Try.prog.globalNamed n = some g → (Try.prog.globals[g]?).map (·.type) = some t → Try.prog.readableRec t = true ∧ t < Try.prog.types.size := by
  intro n hn
  cases hn
set_option maxRecDepth 100000 in
/-- What the walk gives, for all arguments that can be read. -/
theorem contract (H : Type) (enc : TypeId × Value → H) (W : World) (base : Nat) (args : Array Value) (ds gs : List (DataW H)) (before : List MemPlace)
    (hval : ∀ (j : Nat) t v, Try.f4.params[j]? = some t → args[j]? = some v → Value.okWide Try.prog W .any base t v)
    (hW : DataW.Whole enc Try.prog Try.f4.params.toList Rows.fnExactSyncDiskSpec.vars false W args.toList ds gs before) :
    Calls Try.prog 4 args W fun e W' => ∃ v, e = .returned v ∧ Rows.fnExactSyncDiskSpec.post enc Try.prog Try.f4 false true false false W args v W' := by
  have hW' := hW
  obtain ⟨p, q, hA0, hV, rfl, hfz, hnd⟩ := hW
  have hA : DataW.TrodAll enc Try.prog W 0 (fun _ => true) true Try.f4.params.toList args.toList ds p := hA0
  rw [Try.params4] at hA hval
  obtain ⟨v0, vs0, d0, ds0, p0, q0, hargs, rfl, rfl, h0, r0⟩ := trodAll_cons hA
  obtain ⟨rfl, rfl, rfl⟩ := trodAll_nil r0
  obtain rfl : args = #[v0] := by cases args; simp_all
  obtain ⟨rfl, rfl⟩ := trodVars_none hV
  obtain ⟨cs0, x0, l0, rfl, y0, i0⟩ := open_struct (ty := (.pair .str .str)) Try.underlying25 ⟨9, by kernel_rfl⟩ (hval 0 25 v0 rfl rfl) h0
  obtain ⟨dSafe, dOpen⟩ := x0
  obtain ⟨_, _, l_dSafe, l_dSafe_, rfl, ⟨rfl, rfl⟩, ⟨rfl, rfl⟩, rfl⟩ := y0
  obtain ⟨i_dSafe, i_dOpen⟩ := i0
  refine (syncDisk_walk dSafe dOpen W i_dSafe i_dOpen).mono fun e W' ⟨he, hb⟩ => ?_
  subst he
  exact ⟨_, rfl, law_post (tb := 4) laidOut hW' hb rfl (by kernel_rfl) Try.underlying4 readable readableVars⟩
set_option maxRecDepth 100000 in
theorem lifted (os : Os) (started : os.Started) (H : Type) (enc : TypeId × Value → H) :
    ReturnsInHanded {} Try.checked os 4 .any (Rows.fnExactSyncDiskSpec.pre6 enc Try.prog Try.f4 Rows.fnExactSyncDiskRow.domain false) (Rows.fnExactSyncDiskSpec.post enc Try.prog Try.f4 false true false false) := by
  refine returnsInHanded_of_change (C := Try.checked) own started (by kernel_rfl) Try.func4
    (ChangeSpec.witness6 (enc := enc) (C := Try.checked) false ⟨#[], #[.agg #[.string ByteArray.empty, .string ByteArray.empty]], []⟩ 8 (by kernel_rfl) (by kernel_rfl) (by kernel_rfl) (by kernel_rfl)) ?_
  intro W base args ds gs before hval hW _ _
  exact contract H enc W base args ds gs before hval hW
theorem over : Rows.fnExactSyncDiskRow.holds Try.pinned (OpenSpec.ofChange Rows.fnExactSyncDiskSpec) :=
  OpenClaim.holds_of_wide 4 Try.f4 rfl rfl rfl rfl rfl rfl rfl ⟨rfl, rfl, rfl, rfl, rfl⟩ rfl rfl rfl rfl rfl (by kernel_rfl) Try.func4 (by kernel_rfl)
    (of_decide_eq_true (by kernel_rfl)) (by unfold Func.isWrapper; first | (rw [if_pos (by decide +kernel)]; kernel_rfl) | (rw [if_neg (by decide +kernel)]; exact ⟨rfl, rfl⟩))
    (fun os started H enc _ => lifted os started H enc)
/-- The statement. -/
theorem proved : Rows.FnExactSyncDiskSaid := over
end Go.Proofs.Ytegnkfmjajaecaa.fnExactSyncDisk
