/-
  DERIVED. GIVEN WITH THE SEED: THE CARDS: each row of YtedphkkbjpcjeaaDoorRows.lean that lists a variable, with what it lists TIED to the program's text (the seventh form; the later family's looks); each row that meets fmt, with fmt's text TOLD by the authors' own Lean function (tested against real Go, not proved from fmt's source: count such statements apart). THE CARD IS WHAT COUNTS. Prove the row's statement (the work); the ties are given (YtedphkkbjpcjeaaDoorTie.lean); close each card by the builder's one call (the guide's Derived/Test/ToyasCard.lean, 'card_holds'). Laid BY PROGRAM, IN A SANDBOX (cutbox-door.mjs). By AI agents, Wed Nov 11 2026. No macro, syntax, notation, axiom, sorry.
-/
import Derived.Test.YtedphkkbjpcjeaaDoorRows
import GoSem.ClaimSeven
namespace Go.Proofs.YtedphkkbjpcjeaaDoor
namespace Rows

/-- THE TIED CARD OF 'laws.FnExactEliminateAll'. -/
def fnExactEliminateAllCard : Claim7 := { stood := { row := fnExactEliminateAllRow, standIns := [], harness := (true, "f853d7a7d01361f13403e561e496d1b31a60faa2026712d610a3e0ea5d1d19da"), looks := false }, kinds := [], alts := [], laidByText := true, laidKinds := [.data], laidTests := true, laidLooks := .later }
def FnExactEliminateAllCardSaid : Prop := Claim7.holds Tryd.pinned (.plain (OpenSpec.ofChange fnExactEliminateAllSpec)) fnExactEliminateAllCard

/-- THE TIED CARD OF 'laws.FnExactIsLagrangian'. -/
def fnExactIsLagrangianCard : Claim7 := { stood := { row := fnExactIsLagrangianRow, standIns := [], harness := (true, "f853d7a7d01361f13403e561e496d1b31a60faa2026712d610a3e0ea5d1d19da"), looks := false }, kinds := [], alts := [], laidByText := true, laidKinds := [.data], laidTests := true, laidLooks := .later }
def FnExactIsLagrangianCardSaid : Prop := Claim7.holds Tryd.pinned (.plain (OpenSpec.ofChange fnExactIsLagrangianSpec)) fnExactIsLagrangianCard

/-- THE TIED CARD OF 'laws.FnExactIndependentRows'. -/
def fnExactIndependentRowsCard : Claim7 := { stood := { row := fnExactIndependentRowsRow, standIns := [], harness := (true, "f853d7a7d01361f13403e561e496d1b31a60faa2026712d610a3e0ea5d1d19da"), looks := false }, kinds := [], alts := [], laidByText := true, laidKinds := [.data], laidTests := true, laidLooks := .later }
def FnExactIndependentRowsCardSaid : Prop := Claim7.holds Tryd.pinned (.plain (OpenSpec.ofChange fnExactIndependentRowsSpec)) fnExactIndependentRowsCard

/-- THE TIED CARD OF 'laws.FnExactChoiceFunction'. -/
def fnExactChoiceFunctionCard : Claim7 := { stood := { row := fnExactChoiceFunctionRow, standIns := [], harness := (true, "f853d7a7d01361f13403e561e496d1b31a60faa2026712d610a3e0ea5d1d19da"), looks := false }, kinds := [], alts := [], laidByText := true, laidKinds := [.data], laidTests := true, laidLooks := .later }
def FnExactChoiceFunctionCardSaid : Prop := Claim7.holds Tryd.pinned (.plain (OpenSpec.ofChange fnExactChoiceFunctionSpec)) fnExactChoiceFunctionCard

/-- THE SECOND FORM's CARD OF 'laws.FnExactEliminateAll'. -/
def fnExactEliminateAllUptoCard : Claim7 := { stood := { row := fnExactEliminateAllUptoRow, standIns := [], harness := (true, "f853d7a7d01361f13403e561e496d1b31a60faa2026712d610a3e0ea5d1d19da"), looks := false }, kinds := [], alts := [], laidByText := true, laidKinds := [.data], laidTests := true, laidLooks := .later }
def FnExactEliminateAllUptoCardSaid : Prop := Claim7.holds Tryd.pinned (.plain (OpenSpec.upto fnExactEliminateAllSpec)) fnExactEliminateAllUptoCard

/-- THE SECOND FORM's CARD OF 'laws.FnExactIsLagrangian'. -/
def fnExactIsLagrangianUptoCard : Claim7 := { stood := { row := fnExactIsLagrangianUptoRow, standIns := [], harness := (true, "f853d7a7d01361f13403e561e496d1b31a60faa2026712d610a3e0ea5d1d19da"), looks := false }, kinds := [], alts := [], laidByText := true, laidKinds := [.data], laidTests := true, laidLooks := .later }
def FnExactIsLagrangianUptoCardSaid : Prop := Claim7.holds Tryd.pinned (.plain (OpenSpec.upto fnExactIsLagrangianSpec)) fnExactIsLagrangianUptoCard

/-- THE SECOND FORM's CARD OF 'laws.FnExactIndependentRows'. -/
def fnExactIndependentRowsUptoCard : Claim7 := { stood := { row := fnExactIndependentRowsUptoRow, standIns := [], harness := (true, "f853d7a7d01361f13403e561e496d1b31a60faa2026712d610a3e0ea5d1d19da"), looks := false }, kinds := [], alts := [], laidByText := true, laidKinds := [.data], laidTests := true, laidLooks := .later }
def FnExactIndependentRowsUptoCardSaid : Prop := Claim7.holds Tryd.pinned (.plain (OpenSpec.upto fnExactIndependentRowsSpec)) fnExactIndependentRowsUptoCard

/-- THE SECOND FORM's CARD OF 'laws.FnExactChoiceFunction'. -/
def fnExactChoiceFunctionUptoCard : Claim7 := { stood := { row := fnExactChoiceFunctionUptoRow, standIns := [], harness := (true, "f853d7a7d01361f13403e561e496d1b31a60faa2026712d610a3e0ea5d1d19da"), looks := false }, kinds := [], alts := [], laidByText := true, laidKinds := [.data], laidTests := true, laidLooks := .later }
def FnExactChoiceFunctionUptoCardSaid : Prop := Claim7.holds Tryd.pinned (.plain (OpenSpec.upto fnExactChoiceFunctionSpec)) fnExactChoiceFunctionUptoCard
end Rows
end Go.Proofs.YtedphkkbjpcjeaaDoor
