/-
  DERIVED. GIVEN WITH THE SEED: THE CARDS: each row of YtehocbbnjfmgaaaDoorRows.lean that lists a variable, with what it lists TIED to the program's text (the seventh form; the later family's looks); each row that meets fmt, with fmt's text TOLD by the authors' own Lean function (tested against real Go, not proved from fmt's source: count such statements apart). THE CARD IS WHAT COUNTS. Prove the row's statement (the work); the ties are given (YtehocbbnjfmgaaaDoorTie.lean); close each card by the builder's one call (the guide's Derived/Test/ToyasCard.lean, 'card_holds'). Laid BY PROGRAM, IN A SANDBOX (cutbox-door.mjs). By AI agents, Wed Nov 11 2026. No macro, syntax, notation, axiom, sorry.
-/
import Derived.Test.YtehocbbnjfmgaaaDoorRows
import GoSem.ClaimSeven
namespace Go.Proofs.YtehocbbnjfmgaaaDoor
namespace Rows

/-- THE TIED CARD OF 'laws.FnExactEliminateAll'. -/
def fnExactEliminateAllCard : Claim7 := { stood := { row := fnExactEliminateAllRow, standIns := [], harness := (true, "dc18277eb33a6b68fed5e021659cc14225d5af498f1da2afbfb135ed2fdb235c"), looks := false }, kinds := [], alts := [], laidByText := true, laidKinds := [.data], laidTests := true, laidLooks := .later }
def FnExactEliminateAllCardSaid : Prop := Claim7.holds Tryd.pinned (.plain (OpenSpec.ofChange fnExactEliminateAllSpec)) fnExactEliminateAllCard

/-- THE TIED CARD OF 'laws.FnExactIndependentRows'. -/
def fnExactIndependentRowsCard : Claim7 := { stood := { row := fnExactIndependentRowsRow, standIns := [], harness := (true, "dc18277eb33a6b68fed5e021659cc14225d5af498f1da2afbfb135ed2fdb235c"), looks := false }, kinds := [], alts := [], laidByText := true, laidKinds := [.data], laidTests := true, laidLooks := .later }
def FnExactIndependentRowsCardSaid : Prop := Claim7.holds Tryd.pinned (.plain (OpenSpec.ofChange fnExactIndependentRowsSpec)) fnExactIndependentRowsCard

/-- THE SECOND FORM's CARD OF 'laws.FnExactEliminateAll'. -/
def fnExactEliminateAllUptoCard : Claim7 := { stood := { row := fnExactEliminateAllUptoRow, standIns := [], harness := (true, "dc18277eb33a6b68fed5e021659cc14225d5af498f1da2afbfb135ed2fdb235c"), looks := false }, kinds := [], alts := [], laidByText := true, laidKinds := [.data], laidTests := true, laidLooks := .later }
def FnExactEliminateAllUptoCardSaid : Prop := Claim7.holds Tryd.pinned (.plain (OpenSpec.upto fnExactEliminateAllSpec)) fnExactEliminateAllUptoCard

/-- THE SECOND FORM's CARD OF 'laws.FnExactIndependentRows'. -/
def fnExactIndependentRowsUptoCard : Claim7 := { stood := { row := fnExactIndependentRowsUptoRow, standIns := [], harness := (true, "dc18277eb33a6b68fed5e021659cc14225d5af498f1da2afbfb135ed2fdb235c"), looks := false }, kinds := [], alts := [], laidByText := true, laidKinds := [.data], laidTests := true, laidLooks := .later }
def FnExactIndependentRowsUptoCardSaid : Prop := Claim7.holds Tryd.pinned (.plain (OpenSpec.upto fnExactIndependentRowsSpec)) fnExactIndependentRowsUptoCard
end Rows
end Go.Proofs.YtehocbbnjfmgaaaDoor
