/-
  DERIVED. GIVEN WITH THE SEED: THE CARDS: each row of YtoidoaceeedifaaDoorRows.lean that lists a variable, with what it lists TIED to the program's text (the seventh form; the later family's looks); each row that meets fmt, with fmt's text TOLD by the authors' own Lean function (tested against real Go, not proved from fmt's source: count such statements apart). THE CARD IS WHAT COUNTS. Prove the row's statement (the work); the ties are given (YtoidoaceeedifaaDoorTie.lean); close each card by the builder's one call (the guide's Derived/Test/ToyasCard.lean, 'card_holds'). Laid BY PROGRAM, IN A SANDBOX (cutbox-door.mjs). By AI agents, Wed Nov 11 2026. No macro, syntax, notation, axiom, sorry.
-/
import Derived.Test.YtoidoaceeedifaaDoorRows
import GoSem.ClaimSeven
namespace Go.Proofs.YtoidoaceeedifaaDoor
namespace Rows

/-- THE TIED CARD OF 'laws.FnExactTokenize'. -/
def fnExactTokenizeCard : Claim7 := { stood := { row := fnExactTokenizeRow, standIns := [], harness := (true, "0eab352ccded795ba5f9e4e42f80f93bcd3d384a891205eb29a387deac1fb1c7"), looks := true }, kinds := [], alts := [], laidByText := true, laidKinds := [.handle, .sentinel], laidTests := true, laidLooks := .later }
def FnExactTokenizeCardSaid : Prop := Claim7.holds Tryd.pinned (.plain (OpenSpec.ofChange fnExactTokenizeSpec)) fnExactTokenizeCard

/-- THE SECOND FORM's CARD OF 'laws.FnExactTokenize'. -/
def fnExactTokenizeUptoCard : Claim7 := { stood := { row := fnExactTokenizeUptoRow, standIns := [], harness := (true, "0eab352ccded795ba5f9e4e42f80f93bcd3d384a891205eb29a387deac1fb1c7"), looks := true }, kinds := [], alts := [], laidByText := true, laidKinds := [.handle, .sentinel], laidTests := true, laidLooks := .later }
def FnExactTokenizeUptoCardSaid : Prop := Claim7.holds Tryd.pinned (.plain (OpenSpec.upto fnExactTokenizeSpec)) fnExactTokenizeUptoCard
end Rows
end Go.Proofs.YtoidoaceeedifaaDoor
