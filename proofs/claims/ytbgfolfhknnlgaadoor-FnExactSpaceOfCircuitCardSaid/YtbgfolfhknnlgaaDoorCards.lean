/-
  DERIVED. GIVEN WITH THE SEED: THE CARDS: each row of YtbgfolfhknnlgaaDoorRows.lean that lists a variable, with what it lists TIED to the program's text (the seventh form; the later family's looks); each row that meets fmt, with fmt's text TOLD by the authors' own Lean function (tested against real Go, not proved from fmt's source: count such statements apart). THE CARD IS WHAT COUNTS. Prove the row's statement (the work); the ties are given (YtbgfolfhknnlgaaDoorTie.lean); close each card by the builder's one call (the guide's Derived/Test/ToyasCard.lean, 'card_holds'). Laid BY PROGRAM, IN A SANDBOX (cutbox-door.mjs). By AI agents, Wed Nov 11 2026. No macro, syntax, notation, axiom, sorry.
-/
import Derived.Test.YtbgfolfhknnlgaaDoorRows
import GoSem.ClaimSeven
namespace Go.Proofs.YtbgfolfhknnlgaaDoor
namespace Rows

/-- THE TIED CARD OF 'laws.FnExactSpaceOfCircuit'. -/
def fnExactSpaceOfCircuitCard : Claim7 := { stood := { row := fnExactSpaceOfCircuitRow, standIns := [], harness := (true, "da38474fdf867f2b517f867a9366b3dc978065c2e4fd2c87229144a86d0ffc03"), looks := false }, kinds := [], alts := [], laidByText := true, laidKinds := [.data], laidTests := true, laidLooks := .later }
def FnExactSpaceOfCircuitCardSaid : Prop := Claim7.holds Tryd.pinned (.plain (OpenSpec.ofChange fnExactSpaceOfCircuitSpec)) fnExactSpaceOfCircuitCard

/-- THE SECOND FORM's CARD OF 'laws.FnExactSpaceOfCircuit'. -/
def fnExactSpaceOfCircuitUptoCard : Claim7 := { stood := { row := fnExactSpaceOfCircuitUptoRow, standIns := [], harness := (true, "da38474fdf867f2b517f867a9366b3dc978065c2e4fd2c87229144a86d0ffc03"), looks := false }, kinds := [], alts := [], laidByText := true, laidKinds := [.data], laidTests := true, laidLooks := .later }
def FnExactSpaceOfCircuitUptoCardSaid : Prop := Claim7.holds Tryd.pinned (.plain (OpenSpec.upto fnExactSpaceOfCircuitSpec)) fnExactSpaceOfCircuitUptoCard
end Rows
end Go.Proofs.YtbgfolfhknnlgaaDoor
