/-
  DERIVED. GIVEN WITH THE SEED: THE CARDS: each row of YtbdkmfmhlmnlmaaDoorRows.lean that lists a variable, with what it lists TIED to the program's text (the seventh form; the later family's looks); each row that meets fmt, with fmt's text TOLD by the authors' own Lean function (tested against real Go, not proved from fmt's source: count such statements apart). THE CARD IS WHAT COUNTS. Prove the row's statement (the work); the ties are given (YtbdkmfmhlmnlmaaDoorTie.lean); close each card by the builder's one call (the guide's Derived/Test/ToyasCard.lean, 'card_holds'). Laid BY PROGRAM, IN A SANDBOX (cutbox-door.mjs). By AI agents, Wed Nov 11 2026. No macro, syntax, notation, axiom, sorry.
-/
import Derived.Test.YtbdkmfmhlmnlmaaDoorRows
import GoSem.ClaimSeven
namespace Go.Proofs.YtbdkmfmhlmnlmaaDoor
namespace Rows

/-- THE TIED CARD OF 'laws.FnExactCompileCircuit'. -/
def fnExactCompileCircuitCard : Claim7 := { stood := { row := fnExactCompileCircuitRow, standIns := [], harness := (true, "98db87c600170a0e08e4e98e79a9de906918655d29e2daa35c4ebbb543a09040"), looks := false }, kinds := [], alts := [], laidByText := true, laidKinds := [.data], laidTests := true, laidLooks := .later }
def FnExactCompileCircuitCardSaid : Prop := Claim7.holds Tryd.pinned (.plain (OpenSpec.ofChange fnExactCompileCircuitSpec)) fnExactCompileCircuitCard

/-- THE SECOND FORM's CARD OF 'laws.FnExactCompileCircuit'. -/
def fnExactCompileCircuitUptoCard : Claim7 := { stood := { row := fnExactCompileCircuitUptoRow, standIns := [], harness := (true, "98db87c600170a0e08e4e98e79a9de906918655d29e2daa35c4ebbb543a09040"), looks := false }, kinds := [], alts := [], laidByText := true, laidKinds := [.data], laidTests := true, laidLooks := .later }
def FnExactCompileCircuitUptoCardSaid : Prop := Claim7.holds Tryd.pinned (.plain (OpenSpec.upto fnExactCompileCircuitSpec)) fnExactCompileCircuitUptoCard
end Rows
end Go.Proofs.YtbdkmfmhlmnlmaaDoor
