/-
  DERIVED. GIVEN WITH THE SEED: THE CARDS: each row of YtlaebfbpgeegcaaGreatDoorRows.lean that lists a variable, with what it lists TIED to the program's text (the seventh form; the later family's looks); each row that meets fmt, with fmt's text TOLD by the authors' own Lean function (tested against real Go, not proved from fmt's source: count such statements apart). THE CARD IS WHAT COUNTS. Prove the row's statement (the work); the ties are given (YtlaebfbpgeegcaaGreatDoorTie.lean); close each card by the builder's one call (the guide's Derived/Test/ToyasCard.lean, 'card_holds'). Laid BY PROGRAM, IN A SANDBOX (cutbox-door.mjs). By AI agents, Wed Nov 11 2026. No macro, syntax, notation, axiom, sorry.
-/
import Derived.Test.YtlaebfbpgeegcaaGreatDoorRows
import GoSem.ClaimSeven
namespace Go.Proofs.YtlaebfbpgeegcaaGreatDoor
namespace Rows

/-- THE TIED CARD OF 'laws.FnExactReplaceComponent'. -/
def fnExactReplaceComponentCard : Claim7 := { stood := { row := fnExactReplaceComponentRow, standIns := [], harness := (true, "c552445e03f34f30e575549c0955c035d28c6e5c94a98944b5691a6c2f4b03aa"), looks := false }, kinds := [], alts := [], laidByText := true, laidKinds := [.data], laidTests := true, laidLooks := .later }
def FnExactReplaceComponentCardSaid : Prop := Claim7.holds Tryz.pinned (.plain (OpenSpec.ofChange fnExactReplaceComponentSpec)) fnExactReplaceComponentCard

/-- THE SECOND FORM's CARD OF 'laws.FnExactReplaceComponent'. -/
def fnExactReplaceComponentUptoCard : Claim7 := { stood := { row := fnExactReplaceComponentUptoRow, standIns := [], harness := (true, "c552445e03f34f30e575549c0955c035d28c6e5c94a98944b5691a6c2f4b03aa"), looks := false }, kinds := [], alts := [], laidByText := true, laidKinds := [.data], laidTests := true, laidLooks := .later }
def FnExactReplaceComponentUptoCardSaid : Prop := Claim7.holds Tryz.pinned (.plain (OpenSpec.upto fnExactReplaceComponentSpec)) fnExactReplaceComponentUptoCard
end Rows
end Go.Proofs.YtlaebfbpgeegcaaGreatDoor
