/-
  DERIVED. GIVEN WITH THE SEED: THE CARDS: each row of YtodopnonpadpfaaDoorRows.lean that lists a variable, with what it lists TIED to the program's text (the seventh form; the later family's looks); each row that meets fmt, with fmt's text TOLD by the authors' own Lean function (tested against real Go, not proved from fmt's source: count such statements apart). THE CARD IS WHAT COUNTS. Prove the row's statement (the work); the ties are given (YtodopnonpadpfaaDoorTie.lean); close each card by the builder's one call (the guide's Derived/Test/ToyasCard.lean, 'card_holds'). Laid BY PROGRAM, IN A SANDBOX (cutbox-door.mjs). By AI agents, Wed Nov 11 2026. No macro, syntax, notation, axiom, sorry.
-/
import Derived.Test.YtodopnonpadpfaaDoorRows
import GoSem.ClaimSeven
namespace Go.Proofs.YtodopnonpadpfaaDoor
namespace Rows

/-- THE TIED CARD OF 'laws.FnExactIsComponent'. -/
def fnExactIsComponentCard : Claim7 := { stood := { row := fnExactIsComponentRow, standIns := [], harness := (true, "b7702662615af9b9d0705d9eae85bdcfe241b5b48f94b00aae0a988837569107"), looks := false }, kinds := [], alts := [], laidByText := true, laidKinds := [.data], laidTests := true, laidLooks := .later }
def FnExactIsComponentCardSaid : Prop := Claim7.holds Tryd.pinned (.plain (OpenSpec.ofChange fnExactIsComponentSpec)) fnExactIsComponentCard

/-- THE TIED CARD OF 'laws.FnExactAreComponents'. -/
def fnExactAreComponentsCard : Claim7 := { stood := { row := fnExactAreComponentsRow, standIns := [], harness := (true, "b7702662615af9b9d0705d9eae85bdcfe241b5b48f94b00aae0a988837569107"), looks := false }, kinds := [], alts := [], laidByText := true, laidKinds := [.data], laidTests := true, laidLooks := .later }
def FnExactAreComponentsCardSaid : Prop := Claim7.holds Tryd.pinned (.plain (OpenSpec.ofChange fnExactAreComponentsSpec)) fnExactAreComponentsCard

/-- THE SECOND FORM's CARD OF 'laws.FnExactIsComponent'. -/
def fnExactIsComponentUptoCard : Claim7 := { stood := { row := fnExactIsComponentUptoRow, standIns := [], harness := (true, "b7702662615af9b9d0705d9eae85bdcfe241b5b48f94b00aae0a988837569107"), looks := false }, kinds := [], alts := [], laidByText := true, laidKinds := [.data], laidTests := true, laidLooks := .later }
def FnExactIsComponentUptoCardSaid : Prop := Claim7.holds Tryd.pinned (.plain (OpenSpec.upto fnExactIsComponentSpec)) fnExactIsComponentUptoCard

/-- THE SECOND FORM's CARD OF 'laws.FnExactAreComponents'. -/
def fnExactAreComponentsUptoCard : Claim7 := { stood := { row := fnExactAreComponentsUptoRow, standIns := [], harness := (true, "b7702662615af9b9d0705d9eae85bdcfe241b5b48f94b00aae0a988837569107"), looks := false }, kinds := [], alts := [], laidByText := true, laidKinds := [.data], laidTests := true, laidLooks := .later }
def FnExactAreComponentsUptoCardSaid : Prop := Claim7.holds Tryd.pinned (.plain (OpenSpec.upto fnExactAreComponentsSpec)) fnExactAreComponentsUptoCard
end Rows
end Go.Proofs.YtodopnonpadpfaaDoor
