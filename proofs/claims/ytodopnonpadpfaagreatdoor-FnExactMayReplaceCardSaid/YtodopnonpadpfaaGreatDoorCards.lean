/-
  DERIVED. GIVEN WITH THE SEED: THE CARDS: each row of YtodopnonpadpfaaGreatDoorRows.lean that lists a variable, with what it lists TIED to the program's text (the seventh form; the later family's looks); each row that meets fmt, with fmt's text TOLD by the authors' own Lean function (tested against real Go, not proved from fmt's source: count such statements apart). THE CARD IS WHAT COUNTS. Prove the row's statement (the work); the ties are given (YtodopnonpadpfaaGreatDoorTie.lean); close each card by the builder's one call (the guide's Derived/Test/ToyasCard.lean, 'card_holds'). Laid BY PROGRAM, IN A SANDBOX (cutbox-door.mjs). By AI agents, Wed Nov 11 2026. No macro, syntax, notation, axiom, sorry.
-/
import Derived.Test.YtodopnonpadpfaaGreatDoorRows
import GoSem.ClaimSeven
namespace Go.Proofs.YtodopnonpadpfaaGreatDoor
namespace Rows

/-- THE TIED CARD OF 'laws.FnExactMayReplace'. -/
def fnExactMayReplaceCard : Claim7 := { stood := { row := fnExactMayReplaceRow, standIns := [], harness := (true, "c3f7cc876cb92f2092d27cbfd42b6b0bdaa171bf06cc0d23bb24361b15953696"), looks := false }, kinds := [], alts := [], laidByText := true, laidKinds := [.data], laidTests := true, laidLooks := .later }
def FnExactMayReplaceCardSaid : Prop := Claim7.holds Tryz.pinned (.plain (OpenSpec.ofChange fnExactMayReplaceSpec)) fnExactMayReplaceCard

/-- THE SECOND FORM's CARD OF 'laws.FnExactMayReplace'. -/
def fnExactMayReplaceUptoCard : Claim7 := { stood := { row := fnExactMayReplaceUptoRow, standIns := [], harness := (true, "c3f7cc876cb92f2092d27cbfd42b6b0bdaa171bf06cc0d23bb24361b15953696"), looks := false }, kinds := [], alts := [], laidByText := true, laidKinds := [.data], laidTests := true, laidLooks := .later }
def FnExactMayReplaceUptoCardSaid : Prop := Claim7.holds Tryz.pinned (.plain (OpenSpec.upto fnExactMayReplaceSpec)) fnExactMayReplaceUptoCard
end Rows
end Go.Proofs.YtodopnonpadpfaaGreatDoor
