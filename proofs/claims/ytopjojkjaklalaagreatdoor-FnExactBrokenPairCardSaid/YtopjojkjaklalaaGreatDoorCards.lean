/-
  DERIVED. GIVEN WITH THE SEED: THE CARDS: each row of YtopjojkjaklalaaGreatDoorRows.lean that lists a variable, with what it lists TIED to the program's text (the seventh form; the later family's looks); each row that meets fmt, with fmt's text TOLD by the authors' own Lean function (tested against real Go, not proved from fmt's source: count such statements apart). THE CARD IS WHAT COUNTS. Prove the row's statement (the work); the ties are given (YtopjojkjaklalaaGreatDoorTie.lean); close each card by the builder's one call (the guide's Derived/Test/ToyasCard.lean, 'card_holds'). Laid BY PROGRAM, IN A SANDBOX (cutbox-door.mjs). By AI agents, Wed Nov 11 2026. No macro, syntax, notation, axiom, sorry.
-/
import Derived.Test.YtopjojkjaklalaaGreatDoorRows
import GoSem.ClaimSeven
namespace Go.Proofs.YtopjojkjaklalaaGreatDoor
namespace Rows

/-- THE TIED CARD OF 'laws.FnExactKeepsPromise'. -/
def fnExactKeepsPromiseCard : Claim7 := { stood := { row := fnExactKeepsPromiseRow, standIns := [], harness := (true, "b5b2891ead2298d697a5d79aebf3380e9aa0fc14f8dc2e132c9b309aa17f3e6f"), looks := true }, kinds := [], alts := [], laidByText := true, laidKinds := [.data, .sentinel], laidTests := true, laidLooks := .later }
def FnExactKeepsPromiseCardSaid : Prop := Claim7.holds Tryz.pinned (.plain (OpenSpec.ofChange fnExactKeepsPromiseSpec)) fnExactKeepsPromiseCard

/-- THE TIED CARD OF 'laws.FnExactBrokenPair'. -/
def fnExactBrokenPairCard : Claim7 := { stood := { row := fnExactBrokenPairRow, standIns := [], harness := (true, "b5b2891ead2298d697a5d79aebf3380e9aa0fc14f8dc2e132c9b309aa17f3e6f"), looks := true }, kinds := [], alts := [], laidByText := true, laidKinds := [.handle, .data], laidTests := true, laidLooks := .later }
def FnExactBrokenPairCardSaid : Prop := Claim7.holds Tryz.pinned (.plain (OpenSpec.ofChange fnExactBrokenPairSpec)) fnExactBrokenPairCard

/-- THE SECOND FORM's CARD OF 'laws.FnExactKeepsPromise'. -/
def fnExactKeepsPromiseUptoCard : Claim7 := { stood := { row := fnExactKeepsPromiseUptoRow, standIns := [], harness := (true, "b5b2891ead2298d697a5d79aebf3380e9aa0fc14f8dc2e132c9b309aa17f3e6f"), looks := true }, kinds := [], alts := [], laidByText := true, laidKinds := [.data, .sentinel], laidTests := true, laidLooks := .later }
def FnExactKeepsPromiseUptoCardSaid : Prop := Claim7.holds Tryz.pinned (.plain (OpenSpec.upto fnExactKeepsPromiseSpec)) fnExactKeepsPromiseUptoCard

/-- THE SECOND FORM's CARD OF 'laws.FnExactBrokenPair'. -/
def fnExactBrokenPairUptoCard : Claim7 := { stood := { row := fnExactBrokenPairUptoRow, standIns := [], harness := (true, "b5b2891ead2298d697a5d79aebf3380e9aa0fc14f8dc2e132c9b309aa17f3e6f"), looks := true }, kinds := [], alts := [], laidByText := true, laidKinds := [.handle, .data], laidTests := true, laidLooks := .later }
def FnExactBrokenPairUptoCardSaid : Prop := Claim7.holds Tryz.pinned (.plain (OpenSpec.upto fnExactBrokenPairSpec)) fnExactBrokenPairUptoCard
end Rows
end Go.Proofs.YtopjojkjaklalaaGreatDoor
