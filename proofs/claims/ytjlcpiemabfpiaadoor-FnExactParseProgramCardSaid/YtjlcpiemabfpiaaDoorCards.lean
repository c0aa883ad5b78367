/-
  DERIVED. GIVEN WITH THE SEED: THE CARDS: each row of YtjlcpiemabfpiaaDoorRows.lean that lists a variable, with what it lists TIED to the program's text (the seventh form; the later family's looks); each row that meets fmt, with fmt's text TOLD by the authors' own Lean function (tested against real Go, not proved from fmt's source: count such statements apart). THE CARD IS WHAT COUNTS. Prove the row's statement (the work); the ties are given (YtjlcpiemabfpiaaDoorTie.lean); close each card by the builder's one call (the guide's Derived/Test/ToyasCard.lean, 'card_holds'). Laid BY PROGRAM, IN A SANDBOX (cutbox-door.mjs). By AI agents, Wed Nov 11 2026. No macro, syntax, notation, axiom, sorry.
-/
import Derived.Test.YtjlcpiemabfpiaaDoorRows
import GoSem.ClaimSeven
namespace Go.Proofs.YtjlcpiemabfpiaaDoor
namespace Rows

/-- THE TIED CARD OF 'laws.FnExactParseProgram'. -/
def fnExactParseProgramCard : Claim7 := { stood := { row := fnExactParseProgramRow, standIns := [], harness := (true, "81f2c8d64dcbcfbfe2bca25a81271578d752edc14d72dc22baf5d78884b941ef"), looks := true }, kinds := [], alts := [], laidByText := true, laidKinds := [.data, .data, .data, .data, .sentinel, .sentinel, .data, .pinned], laidTests := true, laidLooks := .later }
def FnExactParseProgramCardSaid : Prop := Claim7.holds Tryd.pinned (.plain (OpenSpec.ofChange fnExactParseProgramSpec)) fnExactParseProgramCard

/-- THE SECOND FORM's CARD OF 'laws.FnExactParseProgram'. -/
def fnExactParseProgramUptoCard : Claim7 := { stood := { row := fnExactParseProgramUptoRow, standIns := [], harness := (true, "81f2c8d64dcbcfbfe2bca25a81271578d752edc14d72dc22baf5d78884b941ef"), looks := true }, kinds := [], alts := [], laidByText := true, laidKinds := [.data, .data, .data, .data, .sentinel, .sentinel, .data, .pinned], laidTests := true, laidLooks := .later }
def FnExactParseProgramUptoCardSaid : Prop := Claim7.holds Tryd.pinned (.plain (OpenSpec.upto fnExactParseProgramSpec)) fnExactParseProgramUptoCard
end Rows
end Go.Proofs.YtjlcpiemabfpiaaDoor
