/-
  DERIVED. GIVEN WITH THE SEED: THE CARDS: each row of YtpnofkjgeokdhaaDoorRows.lean that lists a variable, with what it lists TIED to the program's text (the seventh form; the later family's looks); each row that meets fmt, with fmt's text TOLD by the authors' own Lean function (tested against real Go, not proved from fmt's source: count such statements apart). THE CARD IS WHAT COUNTS. Prove the row's statement (the work); the ties are given (YtpnofkjgeokdhaaDoorTie.lean); close each card by the builder's one call (the guide's Derived/Test/ToyasCard.lean, 'card_holds'). Laid BY PROGRAM, IN A SANDBOX (cutbox-door.mjs). By AI agents, Wed Nov 11 2026. No macro, syntax, notation, axiom, sorry.
-/
import Derived.Test.YtpnofkjgeokdhaaDoorRows
import GoSem.ClaimSeven
namespace Go.Proofs.YtpnofkjgeokdhaaDoor
namespace Rows

/-- THE TIED CARD OF 'laws.FnExactMinimalDimension'. -/
def fnExactMinimalDimensionCard : Claim7 := { stood := { row := fnExactMinimalDimensionRow, standIns := [], harness := (true, "451a37623a98ddbc621b580ccbf584e5913fc7fb3eda407b162a547b6096c118"), looks := false }, kinds := [], alts := [], laidByText := true, laidKinds := [.data], laidTests := true, laidLooks := .later }
def FnExactMinimalDimensionCardSaid : Prop := Claim7.holds Tryd.pinned (.plain (OpenSpec.ofChange fnExactMinimalDimensionSpec)) fnExactMinimalDimensionCard

/-- THE SECOND FORM's CARD OF 'laws.FnExactMinimalDimension'. -/
def fnExactMinimalDimensionUptoCard : Claim7 := { stood := { row := fnExactMinimalDimensionUptoRow, standIns := [], harness := (true, "451a37623a98ddbc621b580ccbf584e5913fc7fb3eda407b162a547b6096c118"), looks := false }, kinds := [], alts := [], laidByText := true, laidKinds := [.data], laidTests := true, laidLooks := .later }
def FnExactMinimalDimensionUptoCardSaid : Prop := Claim7.holds Tryd.pinned (.plain (OpenSpec.upto fnExactMinimalDimensionSpec)) fnExactMinimalDimensionUptoCard
end Rows
end Go.Proofs.YtpnofkjgeokdhaaDoor
