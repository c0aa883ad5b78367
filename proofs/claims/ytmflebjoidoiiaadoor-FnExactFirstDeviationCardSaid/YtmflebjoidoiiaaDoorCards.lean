/-
  DERIVED. GIVEN WITH THE SEED: THE CARDS: each row of YtmflebjoidoiiaaDoorRows.lean that lists a variable, with what it lists TIED to the program's text (the seventh form; the later family's looks); each row that meets fmt, with fmt's text TOLD by the authors' own Lean function (tested against real Go, not proved from fmt's source: count such statements apart). THE CARD IS WHAT COUNTS. Prove the row's statement (the work); the ties are given (YtmflebjoidoiiaaDoorTie.lean); close each card by the builder's one call (the guide's Derived/Test/ToyasCard.lean, 'card_holds'). Laid BY PROGRAM, IN A SANDBOX (cutbox-door.mjs). By AI agents, Wed Nov 11 2026. No macro, syntax, notation, axiom, sorry.
-/
import Derived.Test.YtmflebjoidoiiaaDoorRows
import GoSem.ClaimSeven
namespace Go.Proofs.YtmflebjoidoiiaaDoor
namespace Rows

/-- THE TIED CARD OF 'laws.FnExactFirstDeviation'. -/
def fnExactFirstDeviationCard : Claim7 := { stood := { row := fnExactFirstDeviationRow, standIns := [], harness := (true, "87f8c101706827a44e5266e0525a0e0e212c29c1b9a467511b8c2798259a75f9"), looks := false }, kinds := [], alts := [], laidByText := true, laidKinds := [.data], laidTests := true, laidLooks := .later }
def FnExactFirstDeviationCardSaid : Prop := Claim7.holds Tryd.pinned (.plain (OpenSpec.ofChange fnExactFirstDeviationSpec)) fnExactFirstDeviationCard

/-- THE TIED CARD OF 'laws.FnExactSameCircuits'. -/
def fnExactSameCircuitsCard : Claim7 := { stood := { row := fnExactSameCircuitsRow, standIns := [], harness := (true, "87f8c101706827a44e5266e0525a0e0e212c29c1b9a467511b8c2798259a75f9"), looks := false }, kinds := [], alts := [], laidByText := true, laidKinds := [.data], laidTests := true, laidLooks := .later }
def FnExactSameCircuitsCardSaid : Prop := Claim7.holds Tryd.pinned (.plain (OpenSpec.ofChange fnExactSameCircuitsSpec)) fnExactSameCircuitsCard

/-- THE SECOND FORM's CARD OF 'laws.FnExactFirstDeviation'. -/
def fnExactFirstDeviationUptoCard : Claim7 := { stood := { row := fnExactFirstDeviationUptoRow, standIns := [], harness := (true, "87f8c101706827a44e5266e0525a0e0e212c29c1b9a467511b8c2798259a75f9"), looks := false }, kinds := [], alts := [], laidByText := true, laidKinds := [.data], laidTests := true, laidLooks := .later }
def FnExactFirstDeviationUptoCardSaid : Prop := Claim7.holds Tryd.pinned (.plain (OpenSpec.upto fnExactFirstDeviationSpec)) fnExactFirstDeviationUptoCard

/-- THE SECOND FORM's CARD OF 'laws.FnExactSameCircuits'. -/
def fnExactSameCircuitsUptoCard : Claim7 := { stood := { row := fnExactSameCircuitsUptoRow, standIns := [], harness := (true, "87f8c101706827a44e5266e0525a0e0e212c29c1b9a467511b8c2798259a75f9"), looks := false }, kinds := [], alts := [], laidByText := true, laidKinds := [.data], laidTests := true, laidLooks := .later }
def FnExactSameCircuitsUptoCardSaid : Prop := Claim7.holds Tryd.pinned (.plain (OpenSpec.upto fnExactSameCircuitsSpec)) fnExactSameCircuitsUptoCard
end Rows
end Go.Proofs.YtmflebjoidoiiaaDoor
