/-
  DERIVED. GIVEN WITH THE SEED: THE CARDS: each row of YthjdknddcceigaaDoorRows.lean that lists a variable, with what it lists TIED to the program's text (the seventh form; the later family's looks); each row that meets fmt, with fmt's text TOLD by the authors' own Lean function (tested against real Go, not proved from fmt's source: count such statements apart). THE CARD IS WHAT COUNTS. Prove the row's statement (the work); the ties are given (YthjdknddcceigaaDoorTie.lean); close each card by the builder's one call (the guide's Derived/Test/ToyasCard.lean, 'card_holds'). Laid BY PROGRAM, IN A SANDBOX (cutbox-door.mjs). By AI agents, Wed Nov 11 2026. No macro, syntax, notation, axiom, sorry.
-/
import Derived.Test.YthjdknddcceigaaDoorRows
import GoSem.ClaimSeven
namespace Go.Proofs.YthjdknddcceigaaDoor
namespace Rows

/-- THE TIED CARD OF 'laws.FnExactCountGates'. -/
def fnExactCountGatesCard : Claim7 := { stood := { row := fnExactCountGatesRow, standIns := [], harness := (true, "c00c88ef7b1c51aaf39f203f4aa906532252c953b446fb5078557aeb7347f60b"), looks := false }, kinds := [], alts := [], laidByText := true, laidKinds := [.data], laidTests := true, laidLooks := .later }
def FnExactCountGatesCardSaid : Prop := Claim7.holds Tryd.pinned (.plain (OpenSpec.ofChange fnExactCountGatesSpec)) fnExactCountGatesCard

/-- THE TIED CARD OF 'laws.FnExactFeedbackOf'. -/
def fnExactFeedbackOfCard : Claim7 := { stood := { row := fnExactFeedbackOfRow, standIns := [], harness := (true, "c00c88ef7b1c51aaf39f203f4aa906532252c953b446fb5078557aeb7347f60b"), looks := false }, kinds := [], alts := [], laidByText := true, laidKinds := [.data], laidTests := true, laidLooks := .later }
def FnExactFeedbackOfCardSaid : Prop := Claim7.holds Tryd.pinned (.plain (OpenSpec.ofChange fnExactFeedbackOfSpec)) fnExactFeedbackOfCard

/-- THE TIED CARD OF 'laws.FnExactSpreadDelay'. -/
def fnExactSpreadDelayCard : Claim7 := { stood := { row := fnExactSpreadDelayRow, standIns := [], harness := (true, "c00c88ef7b1c51aaf39f203f4aa906532252c953b446fb5078557aeb7347f60b"), looks := false }, kinds := [], alts := [], laidByText := true, laidKinds := [.data], laidTests := true, laidLooks := .later }
def FnExactSpreadDelayCardSaid : Prop := Claim7.holds Tryd.pinned (.plain (OpenSpec.ofChange fnExactSpreadDelaySpec)) fnExactSpreadDelayCard

/-- THE TIED CARD OF 'laws.FnExactRetimeGate'. -/
def fnExactRetimeGateCard : Claim7 := { stood := { row := fnExactRetimeGateRow, standIns := [], harness := (true, "c00c88ef7b1c51aaf39f203f4aa906532252c953b446fb5078557aeb7347f60b"), looks := false }, kinds := [], alts := [], laidByText := true, laidKinds := [.data], laidTests := true, laidLooks := .later }
def FnExactRetimeGateCardSaid : Prop := Claim7.holds Tryd.pinned (.plain (OpenSpec.ofChange fnExactRetimeGateSpec)) fnExactRetimeGateCard

/-- THE TIED CARD OF 'laws.FnExactStepCircuit'. -/
def fnExactStepCircuitCard : Claim7 := { stood := { row := fnExactStepCircuitRow, standIns := [], harness := (true, "c00c88ef7b1c51aaf39f203f4aa906532252c953b446fb5078557aeb7347f60b"), looks := false }, kinds := [], alts := [], laidByText := true, laidKinds := [.data], laidTests := true, laidLooks := .later }
def FnExactStepCircuitCardSaid : Prop := Claim7.holds Tryd.pinned (.plain (OpenSpec.ofChange fnExactStepCircuitSpec)) fnExactStepCircuitCard

/-- THE TIED CARD OF 'laws.FnExactParCircuits'. -/
def fnExactParCircuitsCard : Claim7 := { stood := { row := fnExactParCircuitsRow, standIns := [], harness := (true, "c00c88ef7b1c51aaf39f203f4aa906532252c953b446fb5078557aeb7347f60b"), looks := false }, kinds := [], alts := [], laidByText := true, laidKinds := [.data], laidTests := true, laidLooks := .later }
def FnExactParCircuitsCardSaid : Prop := Claim7.holds Tryd.pinned (.plain (OpenSpec.ofChange fnExactParCircuitsSpec)) fnExactParCircuitsCard

/-- THE TIED CARD OF 'laws.FnExactFoldZeros'. -/
def fnExactFoldZerosCard : Claim7 := { stood := { row := fnExactFoldZerosRow, standIns := [], harness := (true, "c00c88ef7b1c51aaf39f203f4aa906532252c953b446fb5078557aeb7347f60b"), looks := false }, kinds := [], alts := [], laidByText := true, laidKinds := [.data], laidTests := true, laidLooks := .later }
def FnExactFoldZerosCardSaid : Prop := Claim7.holds Tryd.pinned (.plain (OpenSpec.ofChange fnExactFoldZerosSpec)) fnExactFoldZerosCard

/-- THE SECOND FORM's CARD OF 'laws.FnExactCountGates'. -/
def fnExactCountGatesUptoCard : Claim7 := { stood := { row := fnExactCountGatesUptoRow, standIns := [], harness := (true, "c00c88ef7b1c51aaf39f203f4aa906532252c953b446fb5078557aeb7347f60b"), looks := false }, kinds := [], alts := [], laidByText := true, laidKinds := [.data], laidTests := true, laidLooks := .later }
def FnExactCountGatesUptoCardSaid : Prop := Claim7.holds Tryd.pinned (.plain (OpenSpec.upto fnExactCountGatesSpec)) fnExactCountGatesUptoCard

/-- THE SECOND FORM's CARD OF 'laws.FnExactFeedbackOf'. -/
def fnExactFeedbackOfUptoCard : Claim7 := { stood := { row := fnExactFeedbackOfUptoRow, standIns := [], harness := (true, "c00c88ef7b1c51aaf39f203f4aa906532252c953b446fb5078557aeb7347f60b"), looks := false }, kinds := [], alts := [], laidByText := true, laidKinds := [.data], laidTests := true, laidLooks := .later }
def FnExactFeedbackOfUptoCardSaid : Prop := Claim7.holds Tryd.pinned (.plain (OpenSpec.upto fnExactFeedbackOfSpec)) fnExactFeedbackOfUptoCard

/-- THE SECOND FORM's CARD OF 'laws.FnExactSpreadDelay'. -/
def fnExactSpreadDelayUptoCard : Claim7 := { stood := { row := fnExactSpreadDelayUptoRow, standIns := [], harness := (true, "c00c88ef7b1c51aaf39f203f4aa906532252c953b446fb5078557aeb7347f60b"), looks := false }, kinds := [], alts := [], laidByText := true, laidKinds := [.data], laidTests := true, laidLooks := .later }
def FnExactSpreadDelayUptoCardSaid : Prop := Claim7.holds Tryd.pinned (.plain (OpenSpec.upto fnExactSpreadDelaySpec)) fnExactSpreadDelayUptoCard

/-- THE SECOND FORM's CARD OF 'laws.FnExactRetimeGate'. -/
def fnExactRetimeGateUptoCard : Claim7 := { stood := { row := fnExactRetimeGateUptoRow, standIns := [], harness := (true, "c00c88ef7b1c51aaf39f203f4aa906532252c953b446fb5078557aeb7347f60b"), looks := false }, kinds := [], alts := [], laidByText := true, laidKinds := [.data], laidTests := true, laidLooks := .later }
def FnExactRetimeGateUptoCardSaid : Prop := Claim7.holds Tryd.pinned (.plain (OpenSpec.upto fnExactRetimeGateSpec)) fnExactRetimeGateUptoCard

/-- THE SECOND FORM's CARD OF 'laws.FnExactStepCircuit'. -/
def fnExactStepCircuitUptoCard : Claim7 := { stood := { row := fnExactStepCircuitUptoRow, standIns := [], harness := (true, "c00c88ef7b1c51aaf39f203f4aa906532252c953b446fb5078557aeb7347f60b"), looks := false }, kinds := [], alts := [], laidByText := true, laidKinds := [.data], laidTests := true, laidLooks := .later }
def FnExactStepCircuitUptoCardSaid : Prop := Claim7.holds Tryd.pinned (.plain (OpenSpec.upto fnExactStepCircuitSpec)) fnExactStepCircuitUptoCard

/-- THE SECOND FORM's CARD OF 'laws.FnExactParCircuits'. -/
def fnExactParCircuitsUptoCard : Claim7 := { stood := { row := fnExactParCircuitsUptoRow, standIns := [], harness := (true, "c00c88ef7b1c51aaf39f203f4aa906532252c953b446fb5078557aeb7347f60b"), looks := false }, kinds := [], alts := [], laidByText := true, laidKinds := [.data], laidTests := true, laidLooks := .later }
def FnExactParCircuitsUptoCardSaid : Prop := Claim7.holds Tryd.pinned (.plain (OpenSpec.upto fnExactParCircuitsSpec)) fnExactParCircuitsUptoCard

/-- THE SECOND FORM's CARD OF 'laws.FnExactFoldZeros'. -/
def fnExactFoldZerosUptoCard : Claim7 := { stood := { row := fnExactFoldZerosUptoRow, standIns := [], harness := (true, "c00c88ef7b1c51aaf39f203f4aa906532252c953b446fb5078557aeb7347f60b"), looks := false }, kinds := [], alts := [], laidByText := true, laidKinds := [.data], laidTests := true, laidLooks := .later }
def FnExactFoldZerosUptoCardSaid : Prop := Claim7.holds Tryd.pinned (.plain (OpenSpec.upto fnExactFoldZerosSpec)) fnExactFoldZerosUptoCard
end Rows
end Go.Proofs.YthjdknddcceigaaDoor
