/-
  DERIVED. GIVEN WITH THE SEED: THE CARDS: each row of YtomijolkdmaimaaDoorRows.lean that lists a variable, with what it lists TIED to the program's text (the seventh form; the later family's looks); each row that meets fmt, with fmt's text TOLD by the authors' own Lean function (tested against real Go, not proved from fmt's source: count such statements apart). THE CARD IS WHAT COUNTS. Prove the row's statement (the work); the ties are given (YtomijolkdmaimaaDoorTie.lean); close each card by the builder's one call (the guide's Derived/Test/ToyasCard.lean, 'card_holds'). Laid BY PROGRAM, IN A SANDBOX (cutbox-door.mjs). By AI agents, Wed Nov 11 2026. No macro, syntax, notation, axiom, sorry.
-/
import Derived.Test.YtomijolkdmaimaaDoorRows
import GoSem.ClaimSeven
namespace Go.Proofs.YtomijolkdmaimaaDoor
namespace Rows

/-- THE TIED CARD OF 'laws.FnExactIsProgram'. -/
def fnExactIsProgramCard : Claim7 := { stood := { row := fnExactIsProgramRow, standIns := [], harness := (true, "f11cbe6de199557fbca4566e3685b562c9963a0c42b22dfa890bfdcf1aa7010a"), looks := false }, kinds := [], alts := [], laidByText := true, laidKinds := [.data], laidTests := true, laidLooks := .later }
def FnExactIsProgramCardSaid : Prop := Claim7.holds Tryd.pinned (.plain (OpenSpec.ofChange fnExactIsProgramSpec)) fnExactIsProgramCard

/-- THE TIED CARD OF 'laws.FnExactLiveRegisters'. -/
def fnExactLiveRegistersCard : Claim7 := { stood := { row := fnExactLiveRegistersRow, standIns := [], harness := (true, "f11cbe6de199557fbca4566e3685b562c9963a0c42b22dfa890bfdcf1aa7010a"), looks := false }, kinds := [], alts := [], laidByText := true, laidKinds := [.data], laidTests := true, laidLooks := .later }
def FnExactLiveRegistersCardSaid : Prop := Claim7.holds Tryd.pinned (.plain (OpenSpec.ofChange fnExactLiveRegistersSpec)) fnExactLiveRegistersCard

/-- THE TIED CARD OF 'laws.FnExactStepProgram'. -/
def fnExactStepProgramCard : Claim7 := { stood := { row := fnExactStepProgramRow, standIns := [], harness := (true, "f11cbe6de199557fbca4566e3685b562c9963a0c42b22dfa890bfdcf1aa7010a"), looks := false }, kinds := [], alts := [], laidByText := true, laidKinds := [.data], laidTests := true, laidLooks := .later }
def FnExactStepProgramCardSaid : Prop := Claim7.holds Tryd.pinned (.plain (OpenSpec.ofChange fnExactStepProgramSpec)) fnExactStepProgramCard

/-- THE TIED CARD OF 'laws.FnExactDropDead'. -/
def fnExactDropDeadCard : Claim7 := { stood := { row := fnExactDropDeadRow, standIns := [], harness := (true, "f11cbe6de199557fbca4566e3685b562c9963a0c42b22dfa890bfdcf1aa7010a"), looks := false }, kinds := [], alts := [], laidByText := true, laidKinds := [.data], laidTests := true, laidLooks := .later }
def FnExactDropDeadCardSaid : Prop := Claim7.holds Tryd.pinned (.plain (OpenSpec.ofChange fnExactDropDeadSpec)) fnExactDropDeadCard

/-- THE TIED CARD OF 'laws.FnExactRunProgram'. -/
def fnExactRunProgramCard : Claim7 := { stood := { row := fnExactRunProgramRow, standIns := [], harness := (true, "f11cbe6de199557fbca4566e3685b562c9963a0c42b22dfa890bfdcf1aa7010a"), looks := false }, kinds := [], alts := [], laidByText := true, laidKinds := [.data], laidTests := true, laidLooks := .later }
def FnExactRunProgramCardSaid : Prop := Claim7.holds Tryd.pinned (.plain (OpenSpec.ofChange fnExactRunProgramSpec)) fnExactRunProgramCard

/-- THE SECOND FORM's CARD OF 'laws.FnExactIsProgram'. -/
def fnExactIsProgramUptoCard : Claim7 := { stood := { row := fnExactIsProgramUptoRow, standIns := [], harness := (true, "f11cbe6de199557fbca4566e3685b562c9963a0c42b22dfa890bfdcf1aa7010a"), looks := false }, kinds := [], alts := [], laidByText := true, laidKinds := [.data], laidTests := true, laidLooks := .later }
def FnExactIsProgramUptoCardSaid : Prop := Claim7.holds Tryd.pinned (.plain (OpenSpec.upto fnExactIsProgramSpec)) fnExactIsProgramUptoCard

/-- THE SECOND FORM's CARD OF 'laws.FnExactLiveRegisters'. -/
def fnExactLiveRegistersUptoCard : Claim7 := { stood := { row := fnExactLiveRegistersUptoRow, standIns := [], harness := (true, "f11cbe6de199557fbca4566e3685b562c9963a0c42b22dfa890bfdcf1aa7010a"), looks := false }, kinds := [], alts := [], laidByText := true, laidKinds := [.data], laidTests := true, laidLooks := .later }
def FnExactLiveRegistersUptoCardSaid : Prop := Claim7.holds Tryd.pinned (.plain (OpenSpec.upto fnExactLiveRegistersSpec)) fnExactLiveRegistersUptoCard

/-- THE SECOND FORM's CARD OF 'laws.FnExactStepProgram'. -/
def fnExactStepProgramUptoCard : Claim7 := { stood := { row := fnExactStepProgramUptoRow, standIns := [], harness := (true, "f11cbe6de199557fbca4566e3685b562c9963a0c42b22dfa890bfdcf1aa7010a"), looks := false }, kinds := [], alts := [], laidByText := true, laidKinds := [.data], laidTests := true, laidLooks := .later }
def FnExactStepProgramUptoCardSaid : Prop := Claim7.holds Tryd.pinned (.plain (OpenSpec.upto fnExactStepProgramSpec)) fnExactStepProgramUptoCard

/-- THE SECOND FORM's CARD OF 'laws.FnExactDropDead'. -/
def fnExactDropDeadUptoCard : Claim7 := { stood := { row := fnExactDropDeadUptoRow, standIns := [], harness := (true, "f11cbe6de199557fbca4566e3685b562c9963a0c42b22dfa890bfdcf1aa7010a"), looks := false }, kinds := [], alts := [], laidByText := true, laidKinds := [.data], laidTests := true, laidLooks := .later }
def FnExactDropDeadUptoCardSaid : Prop := Claim7.holds Tryd.pinned (.plain (OpenSpec.upto fnExactDropDeadSpec)) fnExactDropDeadUptoCard

/-- THE SECOND FORM's CARD OF 'laws.FnExactRunProgram'. -/
def fnExactRunProgramUptoCard : Claim7 := { stood := { row := fnExactRunProgramUptoRow, standIns := [], harness := (true, "f11cbe6de199557fbca4566e3685b562c9963a0c42b22dfa890bfdcf1aa7010a"), looks := false }, kinds := [], alts := [], laidByText := true, laidKinds := [.data], laidTests := true, laidLooks := .later }
def FnExactRunProgramUptoCardSaid : Prop := Claim7.holds Tryd.pinned (.plain (OpenSpec.upto fnExactRunProgramSpec)) fnExactRunProgramUptoCard
end Rows
end Go.Proofs.YtomijolkdmaimaaDoor
