/-
  DERIVED. GIVEN WITH THE SEED: THE CARDS: each row of YtjnaikadmjocbaaDoorRows.lean that lists a variable, with what it lists TIED to the program's text (the seventh form; the later family's looks); each row that meets fmt, with fmt's text TOLD by the authors' own Lean function (tested against real Go, not proved from fmt's source: count such statements apart). THE CARD IS WHAT COUNTS. Prove the row's statement (the work); the ties are given (YtjnaikadmjocbaaDoorTie.lean); close each card by the builder's one call (the guide's Derived/Test/ToyasCard.lean, 'card_holds'). Laid BY PROGRAM, IN A SANDBOX (cutbox-door.mjs). By AI agents, Wed Nov 11 2026. No macro, syntax, notation, axiom, sorry.
-/
import Derived.Test.YtjnaikadmjocbaaDoorRows
import GoSem.ClaimSeven
namespace Go.Proofs.YtjnaikadmjocbaaDoor
namespace Rows

/-- THE TIED CARD OF 'laws.FnExactInputChoices'. -/
def fnExactInputChoicesCard : Claim7 := { stood := { row := fnExactInputChoicesRow, standIns := [], harness := (true, "d20c8e4dde597bc27097a1b190788df514fb54ac75f25a80ac42cbc7d824d9c5"), looks := false }, kinds := [], alts := [], laidByText := true, laidKinds := [.data], laidTests := true, laidLooks := .later }
def FnExactInputChoicesCardSaid : Prop := Claim7.holds Tryd.pinned (.plain (OpenSpec.ofChange fnExactInputChoicesSpec)) fnExactInputChoicesCard

/-- THE TIED CARD OF 'laws.FnExactExchangePorts'. -/
def fnExactExchangePortsCard : Claim7 := { stood := { row := fnExactExchangePortsRow, standIns := [], harness := (true, "d20c8e4dde597bc27097a1b190788df514fb54ac75f25a80ac42cbc7d824d9c5"), looks := false }, kinds := [], alts := [], laidByText := true, laidKinds := [.data], laidTests := true, laidLooks := .later }
def FnExactExchangePortsCardSaid : Prop := Claim7.holds Tryd.pinned (.plain (OpenSpec.ofChange fnExactExchangePortsSpec)) fnExactExchangePortsCard

/-- THE SECOND FORM's CARD OF 'laws.FnExactInputChoices'. -/
def fnExactInputChoicesUptoCard : Claim7 := { stood := { row := fnExactInputChoicesUptoRow, standIns := [], harness := (true, "d20c8e4dde597bc27097a1b190788df514fb54ac75f25a80ac42cbc7d824d9c5"), looks := false }, kinds := [], alts := [], laidByText := true, laidKinds := [.data], laidTests := true, laidLooks := .later }
def FnExactInputChoicesUptoCardSaid : Prop := Claim7.holds Tryd.pinned (.plain (OpenSpec.upto fnExactInputChoicesSpec)) fnExactInputChoicesUptoCard

/-- THE SECOND FORM's CARD OF 'laws.FnExactExchangePorts'. -/
def fnExactExchangePortsUptoCard : Claim7 := { stood := { row := fnExactExchangePortsUptoRow, standIns := [], harness := (true, "d20c8e4dde597bc27097a1b190788df514fb54ac75f25a80ac42cbc7d824d9c5"), looks := false }, kinds := [], alts := [], laidByText := true, laidKinds := [.data], laidTests := true, laidLooks := .later }
def FnExactExchangePortsUptoCardSaid : Prop := Claim7.holds Tryd.pinned (.plain (OpenSpec.upto fnExactExchangePortsSpec)) fnExactExchangePortsUptoCard
end Rows
end Go.Proofs.YtjnaikadmjocbaaDoor
