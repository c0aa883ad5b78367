/-
  DERIVED. GIVEN WITH THE SEED: THE CARDS: each row of YtkaollfdhoaihaaDoorRows.lean that lists a variable, with what it lists TIED to the program's text (the seventh form; the later family's looks); each row that meets fmt, with fmt's text TOLD by the authors' own Lean function (tested against real Go, not proved from fmt's source: count such statements apart). THE CARD IS WHAT COUNTS. Prove the row's statement (the work); the ties are given (YtkaollfdhoaihaaDoorTie.lean); close each card by the builder's one call (the guide's Derived/Test/ToyasCard.lean, 'card_holds'). Laid BY PROGRAM, IN A SANDBOX (cutbox-door.mjs). By AI agents, Wed Nov 11 2026. No macro, syntax, notation, axiom, sorry.
-/
import Derived.Test.YtkaollfdhoaihaaDoorRows
import GoSem.ClaimSeven
namespace Go.Proofs.YtkaollfdhoaihaaDoor
namespace Rows

/-- THE TIED CARD OF 'laws.FnExactNetworkRelation'. -/
def fnExactNetworkRelationCard : Claim7 := { stood := { row := fnExactNetworkRelationRow, standIns := [], harness := (true, "641915b9dc3169833d0b605b4e87598df9929b1d0bcc43046b7cce71dc31d49a"), looks := false }, kinds := [], alts := [], laidByText := true, laidKinds := [.data], laidTests := true, laidLooks := .later }
def FnExactNetworkRelationCardSaid : Prop := Claim7.holds Tryd.pinned (.plain (OpenSpec.ofChange fnExactNetworkRelationSpec)) fnExactNetworkRelationCard

/-- THE TIED CARD OF 'laws.FnExactNodePotentials'. -/
def fnExactNodePotentialsCard : Claim7 := { stood := { row := fnExactNodePotentialsRow, standIns := [], harness := (true, "641915b9dc3169833d0b605b4e87598df9929b1d0bcc43046b7cce71dc31d49a"), looks := false }, kinds := [], alts := [], laidByText := true, laidKinds := [.data], laidTests := true, laidLooks := .later }
def FnExactNodePotentialsCardSaid : Prop := Claim7.holds Tryd.pinned (.plain (OpenSpec.ofChange fnExactNodePotentialsSpec)) fnExactNodePotentialsCard

/-- THE SECOND FORM's CARD OF 'laws.FnExactNetworkRelation'. -/
def fnExactNetworkRelationUptoCard : Claim7 := { stood := { row := fnExactNetworkRelationUptoRow, standIns := [], harness := (true, "641915b9dc3169833d0b605b4e87598df9929b1d0bcc43046b7cce71dc31d49a"), looks := false }, kinds := [], alts := [], laidByText := true, laidKinds := [.data], laidTests := true, laidLooks := .later }
def FnExactNetworkRelationUptoCardSaid : Prop := Claim7.holds Tryd.pinned (.plain (OpenSpec.upto fnExactNetworkRelationSpec)) fnExactNetworkRelationUptoCard

/-- THE SECOND FORM's CARD OF 'laws.FnExactNodePotentials'. -/
def fnExactNodePotentialsUptoCard : Claim7 := { stood := { row := fnExactNodePotentialsUptoRow, standIns := [], harness := (true, "641915b9dc3169833d0b605b4e87598df9929b1d0bcc43046b7cce71dc31d49a"), looks := false }, kinds := [], alts := [], laidByText := true, laidKinds := [.data], laidTests := true, laidLooks := .later }
def FnExactNodePotentialsUptoCardSaid : Prop := Claim7.holds Tryd.pinned (.plain (OpenSpec.upto fnExactNodePotentialsSpec)) fnExactNodePotentialsUptoCard
end Rows
end Go.Proofs.YtkaollfdhoaihaaDoor
