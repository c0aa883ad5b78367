/-
  DERIVED. GIVEN WITH THE SEED: THE CARDS: each row of YthlpchhhinipaaaGreatDoorRows.lean that lists a variable, with what it lists TIED to the program's text (the seventh form; the later family's looks); each row that meets fmt, with fmt's text TOLD by the authors' own Lean function (tested against real Go, not proved from fmt's source: count such statements apart). THE CARD IS WHAT COUNTS. Prove the row's statement (the work); the ties are given (YthlpchhhinipaaaGreatDoorTie.lean); close each card by the builder's one call (the guide's Derived/Test/ToyasCard.lean, 'card_holds'). Laid BY PROGRAM, IN A SANDBOX (cutbox-door.mjs). By AI agents, Wed Nov 11 2026. No macro, syntax, notation, axiom, sorry.
-/
import Derived.Test.YthlpchhhinipaaaGreatDoorRows
import GoSem.ClaimSeven
namespace Go.Proofs.YthlpchhhinipaaaGreatDoor
namespace Rows

/-- THE TIED CARD OF 'laws.FnExactPromiseOf'. -/
def fnExactPromiseOfCard : Claim7 := { stood := { row := fnExactPromiseOfRow, standIns := [], harness := (true, "b887f91380556c374f022a12c362813c60f5240bb16eee11e47b1605c56cdb4b"), looks := false }, kinds := [], alts := [], laidByText := true, laidKinds := [.data], laidTests := true, laidLooks := .later }
def FnExactPromiseOfCardSaid : Prop := Claim7.holds Tryz.pinned (.plain (OpenSpec.ofChange fnExactPromiseOfSpec)) fnExactPromiseOfCard

/-- THE TIED CARD OF 'laws.FnExactActualOf'. -/
def fnExactActualOfCard : Claim7 := { stood := { row := fnExactActualOfRow, standIns := [], harness := (true, "b887f91380556c374f022a12c362813c60f5240bb16eee11e47b1605c56cdb4b"), looks := false }, kinds := [], alts := [], laidByText := true, laidKinds := [.data], laidTests := true, laidLooks := .later }
def FnExactActualOfCardSaid : Prop := Claim7.holds Tryz.pinned (.plain (OpenSpec.ofChange fnExactActualOfSpec)) fnExactActualOfCard

/-- THE TIED CARD OF 'laws.FnExactStrongestPromise'. -/
def fnExactStrongestPromiseCard : Claim7 := { stood := { row := fnExactStrongestPromiseRow, standIns := [], harness := (true, "b887f91380556c374f022a12c362813c60f5240bb16eee11e47b1605c56cdb4b"), looks := false }, kinds := [], alts := [], laidByText := true, laidKinds := [.data], laidTests := true, laidLooks := .later }
def FnExactStrongestPromiseCardSaid : Prop := Claim7.holds Tryz.pinned (.plain (OpenSpec.ofChange fnExactStrongestPromiseSpec)) fnExactStrongestPromiseCard

/-- THE SECOND FORM's CARD OF 'laws.FnExactPromiseOf'. -/
def fnExactPromiseOfUptoCard : Claim7 := { stood := { row := fnExactPromiseOfUptoRow, standIns := [], harness := (true, "b887f91380556c374f022a12c362813c60f5240bb16eee11e47b1605c56cdb4b"), looks := false }, kinds := [], alts := [], laidByText := true, laidKinds := [.data], laidTests := true, laidLooks := .later }
def FnExactPromiseOfUptoCardSaid : Prop := Claim7.holds Tryz.pinned (.plain (OpenSpec.upto fnExactPromiseOfSpec)) fnExactPromiseOfUptoCard

/-- THE SECOND FORM's CARD OF 'laws.FnExactActualOf'. -/
def fnExactActualOfUptoCard : Claim7 := { stood := { row := fnExactActualOfUptoRow, standIns := [], harness := (true, "b887f91380556c374f022a12c362813c60f5240bb16eee11e47b1605c56cdb4b"), looks := false }, kinds := [], alts := [], laidByText := true, laidKinds := [.data], laidTests := true, laidLooks := .later }
def FnExactActualOfUptoCardSaid : Prop := Claim7.holds Tryz.pinned (.plain (OpenSpec.upto fnExactActualOfSpec)) fnExactActualOfUptoCard

/-- THE SECOND FORM's CARD OF 'laws.FnExactStrongestPromise'. -/
def fnExactStrongestPromiseUptoCard : Claim7 := { stood := { row := fnExactStrongestPromiseUptoRow, standIns := [], harness := (true, "b887f91380556c374f022a12c362813c60f5240bb16eee11e47b1605c56cdb4b"), looks := false }, kinds := [], alts := [], laidByText := true, laidKinds := [.data], laidTests := true, laidLooks := .later }
def FnExactStrongestPromiseUptoCardSaid : Prop := Claim7.holds Tryz.pinned (.plain (OpenSpec.upto fnExactStrongestPromiseSpec)) fnExactStrongestPromiseUptoCard
end Rows
end Go.Proofs.YthlpchhhinipaaaGreatDoor
