/-
  DERIVED. GIVEN WITH THE SEED: THE CARDS: each row of YtefolocdfgelcaaDoorRows.lean that lists a variable, with what it lists TIED to the program's text (the seventh form; the later family's looks); each row that meets fmt, with fmt's text TOLD by the authors' own Lean function (tested against real Go, not proved from fmt's source: count such statements apart). THE CARD IS WHAT COUNTS. Prove the row's statement (the work); the ties are given (YtefolocdfgelcaaDoorTie.lean); close each card by the builder's one call (the guide's Derived/Test/ToyasCard.lean, 'card_holds'). Laid BY PROGRAM, IN A SANDBOX (cutbox-door.mjs). By AI agents, Wed Nov 11 2026. No macro, syntax, notation, axiom, sorry.
-/
import Derived.Test.YtefolocdfgelcaaDoorRows
import GoSem.ClaimSeven
namespace Go.Proofs.YtefolocdfgelcaaDoor
namespace Rows

/-- THE TIED CARD OF 'laws.FnExactIsNetwork'. -/
def fnExactIsNetworkCard : Claim7 := { stood := { row := fnExactIsNetworkRow, standIns := [], harness := (true, "21431325f25714522ab6c9007971f7588bf0d7e56757375f9391ecb7e70bb578"), looks := false }, kinds := [], alts := [], laidByText := true, laidKinds := [.data], laidTests := true, laidLooks := .later }
def FnExactIsNetworkCardSaid : Prop := Claim7.holds Tryd.pinned (.plain (OpenSpec.ofChange fnExactIsNetworkSpec)) fnExactIsNetworkCard

/-- THE TIED CARD OF 'laws.FnExactPowerOf'. -/
def fnExactPowerOfCard : Claim7 := { stood := { row := fnExactPowerOfRow, standIns := [], harness := (true, "21431325f25714522ab6c9007971f7588bf0d7e56757375f9391ecb7e70bb578"), looks := false }, kinds := [], alts := [], laidByText := true, laidKinds := [.data], laidTests := true, laidLooks := .later }
def FnExactPowerOfCardSaid : Prop := Claim7.holds Tryd.pinned (.plain (OpenSpec.ofChange fnExactPowerOfSpec)) fnExactPowerOfCard

/-- THE TIED CARD OF 'laws.FnExactFlipNetwork'. -/
def fnExactFlipNetworkCard : Claim7 := { stood := { row := fnExactFlipNetworkRow, standIns := [], harness := (true, "21431325f25714522ab6c9007971f7588bf0d7e56757375f9391ecb7e70bb578"), looks := false }, kinds := [], alts := [], laidByText := true, laidKinds := [.data], laidTests := true, laidLooks := .later }
def FnExactFlipNetworkCardSaid : Prop := Claim7.holds Tryd.pinned (.plain (OpenSpec.ofChange fnExactFlipNetworkSpec)) fnExactFlipNetworkCard

/-- THE TIED CARD OF 'laws.FnExactLaplacianOf'. -/
def fnExactLaplacianOfCard : Claim7 := { stood := { row := fnExactLaplacianOfRow, standIns := [], harness := (true, "21431325f25714522ab6c9007971f7588bf0d7e56757375f9391ecb7e70bb578"), looks := false }, kinds := [], alts := [], laidByText := true, laidKinds := [.data], laidTests := true, laidLooks := .later }
def FnExactLaplacianOfCardSaid : Prop := Claim7.holds Tryd.pinned (.plain (OpenSpec.ofChange fnExactLaplacianOfSpec)) fnExactLaplacianOfCard

/-- THE TIED CARD OF 'laws.FnExactMergeBranches'. -/
def fnExactMergeBranchesCard : Claim7 := { stood := { row := fnExactMergeBranchesRow, standIns := [], harness := (true, "21431325f25714522ab6c9007971f7588bf0d7e56757375f9391ecb7e70bb578"), looks := false }, kinds := [], alts := [], laidByText := true, laidKinds := [.data], laidTests := true, laidLooks := .later }
def FnExactMergeBranchesCardSaid : Prop := Claim7.holds Tryd.pinned (.plain (OpenSpec.ofChange fnExactMergeBranchesSpec)) fnExactMergeBranchesCard

/-- THE TIED CARD OF 'laws.FnExactBesideNetworks'. -/
def fnExactBesideNetworksCard : Claim7 := { stood := { row := fnExactBesideNetworksRow, standIns := [], harness := (true, "21431325f25714522ab6c9007971f7588bf0d7e56757375f9391ecb7e70bb578"), looks := false }, kinds := [], alts := [], laidByText := true, laidKinds := [.data], laidTests := true, laidLooks := .later }
def FnExactBesideNetworksCardSaid : Prop := Claim7.holds Tryd.pinned (.plain (OpenSpec.ofChange fnExactBesideNetworksSpec)) fnExactBesideNetworksCard

/-- THE TIED CARD OF 'laws.FnExactGlueNetworks'. -/
def fnExactGlueNetworksCard : Claim7 := { stood := { row := fnExactGlueNetworksRow, standIns := [], harness := (true, "21431325f25714522ab6c9007971f7588bf0d7e56757375f9391ecb7e70bb578"), looks := false }, kinds := [], alts := [], laidByText := true, laidKinds := [.data], laidTests := true, laidLooks := .later }
def FnExactGlueNetworksCardSaid : Prop := Claim7.holds Tryd.pinned (.plain (OpenSpec.ofChange fnExactGlueNetworksSpec)) fnExactGlueNetworksCard

/-- THE TIED CARD OF 'laws.FnExactStarMesh'. -/
def fnExactStarMeshCard : Claim7 := { stood := { row := fnExactStarMeshRow, standIns := [], harness := (true, "21431325f25714522ab6c9007971f7588bf0d7e56757375f9391ecb7e70bb578"), looks := false }, kinds := [], alts := [], laidByText := true, laidKinds := [.data], laidTests := true, laidLooks := .later }
def FnExactStarMeshCardSaid : Prop := Claim7.holds Tryd.pinned (.plain (OpenSpec.ofChange fnExactStarMeshSpec)) fnExactStarMeshCard

/-- THE TIED CARD OF 'laws.FnExactReduceNetwork'. -/
def fnExactReduceNetworkCard : Claim7 := { stood := { row := fnExactReduceNetworkRow, standIns := [], harness := (true, "21431325f25714522ab6c9007971f7588bf0d7e56757375f9391ecb7e70bb578"), looks := false }, kinds := [], alts := [], laidByText := true, laidKinds := [.data], laidTests := true, laidLooks := .later }
def FnExactReduceNetworkCardSaid : Prop := Claim7.holds Tryd.pinned (.plain (OpenSpec.ofChange fnExactReduceNetworkSpec)) fnExactReduceNetworkCard

/-- THE SECOND FORM's CARD OF 'laws.FnExactIsNetwork'. -/
def fnExactIsNetworkUptoCard : Claim7 := { stood := { row := fnExactIsNetworkUptoRow, standIns := [], harness := (true, "21431325f25714522ab6c9007971f7588bf0d7e56757375f9391ecb7e70bb578"), looks := false }, kinds := [], alts := [], laidByText := true, laidKinds := [.data], laidTests := true, laidLooks := .later }
def FnExactIsNetworkUptoCardSaid : Prop := Claim7.holds Tryd.pinned (.plain (OpenSpec.upto fnExactIsNetworkSpec)) fnExactIsNetworkUptoCard

/-- THE SECOND FORM's CARD OF 'laws.FnExactPowerOf'. -/
def fnExactPowerOfUptoCard : Claim7 := { stood := { row := fnExactPowerOfUptoRow, standIns := [], harness := (true, "21431325f25714522ab6c9007971f7588bf0d7e56757375f9391ecb7e70bb578"), looks := false }, kinds := [], alts := [], laidByText := true, laidKinds := [.data], laidTests := true, laidLooks := .later }
def FnExactPowerOfUptoCardSaid : Prop := Claim7.holds Tryd.pinned (.plain (OpenSpec.upto fnExactPowerOfSpec)) fnExactPowerOfUptoCard

/-- THE SECOND FORM's CARD OF 'laws.FnExactFlipNetwork'. -/
def fnExactFlipNetworkUptoCard : Claim7 := { stood := { row := fnExactFlipNetworkUptoRow, standIns := [], harness := (true, "21431325f25714522ab6c9007971f7588bf0d7e56757375f9391ecb7e70bb578"), looks := false }, kinds := [], alts := [], laidByText := true, laidKinds := [.data], laidTests := true, laidLooks := .later }
def FnExactFlipNetworkUptoCardSaid : Prop := Claim7.holds Tryd.pinned (.plain (OpenSpec.upto fnExactFlipNetworkSpec)) fnExactFlipNetworkUptoCard

/-- THE SECOND FORM's CARD OF 'laws.FnExactLaplacianOf'. -/
def fnExactLaplacianOfUptoCard : Claim7 := { stood := { row := fnExactLaplacianOfUptoRow, standIns := [], harness := (true, "21431325f25714522ab6c9007971f7588bf0d7e56757375f9391ecb7e70bb578"), looks := false }, kinds := [], alts := [], laidByText := true, laidKinds := [.data], laidTests := true, laidLooks := .later }
def FnExactLaplacianOfUptoCardSaid : Prop := Claim7.holds Tryd.pinned (.plain (OpenSpec.upto fnExactLaplacianOfSpec)) fnExactLaplacianOfUptoCard

/-- THE SECOND FORM's CARD OF 'laws.FnExactMergeBranches'. -/
def fnExactMergeBranchesUptoCard : Claim7 := { stood := { row := fnExactMergeBranchesUptoRow, standIns := [], harness := (true, "21431325f25714522ab6c9007971f7588bf0d7e56757375f9391ecb7e70bb578"), looks := false }, kinds := [], alts := [], laidByText := true, laidKinds := [.data], laidTests := true, laidLooks := .later }
def FnExactMergeBranchesUptoCardSaid : Prop := Claim7.holds Tryd.pinned (.plain (OpenSpec.upto fnExactMergeBranchesSpec)) fnExactMergeBranchesUptoCard

/-- THE SECOND FORM's CARD OF 'laws.FnExactBesideNetworks'. -/
def fnExactBesideNetworksUptoCard : Claim7 := { stood := { row := fnExactBesideNetworksUptoRow, standIns := [], harness := (true, "21431325f25714522ab6c9007971f7588bf0d7e56757375f9391ecb7e70bb578"), looks := false }, kinds := [], alts := [], laidByText := true, laidKinds := [.data], laidTests := true, laidLooks := .later }
def FnExactBesideNetworksUptoCardSaid : Prop := Claim7.holds Tryd.pinned (.plain (OpenSpec.upto fnExactBesideNetworksSpec)) fnExactBesideNetworksUptoCard

/-- THE SECOND FORM's CARD OF 'laws.FnExactGlueNetworks'. -/
def fnExactGlueNetworksUptoCard : Claim7 := { stood := { row := fnExactGlueNetworksUptoRow, standIns := [], harness := (true, "21431325f25714522ab6c9007971f7588bf0d7e56757375f9391ecb7e70bb578"), looks := false }, kinds := [], alts := [], laidByText := true, laidKinds := [.data], laidTests := true, laidLooks := .later }
def FnExactGlueNetworksUptoCardSaid : Prop := Claim7.holds Tryd.pinned (.plain (OpenSpec.upto fnExactGlueNetworksSpec)) fnExactGlueNetworksUptoCard

/-- THE SECOND FORM's CARD OF 'laws.FnExactStarMesh'. -/
def fnExactStarMeshUptoCard : Claim7 := { stood := { row := fnExactStarMeshUptoRow, standIns := [], harness := (true, "21431325f25714522ab6c9007971f7588bf0d7e56757375f9391ecb7e70bb578"), looks := false }, kinds := [], alts := [], laidByText := true, laidKinds := [.data], laidTests := true, laidLooks := .later }
def FnExactStarMeshUptoCardSaid : Prop := Claim7.holds Tryd.pinned (.plain (OpenSpec.upto fnExactStarMeshSpec)) fnExactStarMeshUptoCard

/-- THE SECOND FORM's CARD OF 'laws.FnExactReduceNetwork'. -/
def fnExactReduceNetworkUptoCard : Claim7 := { stood := { row := fnExactReduceNetworkUptoRow, standIns := [], harness := (true, "21431325f25714522ab6c9007971f7588bf0d7e56757375f9391ecb7e70bb578"), looks := false }, kinds := [], alts := [], laidByText := true, laidKinds := [.data], laidTests := true, laidLooks := .later }
def FnExactReduceNetworkUptoCardSaid : Prop := Claim7.holds Tryd.pinned (.plain (OpenSpec.upto fnExactReduceNetworkSpec)) fnExactReduceNetworkUptoCard
end Rows
end Go.Proofs.YtefolocdfgelcaaDoor
