/-
  NARROWER THAN 'FOR EVERY INPUT', by the rows' own cells (each row's printed sentence says how): FnExactIsNetwork: laid · FnExactPowerOf: laid · FnExactFlipNetwork: laid · FnExactLaplacianOf: laid · FnExactMergeBranches: laid · FnExactBesideNetworks: laid · FnExactGlueNetworks: laid · FnExactStarMesh: laid · FnExactReduceNetwork: laid.
  DERIVED. THE GIVEN ROWS OF THIS SEAT. 9 by the template 'for every input the law returns true; each argument reads behind the call as it read before'; 0 by the template 'total and deterministic' (their statements: YtefolocdfgelcaaDoorTotals.lean).
  GIVEN WITH THE SEED: the statements are not yours to turn. If you find one false, say at which input.
  Laid BY PROGRAM, IN A SANDBOX (cutbox-rows.mjs): the forced cells as the released guide's own fill.sh prints them over the translation 27c278f0476dbe8d… (all of the seat's roots in one cut). By AI agents, Wed Nov 11 2026. No macro, syntax, notation, axiom, sorry.
-/
import Derived.Test.YtefolocdfgelcaaDoorChecked
import GoSem.Claim
import GoSem.ClaimJoined
import GoSem.ClaimMapViews
import Derived.JoinedTies
import Derived.KernelRfl
namespace Go.Proofs.YtefolocdfgelcaaDoor
/- THE CELL 'sum', in the pinned program and in every row, IS THE sha256 OF THE DUMP (.gsa) THAT YtefolocdfgelcaaDoorProg.lean LOADS. Nothing in Lean hashes anything: it is a label: what it is worth is what the hold of that sum in a sandbox is worth. -/
noncomputable def Tryd.pinned : Pinned := { name := "ytefolocdfgelcaadoor", sum := "27c278f0476dbe8dad6a3d244bd8c27a05a0f3396b86c2244544f34b9817d1bf", checked := Tryd.checked }
namespace Rows
def none {H : Type} : Left H := { results := [], args := [] }

/- WHAT THE LISTED PACKAGE-LEVEL VARIABLES READ AS WHEN THE CALL BEGINS. Each datum BY PROGRAM (the guide's laid-datum.mjs) off the statement by which the dump's own 'gosem.cut.vars' lays the variable. In a bare row this is a premise. The card (YtefolocdfgelcaaDoorCards.lean) ties it to the program's text. -/
def laid_loop_example_g01073_impl_smallPrimes {H : Type} : DataW H := .agg [.lit (.int .i64 2), .lit (.int .i64 3), .lit (.int .i64 5), .lit (.int .i64 7)]

/-- 'laws.FnExactIsNetwork': WHATEVER THE INPUT: true; the input reads as it did. -/
def fnExactIsNetworkSpec : ChangeSpec := { name := "fnExactIsNetwork", vars := ["loop.example/g01073/impl.smallPrimes"], fn := fun _ => fun
  | [d1, d2, g1] => { results := [.lit (.bool true)], args := [d1, d2], vars := [g1] }
  | _ => none }
def fnExactIsNetworkRow : OpenClaim := { program := "ytefolocdfgelcaadoor", sum := "27c278f0476dbe8dad6a3d244bd8c27a05a0f3396b86c2244544f34b9817d1bf", func := "loop.example/g01073/laws.FnExactIsNetwork", spec := "fnExactIsNetwork", unfollowed := true, recurses := true, named := ["loop.example/g01073/impl.smallPrimes"], plainKeys := false, apart := false, laid := [("loop.example/g01073/impl.smallPrimes", laid_loop_example_g01073_impl_smallPrimes)] }
def FnExactIsNetworkSaid : Prop := fnExactIsNetworkRow.holds Tryd.pinned (OpenSpec.ofChange fnExactIsNetworkSpec)

/-- ITS FALSE NEIGHBOUR: 'it returns false'. Refute it at one input. -/
def fnExactIsNetworkWrong : ChangeSpec := { name := "fnExactIsNetwork", vars := ["loop.example/g01073/impl.smallPrimes"], fn := fun _ => fun
  | [d1, d2, g1] => { results := [.lit (.bool false)], args := [d1, d2], vars := [g1] }
  | _ => none }
def FnExactIsNetworkWrongFalsely : Prop := fnExactIsNetworkRow.holds Tryd.pinned (OpenSpec.ofChange fnExactIsNetworkWrong)

/-- 'laws.FnExactPowerOf': WHATEVER THE INPUT: true; the input reads as it did. -/
def fnExactPowerOfSpec : ChangeSpec := { name := "fnExactPowerOf", vars := ["loop.example/g01073/impl.smallPrimes"], fn := fun _ => fun
  | [d1, d2, d3, g1] => { results := [.lit (.bool true)], args := [d1, d2, d3], vars := [g1] }
  | _ => none }
def fnExactPowerOfRow : OpenClaim := { program := "ytefolocdfgelcaadoor", sum := "27c278f0476dbe8dad6a3d244bd8c27a05a0f3396b86c2244544f34b9817d1bf", func := "loop.example/g01073/laws.FnExactPowerOf", spec := "fnExactPowerOf", unfollowed := true, recurses := true, named := ["loop.example/g01073/impl.smallPrimes"], plainKeys := false, apart := false, laid := [("loop.example/g01073/impl.smallPrimes", laid_loop_example_g01073_impl_smallPrimes)] }
def FnExactPowerOfSaid : Prop := fnExactPowerOfRow.holds Tryd.pinned (OpenSpec.ofChange fnExactPowerOfSpec)

/-- ITS FALSE NEIGHBOUR: 'it returns false'. Refute it at one input. -/
def fnExactPowerOfWrong : ChangeSpec := { name := "fnExactPowerOf", vars := ["loop.example/g01073/impl.smallPrimes"], fn := fun _ => fun
  | [d1, d2, d3, g1] => { results := [.lit (.bool false)], args := [d1, d2, d3], vars := [g1] }
  | _ => none }
def FnExactPowerOfWrongFalsely : Prop := fnExactPowerOfRow.holds Tryd.pinned (OpenSpec.ofChange fnExactPowerOfWrong)

/-- 'laws.FnExactFlipNetwork': WHATEVER THE INPUT: true; the input reads as it did. -/
def fnExactFlipNetworkSpec : ChangeSpec := { name := "fnExactFlipNetwork", vars := ["loop.example/g01073/impl.smallPrimes"], fn := fun _ => fun
  | [d1, d2, g1] => { results := [.lit (.bool true)], args := [d1, d2], vars := [g1] }
  | _ => none }
def fnExactFlipNetworkRow : OpenClaim := { program := "ytefolocdfgelcaadoor", sum := "27c278f0476dbe8dad6a3d244bd8c27a05a0f3396b86c2244544f34b9817d1bf", func := "loop.example/g01073/laws.FnExactFlipNetwork", spec := "fnExactFlipNetwork", unfollowed := true, recurses := true, named := ["loop.example/g01073/impl.smallPrimes"], plainKeys := false, apart := false, laid := [("loop.example/g01073/impl.smallPrimes", laid_loop_example_g01073_impl_smallPrimes)] }
def FnExactFlipNetworkSaid : Prop := fnExactFlipNetworkRow.holds Tryd.pinned (OpenSpec.ofChange fnExactFlipNetworkSpec)

/-- ITS FALSE NEIGHBOUR: 'it returns false'. Refute it at one input. -/
def fnExactFlipNetworkWrong : ChangeSpec := { name := "fnExactFlipNetwork", vars := ["loop.example/g01073/impl.smallPrimes"], fn := fun _ => fun
  | [d1, d2, g1] => { results := [.lit (.bool false)], args := [d1, d2], vars := [g1] }
  | _ => none }
def FnExactFlipNetworkWrongFalsely : Prop := fnExactFlipNetworkRow.holds Tryd.pinned (OpenSpec.ofChange fnExactFlipNetworkWrong)

/-- 'laws.FnExactLaplacianOf': WHATEVER THE INPUT: true; the input reads as it did. -/
def fnExactLaplacianOfSpec : ChangeSpec := { name := "fnExactLaplacianOf", vars := ["loop.example/g01073/impl.smallPrimes"], fn := fun _ => fun
  | [d1, d2, g1] => { results := [.lit (.bool true)], args := [d1, d2], vars := [g1] }
  | _ => none }
def fnExactLaplacianOfRow : OpenClaim := { program := "ytefolocdfgelcaadoor", sum := "27c278f0476dbe8dad6a3d244bd8c27a05a0f3396b86c2244544f34b9817d1bf", func := "loop.example/g01073/laws.FnExactLaplacianOf", spec := "fnExactLaplacianOf", unfollowed := true, recurses := true, named := ["loop.example/g01073/impl.smallPrimes"], plainKeys := false, apart := false, laid := [("loop.example/g01073/impl.smallPrimes", laid_loop_example_g01073_impl_smallPrimes)] }
def FnExactLaplacianOfSaid : Prop := fnExactLaplacianOfRow.holds Tryd.pinned (OpenSpec.ofChange fnExactLaplacianOfSpec)

/-- ITS FALSE NEIGHBOUR: 'it returns false'. Refute it at one input. -/
def fnExactLaplacianOfWrong : ChangeSpec := { name := "fnExactLaplacianOf", vars := ["loop.example/g01073/impl.smallPrimes"], fn := fun _ => fun
  | [d1, d2, g1] => { results := [.lit (.bool false)], args := [d1, d2], vars := [g1] }
  | _ => none }
def FnExactLaplacianOfWrongFalsely : Prop := fnExactLaplacianOfRow.holds Tryd.pinned (OpenSpec.ofChange fnExactLaplacianOfWrong)

/-- 'laws.FnExactMergeBranches': WHATEVER THE INPUT: true; the input reads as it did. -/
def fnExactMergeBranchesSpec : ChangeSpec := { name := "fnExactMergeBranches", vars := ["loop.example/g01073/impl.smallPrimes"], fn := fun _ => fun
  | [d1, d2, g1] => { results := [.lit (.bool true)], args := [d1, d2], vars := [g1] }
  | _ => none }
def fnExactMergeBranchesRow : OpenClaim := { program := "ytefolocdfgelcaadoor", sum := "27c278f0476dbe8dad6a3d244bd8c27a05a0f3396b86c2244544f34b9817d1bf", func := "loop.example/g01073/laws.FnExactMergeBranches", spec := "fnExactMergeBranches", unfollowed := true, recurses := true, named := ["loop.example/g01073/impl.smallPrimes"], plainKeys := false, apart := false, laid := [("loop.example/g01073/impl.smallPrimes", laid_loop_example_g01073_impl_smallPrimes)] }
def FnExactMergeBranchesSaid : Prop := fnExactMergeBranchesRow.holds Tryd.pinned (OpenSpec.ofChange fnExactMergeBranchesSpec)

/-- ITS FALSE NEIGHBOUR: 'it returns false'. Refute it at one input. -/
def fnExactMergeBranchesWrong : ChangeSpec := { name := "fnExactMergeBranches", vars := ["loop.example/g01073/impl.smallPrimes"], fn := fun _ => fun
  | [d1, d2, g1] => { results := [.lit (.bool false)], args := [d1, d2], vars := [g1] }
  | _ => none }
def FnExactMergeBranchesWrongFalsely : Prop := fnExactMergeBranchesRow.holds Tryd.pinned (OpenSpec.ofChange fnExactMergeBranchesWrong)

/-- 'laws.FnExactBesideNetworks': WHATEVER THE INPUT: true; the input reads as it did. -/
def fnExactBesideNetworksSpec : ChangeSpec := { name := "fnExactBesideNetworks", vars := ["loop.example/g01073/impl.smallPrimes"], fn := fun _ => fun
  | [d1, d2, d3, g1] => { results := [.lit (.bool true)], args := [d1, d2, d3], vars := [g1] }
  | _ => none }
def fnExactBesideNetworksRow : OpenClaim := { program := "ytefolocdfgelcaadoor", sum := "27c278f0476dbe8dad6a3d244bd8c27a05a0f3396b86c2244544f34b9817d1bf", func := "loop.example/g01073/laws.FnExactBesideNetworks", spec := "fnExactBesideNetworks", unfollowed := true, recurses := true, named := ["loop.example/g01073/impl.smallPrimes"], plainKeys := false, apart := false, laid := [("loop.example/g01073/impl.smallPrimes", laid_loop_example_g01073_impl_smallPrimes)] }
def FnExactBesideNetworksSaid : Prop := fnExactBesideNetworksRow.holds Tryd.pinned (OpenSpec.ofChange fnExactBesideNetworksSpec)

/-- ITS FALSE NEIGHBOUR: 'it returns false'. Refute it at one input. -/
def fnExactBesideNetworksWrong : ChangeSpec := { name := "fnExactBesideNetworks", vars := ["loop.example/g01073/impl.smallPrimes"], fn := fun _ => fun
  | [d1, d2, d3, g1] => { results := [.lit (.bool false)], args := [d1, d2, d3], vars := [g1] }
  | _ => none }
def FnExactBesideNetworksWrongFalsely : Prop := fnExactBesideNetworksRow.holds Tryd.pinned (OpenSpec.ofChange fnExactBesideNetworksWrong)

/-- 'laws.FnExactGlueNetworks': WHATEVER THE INPUT: true; the input reads as it did. -/
def fnExactGlueNetworksSpec : ChangeSpec := { name := "fnExactGlueNetworks", vars := ["loop.example/g01073/impl.smallPrimes"], fn := fun _ => fun
  | [d1, d2, d3, g1] => { results := [.lit (.bool true)], args := [d1, d2, d3], vars := [g1] }
  | _ => none }
def fnExactGlueNetworksRow : OpenClaim := { program := "ytefolocdfgelcaadoor", sum := "27c278f0476dbe8dad6a3d244bd8c27a05a0f3396b86c2244544f34b9817d1bf", func := "loop.example/g01073/laws.FnExactGlueNetworks", spec := "fnExactGlueNetworks", unfollowed := true, recurses := true, named := ["loop.example/g01073/impl.smallPrimes"], plainKeys := false, apart := false, laid := [("loop.example/g01073/impl.smallPrimes", laid_loop_example_g01073_impl_smallPrimes)] }
def FnExactGlueNetworksSaid : Prop := fnExactGlueNetworksRow.holds Tryd.pinned (OpenSpec.ofChange fnExactGlueNetworksSpec)

/-- ITS FALSE NEIGHBOUR: 'it returns false'. Refute it at one input. -/
def fnExactGlueNetworksWrong : ChangeSpec := { name := "fnExactGlueNetworks", vars := ["loop.example/g01073/impl.smallPrimes"], fn := fun _ => fun
  | [d1, d2, d3, g1] => { results := [.lit (.bool false)], args := [d1, d2, d3], vars := [g1] }
  | _ => none }
def FnExactGlueNetworksWrongFalsely : Prop := fnExactGlueNetworksRow.holds Tryd.pinned (OpenSpec.ofChange fnExactGlueNetworksWrong)

/-- 'laws.FnExactStarMesh': WHATEVER THE INPUT: true; the input reads as it did. -/
def fnExactStarMeshSpec : ChangeSpec := { name := "fnExactStarMesh", vars := ["loop.example/g01073/impl.smallPrimes"], fn := fun _ => fun
  | [d1, d2, d3, g1] => { results := [.lit (.bool true)], args := [d1, d2, d3], vars := [g1] }
  | _ => none }
def fnExactStarMeshRow : OpenClaim := { program := "ytefolocdfgelcaadoor", sum := "27c278f0476dbe8dad6a3d244bd8c27a05a0f3396b86c2244544f34b9817d1bf", func := "loop.example/g01073/laws.FnExactStarMesh", spec := "fnExactStarMesh", unfollowed := true, recurses := true, named := ["loop.example/g01073/impl.smallPrimes"], plainKeys := false, apart := false, laid := [("loop.example/g01073/impl.smallPrimes", laid_loop_example_g01073_impl_smallPrimes)] }
def FnExactStarMeshSaid : Prop := fnExactStarMeshRow.holds Tryd.pinned (OpenSpec.ofChange fnExactStarMeshSpec)

/-- ITS FALSE NEIGHBOUR: 'it returns false'. Refute it at one input. -/
def fnExactStarMeshWrong : ChangeSpec := { name := "fnExactStarMesh", vars := ["loop.example/g01073/impl.smallPrimes"], fn := fun _ => fun
  | [d1, d2, d3, g1] => { results := [.lit (.bool false)], args := [d1, d2, d3], vars := [g1] }
  | _ => none }
def FnExactStarMeshWrongFalsely : Prop := fnExactStarMeshRow.holds Tryd.pinned (OpenSpec.ofChange fnExactStarMeshWrong)

/-- 'laws.FnExactReduceNetwork': WHATEVER THE INPUT: true; the input reads as it did. -/
def fnExactReduceNetworkSpec : ChangeSpec := { name := "fnExactReduceNetwork", vars := ["loop.example/g01073/impl.smallPrimes"], fn := fun _ => fun
  | [d1, d2, g1] => { results := [.lit (.bool true)], args := [d1, d2], vars := [g1] }
  | _ => none }
def fnExactReduceNetworkRow : OpenClaim := { program := "ytefolocdfgelcaadoor", sum := "27c278f0476dbe8dad6a3d244bd8c27a05a0f3396b86c2244544f34b9817d1bf", func := "loop.example/g01073/laws.FnExactReduceNetwork", spec := "fnExactReduceNetwork", unfollowed := true, recurses := true, named := ["loop.example/g01073/impl.smallPrimes"], plainKeys := false, apart := false, laid := [("loop.example/g01073/impl.smallPrimes", laid_loop_example_g01073_impl_smallPrimes)] }
def FnExactReduceNetworkSaid : Prop := fnExactReduceNetworkRow.holds Tryd.pinned (OpenSpec.ofChange fnExactReduceNetworkSpec)

/-- ITS FALSE NEIGHBOUR: 'it returns false'. Refute it at one input. -/
def fnExactReduceNetworkWrong : ChangeSpec := { name := "fnExactReduceNetwork", vars := ["loop.example/g01073/impl.smallPrimes"], fn := fun _ => fun
  | [d1, d2, g1] => { results := [.lit (.bool false)], args := [d1, d2], vars := [g1] }
  | _ => none }
def FnExactReduceNetworkWrongFalsely : Prop := fnExactReduceNetworkRow.holds Tryd.pinned (OpenSpec.ofChange fnExactReduceNetworkWrong)

/- THE SECOND FORM. 'bulk': how many values and letters a reading holds, each counted each time it is reached (what is shared counts as often as it is met; a slice's spare places count too). A statement '..UptoSaid' is the law's where the arguments, and the package variables that the reading takes, are together of bulk at most 1048576: NARROWER than '..Said'. Prove '..Said' where nothing that the law and all that it calls make is longer than what came in: it says more and counts as full. Else prove '..UptoSaid'. A law counts once. -/
mutual
def uptoBulk {H : Type} : DataW H → Nat
  | .lit (.string bytes) => bytes.length + 1
  | .lit _ => 1
  | .nil => 1
  | .ptr d => uptoBulk d + 1
  | .slice elems spare => uptoBulkAll elems + uptoBulkAll spare + 1
  | .agg parts => uptoBulkAll parts + 1
  | .iface _ d => uptoBulk d + 1
  | .map entries => uptoBulkEntries entries + 1
  | .held _ => 1
def uptoBulkAll {H : Type} : List (DataW H) → Nat
  | [] => 0
  | d :: r => uptoBulk d + uptoBulkAll r
def uptoBulkEntries {H : Type} : List (Lit × DataW H) → Nat
  | [] => 0
  | x :: r => uptoBulkEntry x + uptoBulkEntries r
def uptoBulkEntry {H : Type} : Lit × DataW H → Nat
  | (.string bytes, d) => bytes.length + uptoBulk d + 1
  | (_, d) => uptoBulk d + 1
 end
def uptoSmall : (H : Type) → List (DataW H) → Bool := fun _ ds => decide (uptoBulkAll ds ≤ 1048576)
def OpenSpec.upto (s : _root_.Go.ChangeSpec) : _root_.Go.OpenSpec := { _root_.Go.OpenSpec.ofChange s with cond := some uptoSmall }

/-- 'laws.FnExactIsNetwork', WHERE WHAT IT READS IS OF BULK AT MOST 1048576: true; the input reads as it did. -/
def fnExactIsNetworkUptoRow : OpenClaim := { program := "ytefolocdfgelcaadoor", sum := "27c278f0476dbe8dad6a3d244bd8c27a05a0f3396b86c2244544f34b9817d1bf", func := "loop.example/g01073/laws.FnExactIsNetwork", spec := "fnExactIsNetwork", unfollowed := true, recurses := true, named := ["loop.example/g01073/impl.smallPrimes"], plainKeys := false, apart := false, laid := [("loop.example/g01073/impl.smallPrimes", laid_loop_example_g01073_impl_smallPrimes)], narrowed := true }
def FnExactIsNetworkUptoSaid : Prop := fnExactIsNetworkUptoRow.holds Tryd.pinned (OpenSpec.upto fnExactIsNetworkSpec)

/-- 'laws.FnExactPowerOf', WHERE WHAT IT READS IS OF BULK AT MOST 1048576: true; the input reads as it did. -/
def fnExactPowerOfUptoRow : OpenClaim := { program := "ytefolocdfgelcaadoor", sum := "27c278f0476dbe8dad6a3d244bd8c27a05a0f3396b86c2244544f34b9817d1bf", func := "loop.example/g01073/laws.FnExactPowerOf", spec := "fnExactPowerOf", unfollowed := true, recurses := true, named := ["loop.example/g01073/impl.smallPrimes"], plainKeys := false, apart := false, laid := [("loop.example/g01073/impl.smallPrimes", laid_loop_example_g01073_impl_smallPrimes)], narrowed := true }
def FnExactPowerOfUptoSaid : Prop := fnExactPowerOfUptoRow.holds Tryd.pinned (OpenSpec.upto fnExactPowerOfSpec)

/-- 'laws.FnExactFlipNetwork', WHERE WHAT IT READS IS OF BULK AT MOST 1048576: true; the input reads as it did. -/
def fnExactFlipNetworkUptoRow : OpenClaim := { program := "ytefolocdfgelcaadoor", sum := "27c278f0476dbe8dad6a3d244bd8c27a05a0f3396b86c2244544f34b9817d1bf", func := "loop.example/g01073/laws.FnExactFlipNetwork", spec := "fnExactFlipNetwork", unfollowed := true, recurses := true, named := ["loop.example/g01073/impl.smallPrimes"], plainKeys := false, apart := false, laid := [("loop.example/g01073/impl.smallPrimes", laid_loop_example_g01073_impl_smallPrimes)], narrowed := true }
def FnExactFlipNetworkUptoSaid : Prop := fnExactFlipNetworkUptoRow.holds Tryd.pinned (OpenSpec.upto fnExactFlipNetworkSpec)

/-- 'laws.FnExactLaplacianOf', WHERE WHAT IT READS IS OF BULK AT MOST 1048576: true; the input reads as it did. -/
def fnExactLaplacianOfUptoRow : OpenClaim := { program := "ytefolocdfgelcaadoor", sum := "27c278f0476dbe8dad6a3d244bd8c27a05a0f3396b86c2244544f34b9817d1bf", func := "loop.example/g01073/laws.FnExactLaplacianOf", spec := "fnExactLaplacianOf", unfollowed := true, recurses := true, named := ["loop.example/g01073/impl.smallPrimes"], plainKeys := false, apart := false, laid := [("loop.example/g01073/impl.smallPrimes", laid_loop_example_g01073_impl_smallPrimes)], narrowed := true }
def FnExactLaplacianOfUptoSaid : Prop := fnExactLaplacianOfUptoRow.holds Tryd.pinned (OpenSpec.upto fnExactLaplacianOfSpec)

/-- 'laws.FnExactMergeBranches', WHERE WHAT IT READS IS OF BULK AT MOST 1048576: true; the input reads as it did. -/
def fnExactMergeBranchesUptoRow : OpenClaim := { program := "ytefolocdfgelcaadoor", sum := "27c278f0476dbe8dad6a3d244bd8c27a05a0f3396b86c2244544f34b9817d1bf", func := "loop.example/g01073/laws.FnExactMergeBranches", spec := "fnExactMergeBranches", unfollowed := true, recurses := true, named := ["loop.example/g01073/impl.smallPrimes"], plainKeys := false, apart := false, laid := [("loop.example/g01073/impl.smallPrimes", laid_loop_example_g01073_impl_smallPrimes)], narrowed := true }
def FnExactMergeBranchesUptoSaid : Prop := fnExactMergeBranchesUptoRow.holds Tryd.pinned (OpenSpec.upto fnExactMergeBranchesSpec)

/-- 'laws.FnExactBesideNetworks', WHERE WHAT IT READS IS OF BULK AT MOST 1048576: true; the input reads as it did. -/
def fnExactBesideNetworksUptoRow : OpenClaim := { program := "ytefolocdfgelcaadoor", sum := "27c278f0476dbe8dad6a3d244bd8c27a05a0f3396b86c2244544f34b9817d1bf", func := "loop.example/g01073/laws.FnExactBesideNetworks", spec := "fnExactBesideNetworks", unfollowed := true, recurses := true, named := ["loop.example/g01073/impl.smallPrimes"], plainKeys := false, apart := false, laid := [("loop.example/g01073/impl.smallPrimes", laid_loop_example_g01073_impl_smallPrimes)], narrowed := true }
def FnExactBesideNetworksUptoSaid : Prop := fnExactBesideNetworksUptoRow.holds Tryd.pinned (OpenSpec.upto fnExactBesideNetworksSpec)

/-- 'laws.FnExactGlueNetworks', WHERE WHAT IT READS IS OF BULK AT MOST 1048576: true; the input reads as it did. -/
def fnExactGlueNetworksUptoRow : OpenClaim := { program := "ytefolocdfgelcaadoor", sum := "27c278f0476dbe8dad6a3d244bd8c27a05a0f3396b86c2244544f34b9817d1bf", func := "loop.example/g01073/laws.FnExactGlueNetworks", spec := "fnExactGlueNetworks", unfollowed := true, recurses := true, named := ["loop.example/g01073/impl.smallPrimes"], plainKeys := false, apart := false, laid := [("loop.example/g01073/impl.smallPrimes", laid_loop_example_g01073_impl_smallPrimes)], narrowed := true }
def FnExactGlueNetworksUptoSaid : Prop := fnExactGlueNetworksUptoRow.holds Tryd.pinned (OpenSpec.upto fnExactGlueNetworksSpec)

/-- 'laws.FnExactStarMesh', WHERE WHAT IT READS IS OF BULK AT MOST 1048576: true; the input reads as it did. -/
def fnExactStarMeshUptoRow : OpenClaim := { program := "ytefolocdfgelcaadoor", sum := "27c278f0476dbe8dad6a3d244bd8c27a05a0f3396b86c2244544f34b9817d1bf", func := "loop.example/g01073/laws.FnExactStarMesh", spec := "fnExactStarMesh", unfollowed := true, recurses := true, named := ["loop.example/g01073/impl.smallPrimes"], plainKeys := false, apart := false, laid := [("loop.example/g01073/impl.smallPrimes", laid_loop_example_g01073_impl_smallPrimes)], narrowed := true }
def FnExactStarMeshUptoSaid : Prop := fnExactStarMeshUptoRow.holds Tryd.pinned (OpenSpec.upto fnExactStarMeshSpec)

/-- 'laws.FnExactReduceNetwork', WHERE WHAT IT READS IS OF BULK AT MOST 1048576: true; the input reads as it did. -/
def fnExactReduceNetworkUptoRow : OpenClaim := { program := "ytefolocdfgelcaadoor", sum := "27c278f0476dbe8dad6a3d244bd8c27a05a0f3396b86c2244544f34b9817d1bf", func := "loop.example/g01073/laws.FnExactReduceNetwork", spec := "fnExactReduceNetwork", unfollowed := true, recurses := true, named := ["loop.example/g01073/impl.smallPrimes"], plainKeys := false, apart := false, laid := [("loop.example/g01073/impl.smallPrimes", laid_loop_example_g01073_impl_smallPrimes)], narrowed := true }
def FnExactReduceNetworkUptoSaid : Prop := fnExactReduceNetworkUptoRow.holds Tryd.pinned (OpenSpec.upto fnExactReduceNetworkSpec)

end Rows
end Go.Proofs.YtefolocdfgelcaaDoor
