/-
  No cell of these rows narrows 'for every input' (looked for: loops, veiled, ifaces, maps, wideKeys, modest, calm, conditions, laid).
  DERIVED. THE GIVEN ROWS OF THIS SEAT. 3 by the template 'for every input the law returns true; each argument reads behind the call as it read before'; 0 by the template 'total and deterministic' (their statements: YtegnkfmjajaecaaTotals.lean).
  GIVEN WITH THE SEED: the statements are not yours to turn. If you find one false, say at which input.
  Laid BY PROGRAM, IN A SANDBOX (cutbox-rows.mjs): the forced cells as the released guide's own fill.sh prints them over the translation f3485cd07e75a14a… (all of the seat's roots in one cut). By AI agents, Wed Nov 11 2026. No macro, syntax, notation, axiom, sorry.
-/
import Derived.Test.YtegnkfmjajaecaaChecked
import GoSem.Claim
import GoSem.ClaimJoined
import GoSem.ClaimMapViews
import Derived.JoinedTies
import Derived.KernelRfl
namespace Go.Proofs.Ytegnkfmjajaecaa
/- THE CELL 'sum', in the pinned program and in every row, IS THE sha256 OF THE DUMP (.gsa) THAT YtegnkfmjajaecaaProg.lean LOADS. Nothing in Lean hashes anything: it is a label: what it is worth is what the hold of that sum in a sandbox is worth. -/
noncomputable def Try.pinned : Pinned := { name := "ytegnkfmjajaecaa", sum := "f3485cd07e75a14a14df04ca5c4b19554ced30b2b5c1902271ffd77b863fb4f7", checked := Try.checked }
namespace Rows
def none {H : Type} : Left H := { results := [], args := [] }

/-- 'laws.FnExactCheckOf': WHATEVER THE INPUT: true; the input reads as it did. -/
def fnExactCheckOfSpec : ChangeSpec := { name := "fnExactCheckOf", fn := fun _ => fun
  | [d] => { results := [.lit (.bool true)], args := [d] }
  | _ => none }
def fnExactCheckOfRow : OpenClaim := { program := "ytegnkfmjajaecaa", sum := "f3485cd07e75a14a14df04ca5c4b19554ced30b2b5c1902271ffd77b863fb4f7", func := "loop.example/g01073/laws.FnExactCheckOf", spec := "fnExactCheckOf", apart := false }
def FnExactCheckOfSaid : Prop := fnExactCheckOfRow.holds Try.pinned (OpenSpec.ofChange fnExactCheckOfSpec)

/-- ITS FALSE NEIGHBOUR: 'it returns false'. Refute it at one input. -/
def fnExactCheckOfWrong : ChangeSpec := { name := "fnExactCheckOf", fn := fun _ => fun
  | [d] => { results := [.lit (.bool false)], args := [d] }
  | _ => none }
def FnExactCheckOfWrongFalsely : Prop := fnExactCheckOfRow.holds Try.pinned (OpenSpec.ofChange fnExactCheckOfWrong)

/-- 'laws.FnExactSyncDisk': WHATEVER THE INPUT: true; the input reads as it did. -/
def fnExactSyncDiskSpec : ChangeSpec := { name := "fnExactSyncDisk", fn := fun _ => fun
  | [d] => { results := [.lit (.bool true)], args := [d] }
  | _ => none }
def fnExactSyncDiskRow : OpenClaim := { program := "ytegnkfmjajaecaa", sum := "f3485cd07e75a14a14df04ca5c4b19554ced30b2b5c1902271ffd77b863fb4f7", func := "loop.example/g01073/laws.FnExactSyncDisk", spec := "fnExactSyncDisk", apart := false }
def FnExactSyncDiskSaid : Prop := fnExactSyncDiskRow.holds Try.pinned (OpenSpec.ofChange fnExactSyncDiskSpec)

/-- ITS FALSE NEIGHBOUR: 'it returns false'. Refute it at one input. -/
def fnExactSyncDiskWrong : ChangeSpec := { name := "fnExactSyncDisk", fn := fun _ => fun
  | [d] => { results := [.lit (.bool false)], args := [d] }
  | _ => none }
def FnExactSyncDiskWrongFalsely : Prop := fnExactSyncDiskRow.holds Try.pinned (OpenSpec.ofChange fnExactSyncDiskWrong)

/-- 'laws.FnExactCrashDisk': WHATEVER THE INPUT: true; the input reads as it did. -/
def fnExactCrashDiskSpec : ChangeSpec := { name := "fnExactCrashDisk", fn := fun _ => fun
  | [d1, d2] => { results := [.lit (.bool true)], args := [d1, d2] }
  | _ => none }
def fnExactCrashDiskRow : OpenClaim := { program := "ytegnkfmjajaecaa", sum := "f3485cd07e75a14a14df04ca5c4b19554ced30b2b5c1902271ffd77b863fb4f7", func := "loop.example/g01073/laws.FnExactCrashDisk", spec := "fnExactCrashDisk", apart := false }
def FnExactCrashDiskSaid : Prop := fnExactCrashDiskRow.holds Try.pinned (OpenSpec.ofChange fnExactCrashDiskSpec)

/-- ITS FALSE NEIGHBOUR: 'it returns false'. Refute it at one input. -/
def fnExactCrashDiskWrong : ChangeSpec := { name := "fnExactCrashDisk", fn := fun _ => fun
  | [d1, d2] => { results := [.lit (.bool false)], args := [d1, d2] }
  | _ => none }
def FnExactCrashDiskWrongFalsely : Prop := fnExactCrashDiskRow.holds Try.pinned (OpenSpec.ofChange fnExactCrashDiskWrong)

/- THE SECOND FORM. 'bulk': how many values and letters a reading holds, each counted each time it is reached (what is shared counts as often as it is met; a slice's spare places count too). A statement '..UptoSaid' is the law's where the arguments, and the package variables that the reading takes, are together of bulk at most 1048576: NARROWER than '..Said'. Prove '..Said' where nothing that the law and all that it calls make is longer than what came in: it says more and counts as full. Else prove '..UptoSaid'. A law counts once. -/
mutual
def uptoBulk {H : Type} : DataW H → Nat
  | .lit (.string bytes) => bytes.length + 1
  | .lit _ => 1
  | .nil => 1
  | .ptr d => uptoBulk d + 1
  | .slice elems spare => uptoBulkAll elems + uptoBulkAll spare + 1
  | .agg parts => uptoBulkAll parts + 1
  | .iface _ d => uptoBulk d + 1
  | .map entries => uptoBulkEntries entries + 1
  | .held _ => 1
def uptoBulkAll {H : Type} : List (DataW H) → Nat
  | [] => 0
  | d :: r => uptoBulk d + uptoBulkAll r
def uptoBulkEntries {H : Type} : List (Lit × DataW H) → Nat
  | [] => 0
  | x :: r => uptoBulkEntry x + uptoBulkEntries r
def uptoBulkEntry {H : Type} : Lit × DataW H → Nat
  | (.string bytes, d) => bytes.length + uptoBulk d + 1
  | (_, d) => uptoBulk d + 1
 end
def uptoSmall : (H : Type) → List (DataW H) → Bool := fun _ ds => decide (uptoBulkAll ds ≤ 1048576)
def OpenSpec.upto (s : _root_.Go.ChangeSpec) : _root_.Go.OpenSpec := { _root_.Go.OpenSpec.ofChange s with cond := some uptoSmall }

/-- 'laws.FnExactCheckOf', WHERE WHAT IT READS IS OF BULK AT MOST 1048576: true; the input reads as it did. -/
def fnExactCheckOfUptoRow : OpenClaim := { program := "ytegnkfmjajaecaa", sum := "f3485cd07e75a14a14df04ca5c4b19554ced30b2b5c1902271ffd77b863fb4f7", func := "loop.example/g01073/laws.FnExactCheckOf", spec := "fnExactCheckOf", apart := false, narrowed := true }
def FnExactCheckOfUptoSaid : Prop := fnExactCheckOfUptoRow.holds Try.pinned (OpenSpec.upto fnExactCheckOfSpec)

/-- 'laws.FnExactSyncDisk', WHERE WHAT IT READS IS OF BULK AT MOST 1048576: true; the input reads as it did. -/
def fnExactSyncDiskUptoRow : OpenClaim := { program := "ytegnkfmjajaecaa", sum := "f3485cd07e75a14a14df04ca5c4b19554ced30b2b5c1902271ffd77b863fb4f7", func := "loop.example/g01073/laws.FnExactSyncDisk", spec := "fnExactSyncDisk", apart := false, narrowed := true }
def FnExactSyncDiskUptoSaid : Prop := fnExactSyncDiskUptoRow.holds Try.pinned (OpenSpec.upto fnExactSyncDiskSpec)

/-- 'laws.FnExactCrashDisk', WHERE WHAT IT READS IS OF BULK AT MOST 1048576: true; the input reads as it did. -/
def fnExactCrashDiskUptoRow : OpenClaim := { program := "ytegnkfmjajaecaa", sum := "f3485cd07e75a14a14df04ca5c4b19554ced30b2b5c1902271ffd77b863fb4f7", func := "loop.example/g01073/laws.FnExactCrashDisk", spec := "fnExactCrashDisk", apart := false, narrowed := true }
def FnExactCrashDiskUptoSaid : Prop := fnExactCrashDiskUptoRow.holds Try.pinned (OpenSpec.upto fnExactCrashDiskSpec)

end Rows
end Go.Proofs.Ytegnkfmjajaecaa
