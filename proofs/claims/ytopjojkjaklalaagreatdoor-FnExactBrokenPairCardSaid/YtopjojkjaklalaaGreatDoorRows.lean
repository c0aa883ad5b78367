/-
  NARROWER THAN 'FOR EVERY INPUT', by the rows' own cells (each row's printed sentence says how): FnExactKeepsPromise: ifaces, laid · FnExactBrokenPair: laid.
  DERIVED. THE GIVEN ROWS OF THIS SEAT. 2 by the template 'for every input the law returns true; each argument reads behind the call as it read before'; 0 by the template 'total and deterministic' (their statements: YtopjojkjaklalaaGreatDoorTotals.lean).
  GIVEN WITH THE SEED: the statements are not yours to turn. If you find one false, say at which input.
  Laid BY PROGRAM, IN A SANDBOX (cutbox-rows.mjs): the forced cells as the released guide's own fill.sh prints them over the translation 751a723ab1508ce8… (all of the seat's roots in one cut). By AI agents, Wed Nov 11 2026. No macro, syntax, notation, axiom, sorry.
-/
import Derived.Test.YtopjojkjaklalaaGreatDoorChecked
import GoSem.Claim
import GoSem.ClaimJoined
import GoSem.ClaimMapViews
import Derived.JoinedTies
import Derived.KernelRfl
namespace Go.Proofs.YtopjojkjaklalaaGreatDoor
/- THE CELL 'sum', in the pinned program and in every row, IS THE sha256 OF THE DUMP (.gsa) THAT YtopjojkjaklalaaGreatDoorProg.lean LOADS. Nothing in Lean hashes anything: it is a label: what it is worth is what the hold of that sum in a sandbox is worth. -/
noncomputable def Tryz.pinned : Pinned := { name := "ytopjojkjaklalaagreatdoor", sum := "751a723ab1508ce8130a4b652523b6295f3a63dd159baebcc6e3f614b1794415", checked := Tryz.checked }
namespace Rows
def none {H : Type} : Left H := { results := [], args := [] }

/- WHAT THE LISTED PACKAGE-LEVEL VARIABLES READ AS WHEN THE CALL BEGINS. Each datum BY PROGRAM (the guide's laid-datum.mjs) off the statement by which the dump's own 'gosem.cut.vars' lays the variable. In a bare row this is a premise. The card (YtopjojkjaklalaaGreatDoorCards.lean) ties it to the program's text. -/
def laid_loop_example_g01073_impl_smallPrimes {H : Type} : DataW H := .agg [.lit (.int .i64 2), .lit (.int .i64 3), .lit (.int .i64 5), .lit (.int .i64 7)]
def laid_loop_example_g01073_impl_errBroken {H : Type} : DataW H := .iface "*errors.errorString" (.ptr (.agg [.lit (.string [98, 114, 111, 107, 101, 110, 32, 112, 114, 111, 109, 105, 115, 101])]))
def laid_errors_errorType {H : Type} : DataW H := .iface "internal/reflectlite.rtype" (.agg [.ptr (.lit (.string [101, 114, 114, 111, 114]))])

/-- 'laws.FnExactKeepsPromise': WHATEVER THE INPUT: true; the input reads as it did. -/
def fnExactKeepsPromiseSpec : ChangeSpec := { name := "fnExactKeepsPromise", vars := ["loop.example/g01073/impl.errBroken", "loop.example/g01073/impl.smallPrimes"], fn := fun _ => fun
  | [d1, d2, g1, g2] => { results := [.lit (.bool true)], args := [d1, d2], vars := [g1, g2] }
  | _ => none }
def fnExactKeepsPromiseRow : OpenClaim := { program := "ytopjojkjaklalaagreatdoor", sum := "751a723ab1508ce8130a4b652523b6295f3a63dd159baebcc6e3f614b1794415", func := "loop.example/g01073/laws.FnExactKeepsPromise", spec := "fnExactKeepsPromise", inPlace := ["internal/reflectlite.TypeOf"], unfollowed := true, recurses := true, named := ["loop.example/g01073/impl.errBroken", "loop.example/g01073/impl.smallPrimes"], ifaces := true, apart := false, laid := [("loop.example/g01073/impl.smallPrimes", laid_loop_example_g01073_impl_smallPrimes), ("loop.example/g01073/impl.errBroken", laid_loop_example_g01073_impl_errBroken)] }
def FnExactKeepsPromiseSaid : Prop := fnExactKeepsPromiseRow.holds Tryz.pinned (OpenSpec.ofChange fnExactKeepsPromiseSpec)

/-- ITS FALSE NEIGHBOUR: 'it returns false'. Refute it at one input. -/
def fnExactKeepsPromiseWrong : ChangeSpec := { name := "fnExactKeepsPromise", vars := ["loop.example/g01073/impl.errBroken", "loop.example/g01073/impl.smallPrimes"], fn := fun _ => fun
  | [d1, d2, g1, g2] => { results := [.lit (.bool false)], args := [d1, d2], vars := [g1, g2] }
  | _ => none }
def FnExactKeepsPromiseWrongFalsely : Prop := fnExactKeepsPromiseRow.holds Tryz.pinned (OpenSpec.ofChange fnExactKeepsPromiseWrong)

/-- 'laws.FnExactBrokenPair': WHATEVER THE INPUT: true; the input reads as it did. -/
def fnExactBrokenPairSpec : ChangeSpec := { name := "fnExactBrokenPair", vars := ["loop.example/g01073/impl.smallPrimes"], fn := fun _ => fun
  | [d1, d2, g1] => { results := [.lit (.bool true)], args := [d1, d2], vars := [g1] }
  | _ => none }
def fnExactBrokenPairRow : OpenClaim := { program := "ytopjojkjaklalaagreatdoor", sum := "751a723ab1508ce8130a4b652523b6295f3a63dd159baebcc6e3f614b1794415", func := "loop.example/g01073/laws.FnExactBrokenPair", spec := "fnExactBrokenPair", inPlace := ["internal/reflectlite.ValueOf", "(internal/reflectlite.Value).Type", "(internal/reflectlite.Value).IsNil", "internal/reflectlite.TypeOf", "(internal/reflectlite.Value).Elem", "(internal/reflectlite.Value).Set"], unfollowed := true, recurses := true, named := ["loop.example/g01073/impl.smallPrimes", "errors.errorType"], apart := false, laid := [("errors.errorType", laid_errors_errorType), ("loop.example/g01073/impl.smallPrimes", laid_loop_example_g01073_impl_smallPrimes)] }
def FnExactBrokenPairSaid : Prop := fnExactBrokenPairRow.holds Tryz.pinned (OpenSpec.ofChange fnExactBrokenPairSpec)

/-- ITS FALSE NEIGHBOUR: 'it returns false'. Refute it at one input. -/
def fnExactBrokenPairWrong : ChangeSpec := { name := "fnExactBrokenPair", vars := ["loop.example/g01073/impl.smallPrimes"], fn := fun _ => fun
  | [d1, d2, g1] => { results := [.lit (.bool false)], args := [d1, d2], vars := [g1] }
  | _ => none }
def FnExactBrokenPairWrongFalsely : Prop := fnExactBrokenPairRow.holds Tryz.pinned (OpenSpec.ofChange fnExactBrokenPairWrong)

/- THE SECOND FORM. 'bulk': how many values and letters a reading holds, each counted each time it is reached (what is shared counts as often as it is met; a slice's spare places count too). A statement '..UptoSaid' is the law's where the arguments, and the package variables that the reading takes, are together of bulk at most 1048576: NARROWER than '..Said'. Prove '..Said' where nothing that the law and all that it calls make is longer than what came in: it says more and counts as full. Else prove '..UptoSaid'. A law counts once. -/
mutual
def uptoBulk {H : Type} : DataW H → Nat
  | .lit (.string bytes) => bytes.length + 1
  | .lit _ => 1
  | .nil => 1
  | .ptr d => uptoBulk d + 1
  | .slice elems spare => uptoBulkAll elems + uptoBulkAll spare + 1
  | .agg parts => uptoBulkAll parts + 1
  | .iface _ d => uptoBulk d + 1
  | .map entries => uptoBulkEntries entries + 1
  | .held _ => 1
def uptoBulkAll {H : Type} : List (DataW H) → Nat
  | [] => 0
  | d :: r => uptoBulk d + uptoBulkAll r
def uptoBulkEntries {H : Type} : List (Lit × DataW H) → Nat
  | [] => 0
  | x :: r => uptoBulkEntry x + uptoBulkEntries r
def uptoBulkEntry {H : Type} : Lit × DataW H → Nat
  | (.string bytes, d) => bytes.length + uptoBulk d + 1
  | (_, d) => uptoBulk d + 1
 end
def uptoSmall : (H : Type) → List (DataW H) → Bool := fun _ ds => decide (uptoBulkAll ds ≤ 1048576)
def OpenSpec.upto (s : _root_.Go.ChangeSpec) : _root_.Go.OpenSpec := { _root_.Go.OpenSpec.ofChange s with cond := some uptoSmall }

/-- 'laws.FnExactKeepsPromise', WHERE WHAT IT READS IS OF BULK AT MOST 1048576: true; the input reads as it did. -/
def fnExactKeepsPromiseUptoRow : OpenClaim := { program := "ytopjojkjaklalaagreatdoor", sum := "751a723ab1508ce8130a4b652523b6295f3a63dd159baebcc6e3f614b1794415", func := "loop.example/g01073/laws.FnExactKeepsPromise", spec := "fnExactKeepsPromise", inPlace := ["internal/reflectlite.TypeOf"], unfollowed := true, recurses := true, named := ["loop.example/g01073/impl.errBroken", "loop.example/g01073/impl.smallPrimes"], ifaces := true, apart := false, laid := [("loop.example/g01073/impl.smallPrimes", laid_loop_example_g01073_impl_smallPrimes), ("loop.example/g01073/impl.errBroken", laid_loop_example_g01073_impl_errBroken)], narrowed := true }
def FnExactKeepsPromiseUptoSaid : Prop := fnExactKeepsPromiseUptoRow.holds Tryz.pinned (OpenSpec.upto fnExactKeepsPromiseSpec)

/-- 'laws.FnExactBrokenPair', WHERE WHAT IT READS IS OF BULK AT MOST 1048576: true; the input reads as it did. -/
def fnExactBrokenPairUptoRow : OpenClaim := { program := "ytopjojkjaklalaagreatdoor", sum := "751a723ab1508ce8130a4b652523b6295f3a63dd159baebcc6e3f614b1794415", func := "loop.example/g01073/laws.FnExactBrokenPair", spec := "fnExactBrokenPair", inPlace := ["internal/reflectlite.ValueOf", "(internal/reflectlite.Value).Type", "(internal/reflectlite.Value).IsNil", "internal/reflectlite.TypeOf", "(internal/reflectlite.Value).Elem", "(internal/reflectlite.Value).Set"], unfollowed := true, recurses := true, named := ["loop.example/g01073/impl.smallPrimes", "errors.errorType"], apart := false, laid := [("errors.errorType", laid_errors_errorType), ("loop.example/g01073/impl.smallPrimes", laid_loop_example_g01073_impl_smallPrimes)], narrowed := true }
def FnExactBrokenPairUptoSaid : Prop := fnExactBrokenPairUptoRow.holds Tryz.pinned (OpenSpec.upto fnExactBrokenPairSpec)

end Rows
end Go.Proofs.YtopjojkjaklalaaGreatDoor
