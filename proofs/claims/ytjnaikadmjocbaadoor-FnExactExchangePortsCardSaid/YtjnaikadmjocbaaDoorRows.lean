/-
  NARROWER THAN 'FOR EVERY INPUT', by the rows' own cells (each row's printed sentence says how): FnExactInputChoices: laid · FnExactExchangePorts: laid.
  DERIVED. THE GIVEN ROWS OF THIS SEAT. 2 by the template 'for every input the law returns true; each argument reads behind the call as it read before'; 0 by the template 'total and deterministic' (their statements: YtjnaikadmjocbaaDoorTotals.lean).
  GIVEN WITH THE SEED: the statements are not yours to turn. If you find one false, say at which input.
  Laid BY PROGRAM, IN A SANDBOX (cutbox-rows.mjs): the forced cells as the released guide's own fill.sh prints them over the translation 94fae7e02bd00fc3… (all of the seat's roots in one cut). By AI agents, Wed Nov 11 2026. No macro, syntax, notation, axiom, sorry.
-/
import Derived.Test.YtjnaikadmjocbaaDoorChecked
import GoSem.Claim
import GoSem.ClaimJoined
import GoSem.ClaimMapViews
import Derived.JoinedTies
import Derived.KernelRfl
namespace Go.Proofs.YtjnaikadmjocbaaDoor
/- THE CELL 'sum', in the pinned program and in every row, IS THE sha256 OF THE DUMP (.gsa) THAT YtjnaikadmjocbaaDoorProg.lean LOADS. Nothing in Lean hashes anything: it is a label: what it is worth is what the hold of that sum in a sandbox is worth. -/
noncomputable def Tryd.pinned : Pinned := { name := "ytjnaikadmjocbaadoor", sum := "94fae7e02bd00fc3d5c5052ab261d2228496b2636b5b5a2f0d755232bfac3022", checked := Tryd.checked }
namespace Rows
def none {H : Type} : Left H := { results := [], args := [] }

/- WHAT THE LISTED PACKAGE-LEVEL VARIABLES READ AS WHEN THE CALL BEGINS. Each datum BY PROGRAM (the guide's laid-datum.mjs) off the statement by which the dump's own 'gosem.cut.vars' lays the variable. In a bare row this is a premise. The card (YtjnaikadmjocbaaDoorCards.lean) ties it to the program's text. -/
def laid_loop_example_g01073_impl_smallPrimes {H : Type} : DataW H := .agg [.lit (.int .i64 2), .lit (.int .i64 3), .lit (.int .i64 5), .lit (.int .i64 7)]

/-- 'laws.FnExactInputChoices': WHATEVER THE INPUT: true; the input reads as it did. -/
def fnExactInputChoicesSpec : ChangeSpec := { name := "fnExactInputChoices", vars := ["loop.example/g01073/impl.smallPrimes"], fn := fun _ => fun
  | [d1, d2, g1] => { results := [.lit (.bool true)], args := [d1, d2], vars := [g1] }
  | _ => none }
def fnExactInputChoicesRow : OpenClaim := { program := "ytjnaikadmjocbaadoor", sum := "94fae7e02bd00fc3d5c5052ab261d2228496b2636b5b5a2f0d755232bfac3022", func := "loop.example/g01073/laws.FnExactInputChoices", spec := "fnExactInputChoices", unfollowed := true, recurses := true, named := ["loop.example/g01073/impl.smallPrimes"], apart := false, laid := [("loop.example/g01073/impl.smallPrimes", laid_loop_example_g01073_impl_smallPrimes)] }
def FnExactInputChoicesSaid : Prop := fnExactInputChoicesRow.holds Tryd.pinned (OpenSpec.ofChange fnExactInputChoicesSpec)

/-- ITS FALSE NEIGHBOUR: 'it returns false'. Refute it at one input. -/
def fnExactInputChoicesWrong : ChangeSpec := { name := "fnExactInputChoices", vars := ["loop.example/g01073/impl.smallPrimes"], fn := fun _ => fun
  | [d1, d2, g1] => { results := [.lit (.bool false)], args := [d1, d2], vars := [g1] }
  | _ => none }
def FnExactInputChoicesWrongFalsely : Prop := fnExactInputChoicesRow.holds Tryd.pinned (OpenSpec.ofChange fnExactInputChoicesWrong)

/-- 'laws.FnExactExchangePorts': WHATEVER THE INPUT: true; the input reads as it did. -/
def fnExactExchangePortsSpec : ChangeSpec := { name := "fnExactExchangePorts", vars := ["loop.example/g01073/impl.smallPrimes"], fn := fun _ => fun
  | [d1, d2, d3, d4, d5, g1] => { results := [.lit (.bool true)], args := [d1, d2, d3, d4, d5], vars := [g1] }
  | _ => none }
def fnExactExchangePortsRow : OpenClaim := { program := "ytjnaikadmjocbaadoor", sum := "94fae7e02bd00fc3d5c5052ab261d2228496b2636b5b5a2f0d755232bfac3022", func := "loop.example/g01073/laws.FnExactExchangePorts", spec := "fnExactExchangePorts", unfollowed := true, recurses := true, named := ["loop.example/g01073/impl.smallPrimes"], apart := false, laid := [("loop.example/g01073/impl.smallPrimes", laid_loop_example_g01073_impl_smallPrimes)] }
def FnExactExchangePortsSaid : Prop := fnExactExchangePortsRow.holds Tryd.pinned (OpenSpec.ofChange fnExactExchangePortsSpec)

/-- ITS FALSE NEIGHBOUR: 'it returns false'. Refute it at one input. -/
def fnExactExchangePortsWrong : ChangeSpec := { name := "fnExactExchangePorts", vars := ["loop.example/g01073/impl.smallPrimes"], fn := fun _ => fun
  | [d1, d2, d3, d4, d5, g1] => { results := [.lit (.bool false)], args := [d1, d2, d3, d4, d5], vars := [g1] }
  | _ => none }
def FnExactExchangePortsWrongFalsely : Prop := fnExactExchangePortsRow.holds Tryd.pinned (OpenSpec.ofChange fnExactExchangePortsWrong)

/- THE SECOND FORM. 'bulk': how many values and letters a reading holds, each counted each time it is reached (what is shared counts as often as it is met; a slice's spare places count too). A statement '..UptoSaid' is the law's where the arguments, and the package variables that the reading takes, are together of bulk at most 1048576: NARROWER than '..Said'. Prove '..Said' where nothing that the law and all that it calls make is longer than what came in: it says more and counts as full. Else prove '..UptoSaid'. A law counts once. -/
mutual
def uptoBulk {H : Type} : DataW H → Nat
  | .lit (.string bytes) => bytes.length + 1
  | .lit _ => 1
  | .nil => 1
  | .ptr d => uptoBulk d + 1
  | .slice elems spare => uptoBulkAll elems + uptoBulkAll spare + 1
  | .agg parts => uptoBulkAll parts + 1
  | .iface _ d => uptoBulk d + 1
  | .map entries => uptoBulkEntries entries + 1
  | .held _ => 1
def uptoBulkAll {H : Type} : List (DataW H) → Nat
  | [] => 0
  | d :: r => uptoBulk d + uptoBulkAll r
def uptoBulkEntries {H : Type} : List (Lit × DataW H) → Nat
  | [] => 0
  | x :: r => uptoBulkEntry x + uptoBulkEntries r
def uptoBulkEntry {H : Type} : Lit × DataW H → Nat
  | (.string bytes, d) => bytes.length + uptoBulk d + 1
  | (_, d) => uptoBulk d + 1
 end
def uptoSmall : (H : Type) → List (DataW H) → Bool := fun _ ds => decide (uptoBulkAll ds ≤ 1048576)
def OpenSpec.upto (s : _root_.Go.ChangeSpec) : _root_.Go.OpenSpec := { _root_.Go.OpenSpec.ofChange s with cond := some uptoSmall }

/-- 'laws.FnExactInputChoices', WHERE WHAT IT READS IS OF BULK AT MOST 1048576: true; the input reads as it did. -/
def fnExactInputChoicesUptoRow : OpenClaim := { program := "ytjnaikadmjocbaadoor", sum := "94fae7e02bd00fc3d5c5052ab261d2228496b2636b5b5a2f0d755232bfac3022", func := "loop.example/g01073/laws.FnExactInputChoices", spec := "fnExactInputChoices", unfollowed := true, recurses := true, named := ["loop.example/g01073/impl.smallPrimes"], apart := false, laid := [("loop.example/g01073/impl.smallPrimes", laid_loop_example_g01073_impl_smallPrimes)], narrowed := true }
def FnExactInputChoicesUptoSaid : Prop := fnExactInputChoicesUptoRow.holds Tryd.pinned (OpenSpec.upto fnExactInputChoicesSpec)

/-- 'laws.FnExactExchangePorts', WHERE WHAT IT READS IS OF BULK AT MOST 1048576: true; the input reads as it did. -/
def fnExactExchangePortsUptoRow : OpenClaim := { program := "ytjnaikadmjocbaadoor", sum := "94fae7e02bd00fc3d5c5052ab261d2228496b2636b5b5a2f0d755232bfac3022", func := "loop.example/g01073/laws.FnExactExchangePorts", spec := "fnExactExchangePorts", unfollowed := true, recurses := true, named := ["loop.example/g01073/impl.smallPrimes"], apart := false, laid := [("loop.example/g01073/impl.smallPrimes", laid_loop_example_g01073_impl_smallPrimes)], narrowed := true }
def FnExactExchangePortsUptoSaid : Prop := fnExactExchangePortsUptoRow.holds Tryd.pinned (OpenSpec.upto fnExactExchangePortsSpec)

end Rows
end Go.Proofs.YtjnaikadmjocbaaDoor
