/-
  NARROWER THAN 'FOR EVERY INPUT', by the rows' own cells (each row's printed sentence says how): FnExactCountGates: laid · FnExactFeedbackOf: laid · FnExactSpreadDelay: laid · FnExactRetimeGate: laid · FnExactStepCircuit: laid · FnExactParCircuits: laid · FnExactFoldZeros: laid.
  DERIVED. THE GIVEN ROWS OF THIS SEAT. 7 by the template 'for every input the law returns true; each argument reads behind the call as it read before'; 0 by the template 'total and deterministic' (their statements: YthjdknddcceigaaDoorTotals.lean).
  GIVEN WITH THE SEED: the statements are not yours to turn. If you find one false, say at which input.
  Laid BY PROGRAM, IN A SANDBOX (cutbox-rows.mjs): the forced cells as the released guide's own fill.sh prints them over the translation 9a45e6bbb99f5fa2… (all of the seat's roots in one cut). By AI agents, Wed Nov 11 2026. No macro, syntax, notation, axiom, sorry.
-/
import Derived.Test.YthjdknddcceigaaDoorChecked
import GoSem.Claim
import GoSem.ClaimJoined
import GoSem.ClaimMapViews
import Derived.JoinedTies
import Derived.KernelRfl
namespace Go.Proofs.YthjdknddcceigaaDoor
/- THE CELL 'sum', in the pinned program and in every row, IS THE sha256 OF THE DUMP (.gsa) THAT YthjdknddcceigaaDoorProg.lean LOADS. Nothing in Lean hashes anything: it is a label: what it is worth is what the hold of that sum in a sandbox is worth. -/
noncomputable def Tryd.pinned : Pinned := { name := "ythjdknddcceigaadoor", sum := "9a45e6bbb99f5fa2545a4a7441986aa55bf6306607f2e6df8df1933f8637f98f", checked := Tryd.checked }
namespace Rows
def none {H : Type} : Left H := { results := [], args := [] }

/- WHAT THE LISTED PACKAGE-LEVEL VARIABLES READ AS WHEN THE CALL BEGINS. Each datum BY PROGRAM (the guide's laid-datum.mjs) off the statement by which the dump's own 'gosem.cut.vars' lays the variable. In a bare row this is a premise. The card (YthjdknddcceigaaDoorCards.lean) ties it to the program's text. -/
def laid_loop_example_g01073_impl_smallPrimes {H : Type} : DataW H := .agg [.lit (.int .i64 2), .lit (.int .i64 3), .lit (.int .i64 5), .lit (.int .i64 7)]

/-- 'laws.FnExactCountGates': WHATEVER THE INPUT: true; the input reads as it did. -/
def fnExactCountGatesSpec : ChangeSpec := { name := "fnExactCountGates", vars := ["loop.example/g01073/impl.smallPrimes"], fn := fun _ => fun
  | [d1, d2, g1] => { results := [.lit (.bool true)], args := [d1, d2], vars := [g1] }
  | _ => none }
def fnExactCountGatesRow : OpenClaim := { program := "ythjdknddcceigaadoor", sum := "9a45e6bbb99f5fa2545a4a7441986aa55bf6306607f2e6df8df1933f8637f98f", func := "loop.example/g01073/laws.FnExactCountGates", spec := "fnExactCountGates", unfollowed := true, recurses := true, named := ["loop.example/g01073/impl.smallPrimes"], apart := false, laid := [("loop.example/g01073/impl.smallPrimes", laid_loop_example_g01073_impl_smallPrimes)] }
def FnExactCountGatesSaid : Prop := fnExactCountGatesRow.holds Tryd.pinned (OpenSpec.ofChange fnExactCountGatesSpec)

/-- ITS FALSE NEIGHBOUR: 'it returns false'. Refute it at one input. -/
def fnExactCountGatesWrong : ChangeSpec := { name := "fnExactCountGates", vars := ["loop.example/g01073/impl.smallPrimes"], fn := fun _ => fun
  | [d1, d2, g1] => { results := [.lit (.bool false)], args := [d1, d2], vars := [g1] }
  | _ => none }
def FnExactCountGatesWrongFalsely : Prop := fnExactCountGatesRow.holds Tryd.pinned (OpenSpec.ofChange fnExactCountGatesWrong)

/-- 'laws.FnExactFeedbackOf': WHATEVER THE INPUT: true; the input reads as it did. -/
def fnExactFeedbackOfSpec : ChangeSpec := { name := "fnExactFeedbackOf", vars := ["loop.example/g01073/impl.smallPrimes"], fn := fun _ => fun
  | [d1, d2, d3, g1] => { results := [.lit (.bool true)], args := [d1, d2, d3], vars := [g1] }
  | _ => none }
def fnExactFeedbackOfRow : OpenClaim := { program := "ythjdknddcceigaadoor", sum := "9a45e6bbb99f5fa2545a4a7441986aa55bf6306607f2e6df8df1933f8637f98f", func := "loop.example/g01073/laws.FnExactFeedbackOf", spec := "fnExactFeedbackOf", unfollowed := true, recurses := true, named := ["loop.example/g01073/impl.smallPrimes"], apart := false, laid := [("loop.example/g01073/impl.smallPrimes", laid_loop_example_g01073_impl_smallPrimes)] }
def FnExactFeedbackOfSaid : Prop := fnExactFeedbackOfRow.holds Tryd.pinned (OpenSpec.ofChange fnExactFeedbackOfSpec)

/-- ITS FALSE NEIGHBOUR: 'it returns false'. Refute it at one input. -/
def fnExactFeedbackOfWrong : ChangeSpec := { name := "fnExactFeedbackOf", vars := ["loop.example/g01073/impl.smallPrimes"], fn := fun _ => fun
  | [d1, d2, d3, g1] => { results := [.lit (.bool false)], args := [d1, d2, d3], vars := [g1] }
  | _ => none }
def FnExactFeedbackOfWrongFalsely : Prop := fnExactFeedbackOfRow.holds Tryd.pinned (OpenSpec.ofChange fnExactFeedbackOfWrong)

/-- 'laws.FnExactSpreadDelay': WHATEVER THE INPUT: true; the input reads as it did. -/
def fnExactSpreadDelaySpec : ChangeSpec := { name := "fnExactSpreadDelay", vars := ["loop.example/g01073/impl.smallPrimes"], fn := fun _ => fun
  | [d1, d2, d3, g1] => { results := [.lit (.bool true)], args := [d1, d2, d3], vars := [g1] }
  | _ => none }
def fnExactSpreadDelayRow : OpenClaim := { program := "ythjdknddcceigaadoor", sum := "9a45e6bbb99f5fa2545a4a7441986aa55bf6306607f2e6df8df1933f8637f98f", func := "loop.example/g01073/laws.FnExactSpreadDelay", spec := "fnExactSpreadDelay", unfollowed := true, recurses := true, named := ["loop.example/g01073/impl.smallPrimes"], apart := false, laid := [("loop.example/g01073/impl.smallPrimes", laid_loop_example_g01073_impl_smallPrimes)] }
def FnExactSpreadDelaySaid : Prop := fnExactSpreadDelayRow.holds Tryd.pinned (OpenSpec.ofChange fnExactSpreadDelaySpec)

/-- ITS FALSE NEIGHBOUR: 'it returns false'. Refute it at one input. -/
def fnExactSpreadDelayWrong : ChangeSpec := { name := "fnExactSpreadDelay", vars := ["loop.example/g01073/impl.smallPrimes"], fn := fun _ => fun
  | [d1, d2, d3, g1] => { results := [.lit (.bool false)], args := [d1, d2, d3], vars := [g1] }
  | _ => none }
def FnExactSpreadDelayWrongFalsely : Prop := fnExactSpreadDelayRow.holds Tryd.pinned (OpenSpec.ofChange fnExactSpreadDelayWrong)

/-- 'laws.FnExactRetimeGate': WHATEVER THE INPUT: true; the input reads as it did. -/
def fnExactRetimeGateSpec : ChangeSpec := { name := "fnExactRetimeGate", vars := ["loop.example/g01073/impl.smallPrimes"], fn := fun _ => fun
  | [d1, d2, d3, g1] => { results := [.lit (.bool true)], args := [d1, d2, d3], vars := [g1] }
  | _ => none }
def fnExactRetimeGateRow : OpenClaim := { program := "ythjdknddcceigaadoor", sum := "9a45e6bbb99f5fa2545a4a7441986aa55bf6306607f2e6df8df1933f8637f98f", func := "loop.example/g01073/laws.FnExactRetimeGate", spec := "fnExactRetimeGate", unfollowed := true, recurses := true, named := ["loop.example/g01073/impl.smallPrimes"], apart := false, laid := [("loop.example/g01073/impl.smallPrimes", laid_loop_example_g01073_impl_smallPrimes)] }
def FnExactRetimeGateSaid : Prop := fnExactRetimeGateRow.holds Tryd.pinned (OpenSpec.ofChange fnExactRetimeGateSpec)

/-- ITS FALSE NEIGHBOUR: 'it returns false'. Refute it at one input. -/
def fnExactRetimeGateWrong : ChangeSpec := { name := "fnExactRetimeGate", vars := ["loop.example/g01073/impl.smallPrimes"], fn := fun _ => fun
  | [d1, d2, d3, g1] => { results := [.lit (.bool false)], args := [d1, d2, d3], vars := [g1] }
  | _ => none }
def FnExactRetimeGateWrongFalsely : Prop := fnExactRetimeGateRow.holds Tryd.pinned (OpenSpec.ofChange fnExactRetimeGateWrong)

/-- 'laws.FnExactStepCircuit': WHATEVER THE INPUT: true; the input reads as it did. -/
def fnExactStepCircuitSpec : ChangeSpec := { name := "fnExactStepCircuit", vars := ["loop.example/g01073/impl.smallPrimes"], fn := fun _ => fun
  | [d1, d2, d3, d4, g1] => { results := [.lit (.bool true)], args := [d1, d2, d3, d4], vars := [g1] }
  | _ => none }
def fnExactStepCircuitRow : OpenClaim := { program := "ythjdknddcceigaadoor", sum := "9a45e6bbb99f5fa2545a4a7441986aa55bf6306607f2e6df8df1933f8637f98f", func := "loop.example/g01073/laws.FnExactStepCircuit", spec := "fnExactStepCircuit", unfollowed := true, recurses := true, named := ["loop.example/g01073/impl.smallPrimes"], apart := false, laid := [("loop.example/g01073/impl.smallPrimes", laid_loop_example_g01073_impl_smallPrimes)] }
def FnExactStepCircuitSaid : Prop := fnExactStepCircuitRow.holds Tryd.pinned (OpenSpec.ofChange fnExactStepCircuitSpec)

/-- ITS FALSE NEIGHBOUR: 'it returns false'. Refute it at one input. -/
def fnExactStepCircuitWrong : ChangeSpec := { name := "fnExactStepCircuit", vars := ["loop.example/g01073/impl.smallPrimes"], fn := fun _ => fun
  | [d1, d2, d3, d4, g1] => { results := [.lit (.bool false)], args := [d1, d2, d3, d4], vars := [g1] }
  | _ => none }
def FnExactStepCircuitWrongFalsely : Prop := fnExactStepCircuitRow.holds Tryd.pinned (OpenSpec.ofChange fnExactStepCircuitWrong)

/-- 'laws.FnExactParCircuits': WHATEVER THE INPUT: true; the input reads as it did. -/
def fnExactParCircuitsSpec : ChangeSpec := { name := "fnExactParCircuits", vars := ["loop.example/g01073/impl.smallPrimes"], fn := fun _ => fun
  | [d1, d2, d3, g1] => { results := [.lit (.bool true)], args := [d1, d2, d3], vars := [g1] }
  | _ => none }
def fnExactParCircuitsRow : OpenClaim := { program := "ythjdknddcceigaadoor", sum := "9a45e6bbb99f5fa2545a4a7441986aa55bf6306607f2e6df8df1933f8637f98f", func := "loop.example/g01073/laws.FnExactParCircuits", spec := "fnExactParCircuits", unfollowed := true, recurses := true, named := ["loop.example/g01073/impl.smallPrimes"], apart := false, laid := [("loop.example/g01073/impl.smallPrimes", laid_loop_example_g01073_impl_smallPrimes)] }
def FnExactParCircuitsSaid : Prop := fnExactParCircuitsRow.holds Tryd.pinned (OpenSpec.ofChange fnExactParCircuitsSpec)

/-- ITS FALSE NEIGHBOUR: 'it returns false'. Refute it at one input. -/
def fnExactParCircuitsWrong : ChangeSpec := { name := "fnExactParCircuits", vars := ["loop.example/g01073/impl.smallPrimes"], fn := fun _ => fun
  | [d1, d2, d3, g1] => { results := [.lit (.bool false)], args := [d1, d2, d3], vars := [g1] }
  | _ => none }
def FnExactParCircuitsWrongFalsely : Prop := fnExactParCircuitsRow.holds Tryd.pinned (OpenSpec.ofChange fnExactParCircuitsWrong)

/-- 'laws.FnExactFoldZeros': WHATEVER THE INPUT: true; the input reads as it did. -/
def fnExactFoldZerosSpec : ChangeSpec := { name := "fnExactFoldZeros", vars := ["loop.example/g01073/impl.smallPrimes"], fn := fun _ => fun
  | [d1, d2, g1] => { results := [.lit (.bool true)], args := [d1, d2], vars := [g1] }
  | _ => none }
def fnExactFoldZerosRow : OpenClaim := { program := "ythjdknddcceigaadoor", sum := "9a45e6bbb99f5fa2545a4a7441986aa55bf6306607f2e6df8df1933f8637f98f", func := "loop.example/g01073/laws.FnExactFoldZeros", spec := "fnExactFoldZeros", unfollowed := true, recurses := true, named := ["loop.example/g01073/impl.smallPrimes"], apart := false, laid := [("loop.example/g01073/impl.smallPrimes", laid_loop_example_g01073_impl_smallPrimes)] }
def FnExactFoldZerosSaid : Prop := fnExactFoldZerosRow.holds Tryd.pinned (OpenSpec.ofChange fnExactFoldZerosSpec)

/-- ITS FALSE NEIGHBOUR: 'it returns false'. Refute it at one input. -/
def fnExactFoldZerosWrong : ChangeSpec := { name := "fnExactFoldZeros", vars := ["loop.example/g01073/impl.smallPrimes"], fn := fun _ => fun
  | [d1, d2, g1] => { results := [.lit (.bool false)], args := [d1, d2], vars := [g1] }
  | _ => none }
def FnExactFoldZerosWrongFalsely : Prop := fnExactFoldZerosRow.holds Tryd.pinned (OpenSpec.ofChange fnExactFoldZerosWrong)

/- THE SECOND FORM. 'bulk': how many values and letters a reading holds, each counted each time it is reached (what is shared counts as often as it is met; a slice's spare places count too). A statement '..UptoSaid' is the law's where the arguments, and the package variables that the reading takes, are together of bulk at most 1048576: NARROWER than '..Said'. Prove '..Said' where nothing that the law and all that it calls make is longer than what came in: it says more and counts as full. Else prove '..UptoSaid'. A law counts once. -/
mutual
def uptoBulk {H : Type} : DataW H → Nat
  | .lit (.string bytes) => bytes.length + 1
  | .lit _ => 1
  | .nil => 1
  | .ptr d => uptoBulk d + 1
  | .slice elems spare => uptoBulkAll elems + uptoBulkAll spare + 1
  | .agg parts => uptoBulkAll parts + 1
  | .iface _ d => uptoBulk d + 1
  | .map entries => uptoBulkEntries entries + 1
  | .held _ => 1
def uptoBulkAll {H : Type} : List (DataW H) → Nat
  | [] => 0
  | d :: r => uptoBulk d + uptoBulkAll r
def uptoBulkEntries {H : Type} : List (Lit × DataW H) → Nat
  | [] => 0
  | x :: r => uptoBulkEntry x + uptoBulkEntries r
def uptoBulkEntry {H : Type} : Lit × DataW H → Nat
  | (.string bytes, d) => bytes.length + uptoBulk d + 1
  | (_, d) => uptoBulk d + 1
 end
def uptoSmall : (H : Type) → List (DataW H) → Bool := fun _ ds => decide (uptoBulkAll ds ≤ 1048576)
def OpenSpec.upto (s : _root_.Go.ChangeSpec) : _root_.Go.OpenSpec := { _root_.Go.OpenSpec.ofChange s with cond := some uptoSmall }

/-- 'laws.FnExactCountGates', WHERE WHAT IT READS IS OF BULK AT MOST 1048576: true; the input reads as it did. -/
def fnExactCountGatesUptoRow : OpenClaim := { program := "ythjdknddcceigaadoor", sum := "9a45e6bbb99f5fa2545a4a7441986aa55bf6306607f2e6df8df1933f8637f98f", func := "loop.example/g01073/laws.FnExactCountGates", spec := "fnExactCountGates", unfollowed := true, recurses := true, named := ["loop.example/g01073/impl.smallPrimes"], apart := false, laid := [("loop.example/g01073/impl.smallPrimes", laid_loop_example_g01073_impl_smallPrimes)], narrowed := true }
def FnExactCountGatesUptoSaid : Prop := fnExactCountGatesUptoRow.holds Tryd.pinned (OpenSpec.upto fnExactCountGatesSpec)

/-- 'laws.FnExactFeedbackOf', WHERE WHAT IT READS IS OF BULK AT MOST 1048576: true; the input reads as it did. -/
def fnExactFeedbackOfUptoRow : OpenClaim := { program := "ythjdknddcceigaadoor", sum := "9a45e6bbb99f5fa2545a4a7441986aa55bf6306607f2e6df8df1933f8637f98f", func := "loop.example/g01073/laws.FnExactFeedbackOf", spec := "fnExactFeedbackOf", unfollowed := true, recurses := true, named := ["loop.example/g01073/impl.smallPrimes"], apart := false, laid := [("loop.example/g01073/impl.smallPrimes", laid_loop_example_g01073_impl_smallPrimes)], narrowed := true }
def FnExactFeedbackOfUptoSaid : Prop := fnExactFeedbackOfUptoRow.holds Tryd.pinned (OpenSpec.upto fnExactFeedbackOfSpec)

/-- 'laws.FnExactSpreadDelay', WHERE WHAT IT READS IS OF BULK AT MOST 1048576: true; the input reads as it did. -/
def fnExactSpreadDelayUptoRow : OpenClaim := { program := "ythjdknddcceigaadoor", sum := "9a45e6bbb99f5fa2545a4a7441986aa55bf6306607f2e6df8df1933f8637f98f", func := "loop.example/g01073/laws.FnExactSpreadDelay", spec := "fnExactSpreadDelay", unfollowed := true, recurses := true, named := ["loop.example/g01073/impl.smallPrimes"], apart := false, laid := [("loop.example/g01073/impl.smallPrimes", laid_loop_example_g01073_impl_smallPrimes)], narrowed := true }
def FnExactSpreadDelayUptoSaid : Prop := fnExactSpreadDelayUptoRow.holds Tryd.pinned (OpenSpec.upto fnExactSpreadDelaySpec)

/-- 'laws.FnExactRetimeGate', WHERE WHAT IT READS IS OF BULK AT MOST 1048576: true; the input reads as it did. -/
def fnExactRetimeGateUptoRow : OpenClaim := { program := "ythjdknddcceigaadoor", sum := "9a45e6bbb99f5fa2545a4a7441986aa55bf6306607f2e6df8df1933f8637f98f", func := "loop.example/g01073/laws.FnExactRetimeGate", spec := "fnExactRetimeGate", unfollowed := true, recurses := true, named := ["loop.example/g01073/impl.smallPrimes"], apart := false, laid := [("loop.example/g01073/impl.smallPrimes", laid_loop_example_g01073_impl_smallPrimes)], narrowed := true }
def FnExactRetimeGateUptoSaid : Prop := fnExactRetimeGateUptoRow.holds Tryd.pinned (OpenSpec.upto fnExactRetimeGateSpec)

/-- 'laws.FnExactStepCircuit', WHERE WHAT IT READS IS OF BULK AT MOST 1048576: true; the input reads as it did. -/
def fnExactStepCircuitUptoRow : OpenClaim := { program := "ythjdknddcceigaadoor", sum := "9a45e6bbb99f5fa2545a4a7441986aa55bf6306607f2e6df8df1933f8637f98f", func := "loop.example/g01073/laws.FnExactStepCircuit", spec := "fnExactStepCircuit", unfollowed := true, recurses := true, named := ["loop.example/g01073/impl.smallPrimes"], apart := false, laid := [("loop.example/g01073/impl.smallPrimes", laid_loop_example_g01073_impl_smallPrimes)], narrowed := true }
def FnExactStepCircuitUptoSaid : Prop := fnExactStepCircuitUptoRow.holds Tryd.pinned (OpenSpec.upto fnExactStepCircuitSpec)

/-- 'laws.FnExactParCircuits', WHERE WHAT IT READS IS OF BULK AT MOST 1048576: true; the input reads as it did. -/
def fnExactParCircuitsUptoRow : OpenClaim := { program := "ythjdknddcceigaadoor", sum := "9a45e6bbb99f5fa2545a4a7441986aa55bf6306607f2e6df8df1933f8637f98f", func := "loop.example/g01073/laws.FnExactParCircuits", spec := "fnExactParCircuits", unfollowed := true, recurses := true, named := ["loop.example/g01073/impl.smallPrimes"], apart := false, laid := [("loop.example/g01073/impl.smallPrimes", laid_loop_example_g01073_impl_smallPrimes)], narrowed := true }
def FnExactParCircuitsUptoSaid : Prop := fnExactParCircuitsUptoRow.holds Tryd.pinned (OpenSpec.upto fnExactParCircuitsSpec)

/-- 'laws.FnExactFoldZeros', WHERE WHAT IT READS IS OF BULK AT MOST 1048576: true; the input reads as it did. -/
def fnExactFoldZerosUptoRow : OpenClaim := { program := "ythjdknddcceigaadoor", sum := "9a45e6bbb99f5fa2545a4a7441986aa55bf6306607f2e6df8df1933f8637f98f", func := "loop.example/g01073/laws.FnExactFoldZeros", spec := "fnExactFoldZeros", unfollowed := true, recurses := true, named := ["loop.example/g01073/impl.smallPrimes"], apart := false, laid := [("loop.example/g01073/impl.smallPrimes", laid_loop_example_g01073_impl_smallPrimes)], narrowed := true }
def FnExactFoldZerosUptoSaid : Prop := fnExactFoldZerosUptoRow.holds Tryd.pinned (OpenSpec.upto fnExactFoldZerosSpec)

end Rows
end Go.Proofs.YthjdknddcceigaaDoor
