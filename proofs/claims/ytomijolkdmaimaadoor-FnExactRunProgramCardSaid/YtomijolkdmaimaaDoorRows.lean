/-
  NARROWER THAN 'FOR EVERY INPUT', by the rows' own cells (each row's printed sentence says how): FnExactIsProgram: laid · FnExactLiveRegisters: laid · FnExactStepProgram: laid · FnExactDropDead: laid · FnExactRunProgram: laid.
  DERIVED. THE GIVEN ROWS OF THIS SEAT. 5 by the template 'for every input the law returns true; each argument reads behind the call as it read before'; 0 by the template 'total and deterministic' (their statements: YtomijolkdmaimaaDoorTotals.lean).
  GIVEN WITH THE SEED: the statements are not yours to turn. If you find one false, say at which input.
  Laid BY PROGRAM, IN A SANDBOX (cutbox-rows.mjs): the forced cells as the released guide's own fill.sh prints them over the translation a71fc9fca4f7dc18… (all of the seat's roots in one cut). By AI agents, Wed Nov 11 2026. No macro, syntax, notation, axiom, sorry.
-/
import Derived.Test.YtomijolkdmaimaaDoorChecked
import GoSem.Claim
import GoSem.ClaimJoined
import GoSem.ClaimMapViews
import Derived.JoinedTies
import Derived.KernelRfl
namespace Go.Proofs.YtomijolkdmaimaaDoor
/- THE CELL 'sum', in the pinned program and in every row, IS THE sha256 OF THE DUMP (.gsa) THAT YtomijolkdmaimaaDoorProg.lean LOADS. Nothing in Lean hashes anything: it is a label: what it is worth is what the hold of that sum in a sandbox is worth. -/
noncomputable def Tryd.pinned : Pinned := { name := "ytomijolkdmaimaadoor", sum := "a71fc9fca4f7dc18e5d26022703bcd74a0bfe25baa1afa3d660a4263524006c8", checked := Tryd.checked }
namespace Rows
def none {H : Type} : Left H := { results := [], args := [] }

/- WHAT THE LISTED PACKAGE-LEVEL VARIABLES READ AS WHEN THE CALL BEGINS. Each datum BY PROGRAM (the guide's laid-datum.mjs) off the statement by which the dump's own 'gosem.cut.vars' lays the variable. In a bare row this is a premise. The card (YtomijolkdmaimaaDoorCards.lean) ties it to the program's text. -/
def laid_loop_example_g01073_impl_smallPrimes {H : Type} : DataW H := .agg [.lit (.int .i64 2), .lit (.int .i64 3), .lit (.int .i64 5), .lit (.int .i64 7)]

/-- 'laws.FnExactIsProgram': WHATEVER THE INPUT: true; the input reads as it did. -/
def fnExactIsProgramSpec : ChangeSpec := { name := "fnExactIsProgram", vars := ["loop.example/g01073/impl.smallPrimes"], fn := fun _ => fun
  | [d1, d2, g1] => { results := [.lit (.bool true)], args := [d1, d2], vars := [g1] }
  | _ => none }
def fnExactIsProgramRow : OpenClaim := { program := "ytomijolkdmaimaadoor", sum := "a71fc9fca4f7dc18e5d26022703bcd74a0bfe25baa1afa3d660a4263524006c8", func := "loop.example/g01073/laws.FnExactIsProgram", spec := "fnExactIsProgram", unfollowed := true, recurses := true, named := ["loop.example/g01073/impl.smallPrimes"], apart := false, laid := [("loop.example/g01073/impl.smallPrimes", laid_loop_example_g01073_impl_smallPrimes)] }
def FnExactIsProgramSaid : Prop := fnExactIsProgramRow.holds Tryd.pinned (OpenSpec.ofChange fnExactIsProgramSpec)

/-- ITS FALSE NEIGHBOUR: 'it returns false'. Refute it at one input. -/
def fnExactIsProgramWrong : ChangeSpec := { name := "fnExactIsProgram", vars := ["loop.example/g01073/impl.smallPrimes"], fn := fun _ => fun
  | [d1, d2, g1] => { results := [.lit (.bool false)], args := [d1, d2], vars := [g1] }
  | _ => none }
def FnExactIsProgramWrongFalsely : Prop := fnExactIsProgramRow.holds Tryd.pinned (OpenSpec.ofChange fnExactIsProgramWrong)

/-- 'laws.FnExactLiveRegisters': WHATEVER THE INPUT: true; the input reads as it did. -/
def fnExactLiveRegistersSpec : ChangeSpec := { name := "fnExactLiveRegisters", vars := ["loop.example/g01073/impl.smallPrimes"], fn := fun _ => fun
  | [d1, d2, d3, g1] => { results := [.lit (.bool true)], args := [d1, d2, d3], vars := [g1] }
  | _ => none }
def fnExactLiveRegistersRow : OpenClaim := { program := "ytomijolkdmaimaadoor", sum := "a71fc9fca4f7dc18e5d26022703bcd74a0bfe25baa1afa3d660a4263524006c8", func := "loop.example/g01073/laws.FnExactLiveRegisters", spec := "fnExactLiveRegisters", unfollowed := true, recurses := true, named := ["loop.example/g01073/impl.smallPrimes"], apart := false, laid := [("loop.example/g01073/impl.smallPrimes", laid_loop_example_g01073_impl_smallPrimes)] }
def FnExactLiveRegistersSaid : Prop := fnExactLiveRegistersRow.holds Tryd.pinned (OpenSpec.ofChange fnExactLiveRegistersSpec)

/-- ITS FALSE NEIGHBOUR: 'it returns false'. Refute it at one input. -/
def fnExactLiveRegistersWrong : ChangeSpec := { name := "fnExactLiveRegisters", vars := ["loop.example/g01073/impl.smallPrimes"], fn := fun _ => fun
  | [d1, d2, d3, g1] => { results := [.lit (.bool false)], args := [d1, d2, d3], vars := [g1] }
  | _ => none }
def FnExactLiveRegistersWrongFalsely : Prop := fnExactLiveRegistersRow.holds Tryd.pinned (OpenSpec.ofChange fnExactLiveRegistersWrong)

/-- 'laws.FnExactStepProgram': WHATEVER THE INPUT: true; the input reads as it did. -/
def fnExactStepProgramSpec : ChangeSpec := { name := "fnExactStepProgram", vars := ["loop.example/g01073/impl.smallPrimes"], fn := fun _ => fun
  | [d1, d2, d3, d4, g1] => { results := [.lit (.bool true)], args := [d1, d2, d3, d4], vars := [g1] }
  | _ => none }
def fnExactStepProgramRow : OpenClaim := { program := "ytomijolkdmaimaadoor", sum := "a71fc9fca4f7dc18e5d26022703bcd74a0bfe25baa1afa3d660a4263524006c8", func := "loop.example/g01073/laws.FnExactStepProgram", spec := "fnExactStepProgram", unfollowed := true, recurses := true, named := ["loop.example/g01073/impl.smallPrimes"], apart := false, laid := [("loop.example/g01073/impl.smallPrimes", laid_loop_example_g01073_impl_smallPrimes)] }
def FnExactStepProgramSaid : Prop := fnExactStepProgramRow.holds Tryd.pinned (OpenSpec.ofChange fnExactStepProgramSpec)

/-- ITS FALSE NEIGHBOUR: 'it returns false'. Refute it at one input. -/
def fnExactStepProgramWrong : ChangeSpec := { name := "fnExactStepProgram", vars := ["loop.example/g01073/impl.smallPrimes"], fn := fun _ => fun
  | [d1, d2, d3, d4, g1] => { results := [.lit (.bool false)], args := [d1, d2, d3, d4], vars := [g1] }
  | _ => none }
def FnExactStepProgramWrongFalsely : Prop := fnExactStepProgramRow.holds Tryd.pinned (OpenSpec.ofChange fnExactStepProgramWrong)

/-- 'laws.FnExactDropDead': WHATEVER THE INPUT: true; the input reads as it did. -/
def fnExactDropDeadSpec : ChangeSpec := { name := "fnExactDropDead", vars := ["loop.example/g01073/impl.smallPrimes"], fn := fun _ => fun
  | [d1, d2, g1] => { results := [.lit (.bool true)], args := [d1, d2], vars := [g1] }
  | _ => none }
def fnExactDropDeadRow : OpenClaim := { program := "ytomijolkdmaimaadoor", sum := "a71fc9fca4f7dc18e5d26022703bcd74a0bfe25baa1afa3d660a4263524006c8", func := "loop.example/g01073/laws.FnExactDropDead", spec := "fnExactDropDead", unfollowed := true, recurses := true, named := ["loop.example/g01073/impl.smallPrimes"], apart := false, laid := [("loop.example/g01073/impl.smallPrimes", laid_loop_example_g01073_impl_smallPrimes)] }
def FnExactDropDeadSaid : Prop := fnExactDropDeadRow.holds Tryd.pinned (OpenSpec.ofChange fnExactDropDeadSpec)

/-- ITS FALSE NEIGHBOUR: 'it returns false'. Refute it at one input. -/
def fnExactDropDeadWrong : ChangeSpec := { name := "fnExactDropDead", vars := ["loop.example/g01073/impl.smallPrimes"], fn := fun _ => fun
  | [d1, d2, g1] => { results := [.lit (.bool false)], args := [d1, d2], vars := [g1] }
  | _ => none }
def FnExactDropDeadWrongFalsely : Prop := fnExactDropDeadRow.holds Tryd.pinned (OpenSpec.ofChange fnExactDropDeadWrong)

/-- 'laws.FnExactRunProgram': WHATEVER THE INPUT: true; the input reads as it did. -/
def fnExactRunProgramSpec : ChangeSpec := { name := "fnExactRunProgram", vars := ["loop.example/g01073/impl.smallPrimes"], fn := fun _ => fun
  | [d1, d2, d3, g1] => { results := [.lit (.bool true)], args := [d1, d2, d3], vars := [g1] }
  | _ => none }
def fnExactRunProgramRow : OpenClaim := { program := "ytomijolkdmaimaadoor", sum := "a71fc9fca4f7dc18e5d26022703bcd74a0bfe25baa1afa3d660a4263524006c8", func := "loop.example/g01073/laws.FnExactRunProgram", spec := "fnExactRunProgram", unfollowed := true, recurses := true, named := ["loop.example/g01073/impl.smallPrimes"], apart := false, laid := [("loop.example/g01073/impl.smallPrimes", laid_loop_example_g01073_impl_smallPrimes)] }
def FnExactRunProgramSaid : Prop := fnExactRunProgramRow.holds Tryd.pinned (OpenSpec.ofChange fnExactRunProgramSpec)

/-- ITS FALSE NEIGHBOUR: 'it returns false'. Refute it at one input. -/
def fnExactRunProgramWrong : ChangeSpec := { name := "fnExactRunProgram", vars := ["loop.example/g01073/impl.smallPrimes"], fn := fun _ => fun
  | [d1, d2, d3, g1] => { results := [.lit (.bool false)], args := [d1, d2, d3], vars := [g1] }
  | _ => none }
def FnExactRunProgramWrongFalsely : Prop := fnExactRunProgramRow.holds Tryd.pinned (OpenSpec.ofChange fnExactRunProgramWrong)

/- THE SECOND FORM. 'bulk': how many values and letters a reading holds, each counted each time it is reached (what is shared counts as often as it is met; a slice's spare places count too). A statement '..UptoSaid' is the law's where the arguments, and the package variables that the reading takes, are together of bulk at most 1048576: NARROWER than '..Said'. Prove '..Said' where nothing that the law and all that it calls make is longer than what came in: it says more and counts as full. Else prove '..UptoSaid'. A law counts once. -/
mutual
def uptoBulk {H : Type} : DataW H → Nat
  | .lit (.string bytes) => bytes.length + 1
  | .lit _ => 1
  | .nil => 1
  | .ptr d => uptoBulk d + 1
  | .slice elems spare => uptoBulkAll elems + uptoBulkAll spare + 1
  | .agg parts => uptoBulkAll parts + 1
  | .iface _ d => uptoBulk d + 1
  | .map entries => uptoBulkEntries entries + 1
  | .held _ => 1
def uptoBulkAll {H : Type} : List (DataW H) → Nat
  | [] => 0
  | d :: r => uptoBulk d + uptoBulkAll r
def uptoBulkEntries {H : Type} : List (Lit × DataW H) → Nat
  | [] => 0
  | x :: r => uptoBulkEntry x + uptoBulkEntries r
def uptoBulkEntry {H : Type} : Lit × DataW H → Nat
  | (.string bytes, d) => bytes.length + uptoBulk d + 1
  | (_, d) => uptoBulk d + 1
 end
def uptoSmall : (H : Type) → List (DataW H) → Bool := fun _ ds => decide (uptoBulkAll ds ≤ 1048576)
def OpenSpec.upto (s : _root_.Go.ChangeSpec) : _root_.Go.OpenSpec := { _root_.Go.OpenSpec.ofChange s with cond := some uptoSmall }

/-- 'laws.FnExactIsProgram', WHERE WHAT IT READS IS OF BULK AT MOST 1048576: true; the input reads as it did. -/
def fnExactIsProgramUptoRow : OpenClaim := { program := "ytomijolkdmaimaadoor", sum := "a71fc9fca4f7dc18e5d26022703bcd74a0bfe25baa1afa3d660a4263524006c8", func := "loop.example/g01073/laws.FnExactIsProgram", spec := "fnExactIsProgram", unfollowed := true, recurses := true, named := ["loop.example/g01073/impl.smallPrimes"], apart := false, laid := [("loop.example/g01073/impl.smallPrimes", laid_loop_example_g01073_impl_smallPrimes)], narrowed := true }
def FnExactIsProgramUptoSaid : Prop := fnExactIsProgramUptoRow.holds Tryd.pinned (OpenSpec.upto fnExactIsProgramSpec)

/-- 'laws.FnExactLiveRegisters', WHERE WHAT IT READS IS OF BULK AT MOST 1048576: true; the input reads as it did. -/
def fnExactLiveRegistersUptoRow : OpenClaim := { program := "ytomijolkdmaimaadoor", sum := "a71fc9fca4f7dc18e5d26022703bcd74a0bfe25baa1afa3d660a4263524006c8", func := "loop.example/g01073/laws.FnExactLiveRegisters", spec := "fnExactLiveRegisters", unfollowed := true, recurses := true, named := ["loop.example/g01073/impl.smallPrimes"], apart := false, laid := [("loop.example/g01073/impl.smallPrimes", laid_loop_example_g01073_impl_smallPrimes)], narrowed := true }
def FnExactLiveRegistersUptoSaid : Prop := fnExactLiveRegistersUptoRow.holds Tryd.pinned (OpenSpec.upto fnExactLiveRegistersSpec)

/-- 'laws.FnExactStepProgram', WHERE WHAT IT READS IS OF BULK AT MOST 1048576: true; the input reads as it did. -/
def fnExactStepProgramUptoRow : OpenClaim := { program := "ytomijolkdmaimaadoor", sum := "a71fc9fca4f7dc18e5d26022703bcd74a0bfe25baa1afa3d660a4263524006c8", func := "loop.example/g01073/laws.FnExactStepProgram", spec := "fnExactStepProgram", unfollowed := true, recurses := true, named := ["loop.example/g01073/impl.smallPrimes"], apart := false, laid := [("loop.example/g01073/impl.smallPrimes", laid_loop_example_g01073_impl_smallPrimes)], narrowed := true }
def FnExactStepProgramUptoSaid : Prop := fnExactStepProgramUptoRow.holds Tryd.pinned (OpenSpec.upto fnExactStepProgramSpec)

/-- 'laws.FnExactDropDead', WHERE WHAT IT READS IS OF BULK AT MOST 1048576: true; the input reads as it did. -/
def fnExactDropDeadUptoRow : OpenClaim := { program := "ytomijolkdmaimaadoor", sum := "a71fc9fca4f7dc18e5d26022703bcd74a0bfe25baa1afa3d660a4263524006c8", func := "loop.example/g01073/laws.FnExactDropDead", spec := "fnExactDropDead", unfollowed := true, recurses := true, named := ["loop.example/g01073/impl.smallPrimes"], apart := false, laid := [("loop.example/g01073/impl.smallPrimes", laid_loop_example_g01073_impl_smallPrimes)], narrowed := true }
def FnExactDropDeadUptoSaid : Prop := fnExactDropDeadUptoRow.holds Tryd.pinned (OpenSpec.upto fnExactDropDeadSpec)

/-- 'laws.FnExactRunProgram', WHERE WHAT IT READS IS OF BULK AT MOST 1048576: true; the input reads as it did. -/
def fnExactRunProgramUptoRow : OpenClaim := { program := "ytomijolkdmaimaadoor", sum := "a71fc9fca4f7dc18e5d26022703bcd74a0bfe25baa1afa3d660a4263524006c8", func := "loop.example/g01073/laws.FnExactRunProgram", spec := "fnExactRunProgram", unfollowed := true, recurses := true, named := ["loop.example/g01073/impl.smallPrimes"], apart := false, laid := [("loop.example/g01073/impl.smallPrimes", laid_loop_example_g01073_impl_smallPrimes)], narrowed := true }
def FnExactRunProgramUptoSaid : Prop := fnExactRunProgramUptoRow.holds Tryd.pinned (OpenSpec.upto fnExactRunProgramSpec)

end Rows
end Go.Proofs.YtomijolkdmaimaaDoor
