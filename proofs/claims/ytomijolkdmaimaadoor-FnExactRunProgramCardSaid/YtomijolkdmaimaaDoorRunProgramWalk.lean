/- The law FnExactRunProgram returns true; conditions: the arguments read as data, the table of primes lies in memory. -/
import Derived.Test.YtomijolkdmaimaaDoorRunP
import Derived.Deep.RegionHeld3
namespace Go.Proofs.YtomijolkdmaimaaDoor
open Go.RowKit Go.Deep
theorem runProgram_walk (p : Int) (xInputs : Int) (xOutputs : Int) (xCells : Int) (xRegisters : Int) (xCode : List (Int × Int × Int × Int × Int)) (A_xCode : Option Addr) (c_xCode : Nat) (l_xCode : List Addr) (ins : List (List Int)) (A_ins : Option Addr) (c_ins : Nat) (l_ins : List Addr) (w : World) (_i_p : -9223372036854775808 ≤ p ∧ p ≤ 9223372036854775807) (_i_xInputs : -9223372036854775808 ≤ xInputs ∧ xInputs ≤ 9223372036854775807) (_i_xOutputs : -9223372036854775808 ≤ xOutputs ∧ xOutputs ≤ 9223372036854775807) (_i_xCells : -9223372036854775808 ≤ xCells ∧ xCells ≤ 9223372036854775807) (_i_xRegisters : -9223372036854775808 ≤ xRegisters ∧ xRegisters ≤ 9223372036854775807) (s_xCode : Sl (fun _ => True) w (.pair .int (.pair .int (.pair .int (.pair .int .int)))) A_xCode c_xCode xCode l_xCode) (_i_xCode : Ty.In (.slice (.pair .int (.pair .int (.pair .int (.pair .int .int))))) xCode) (s_ins : Sl (fun _ => True) w (.slice .int) A_ins c_ins ins l_ins) (_i_ins : Ty.In (.slice (.slice .int)) ins) (tab : Tab w) :
    Calls Tryd.prog 7 #[.int .i64 p, .agg #[.int .i64 xInputs, .int .i64 xOutputs, .int .i64 xCells, .int .i64 xRegisters, .slice A_xCode xCode.length c_xCode], .slice A_ins ins.length c_ins] w fun e w' => e = .returned (.bool true) ∧ Below w.heap.size w w' := by
  have hl : L_laws_FnExactRunProgram p xInputs xOutputs xCells xRegisters xCode ins = some true := P_lawRun (sl_len s_xCode).2 (sl_len s_ins).2 (sl_rows s_ins)
  refine (ok_laws_FnExactRunProgram hl w (fun _ => True) [.int .i64 p, .agg #[.int .i64 xInputs, .int .i64 xOutputs, .int .i64 xCells, .int .i64 xRegisters, .slice A_xCode xCode.length c_xCode], .slice A_ins ins.length c_ins] (fun w' hb => tab.below hb) ⟨_, _, rfl, rfl, ⟨_, _, rfl, ⟨_, rfl, ⟨_, _, rfl, rfl, ⟨_, _, rfl, rfl, ⟨_, _, rfl, rfl, ⟨_, _, rfl, rfl, ⟨_, _, rfl, ⟨A_xCode, c_xCode, l_xCode, rfl, s_xCode⟩, rfl⟩⟩⟩⟩⟩⟩, ⟨_, _, rfl, ⟨A_ins, c_ins, l_ins, rfl, s_ins⟩, rfl⟩⟩⟩).mono ?_
  rintro e w' ⟨u, rfl, hb, us, ls, h1, _, rfl⟩
  obtain ⟨u1, us1, rfl, h2, _, rfl, rfl⟩ := h1
  obtain rfl : u1 = .bool true := h2
  exact ⟨rfl, hb⟩
end Go.Proofs.YtomijolkdmaimaaDoor
