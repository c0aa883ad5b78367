/- The law FnExactStepProgram returns true; conditions: the arguments read as data, the table of primes lies in memory. -/
import Derived.Test.YtomijolkdmaimaaDoorStpLP
import Derived.Deep.RegionHeld3
namespace Go.Proofs.YtomijolkdmaimaaDoor
open Go.RowKit Go.Deep
theorem stepProgram_walk (p : Int) (xInputs : Int) (xOutputs : Int) (xCells : Int) (xRegisters : Int) (xCode : List (Int × Int × Int × Int × Int)) (A_xCode : Option Addr) (c_xCode : Nat) (l_xCode : List Addr) (cells : List (Int)) (A_cells : Option Addr) (c_cells : Nat) (l_cells : List Addr) (in_ : List (Int)) (A_in_ : Option Addr) (c_in_ : Nat) (l_in_ : List Addr) (w : World) (_i_p : -9223372036854775808 ≤ p ∧ p ≤ 9223372036854775807) (_i_xInputs : -9223372036854775808 ≤ xInputs ∧ xInputs ≤ 9223372036854775807) (_i_xOutputs : -9223372036854775808 ≤ xOutputs ∧ xOutputs ≤ 9223372036854775807) (_i_xCells : -9223372036854775808 ≤ xCells ∧ xCells ≤ 9223372036854775807) (_i_xRegisters : -9223372036854775808 ≤ xRegisters ∧ xRegisters ≤ 9223372036854775807) (s_xCode : Sl (fun _ => True) w (.pair .int (.pair .int (.pair .int (.pair .int .int)))) A_xCode c_xCode xCode l_xCode) (_i_xCode : Ty.In (.slice (.pair .int (.pair .int (.pair .int (.pair .int .int))))) xCode) (s_cells : Sl (fun _ => True) w .int A_cells c_cells cells l_cells) (_i_cells : Ty.In (.slice .int) cells) (s_in_ : Sl (fun _ => True) w .int A_in_ c_in_ in_ l_in_) (_i_in_ : Ty.In (.slice .int) in_) (tab : Tab w) :
    Calls Tryd.prog 5 #[.int .i64 p, .agg #[.int .i64 xInputs, .int .i64 xOutputs, .int .i64 xCells, .int .i64 xRegisters, .slice A_xCode xCode.length c_xCode], .slice A_cells cells.length c_cells, .slice A_in_ in_.length c_in_] w fun e w' => e = .returned (.bool true) ∧ Below w.heap.size w w' := by
  have hl : L_laws_FnExactStepProgram p xInputs xOutputs xCells xRegisters xCode cells in_ = some true := P_lawStep (sl_len s_xCode).2 (sl_len s_cells).2 (sl_len s_in_).2
  refine (ok_laws_FnExactStepProgram hl w (fun _ => True) [.int .i64 p, .agg #[.int .i64 xInputs, .int .i64 xOutputs, .int .i64 xCells, .int .i64 xRegisters, .slice A_xCode xCode.length c_xCode], .slice A_cells cells.length c_cells, .slice A_in_ in_.length c_in_] (fun w' hb => tab.below hb) ⟨_, _, rfl, rfl, ⟨_, _, rfl, ⟨_, rfl, ⟨_, _, rfl, rfl, ⟨_, _, rfl, rfl, ⟨_, _, rfl, rfl, ⟨_, _, rfl, rfl, ⟨_, _, rfl, ⟨A_xCode, c_xCode, l_xCode, rfl, s_xCode⟩, rfl⟩⟩⟩⟩⟩⟩, ⟨_, _, rfl, ⟨A_cells, c_cells, l_cells, rfl, s_cells⟩, ⟨_, _, rfl, ⟨A_in_, c_in_, l_in_, rfl, s_in_⟩, rfl⟩⟩⟩⟩).mono ?_
  rintro e w' ⟨u, rfl, hb, us, ls, h1, _, rfl⟩
  obtain ⟨u1, us1, rfl, h2, _, rfl, rfl⟩ := h1
  obtain rfl : u1 = .bool true := h2
  exact ⟨rfl, hb⟩
end Go.Proofs.YtomijolkdmaimaaDoor
