/- The law FnExactStepCircuit returns true; conditions: the arguments read as data, the table of primes lies in memory. -/
import Derived.Test.YthjdknddcceigaaDoorStcP
import Derived.Deep.RegionHeld3
namespace Go.Proofs.YthjdknddcceigaaDoor
open Go.RowKit Go.Deep
theorem stepCircuit_walk (p : Int) (cInputs : Int) (cGates : List (Int × Int × Int × Int)) (A_cGates : Option Addr) (c_cGates : Nat) (l_cGates : List Addr) (cOutputs : List (Int)) (A_cOutputs : Option Addr) (c_cOutputs : Nat) (l_cOutputs : List Addr) (state : List (Int)) (A_state : Option Addr) (c_state : Nat) (l_state : List Addr) (in_ : List (Int)) (A_in_ : Option Addr) (c_in_ : Nat) (l_in_ : List Addr) (w : World) (_i_p : -9223372036854775808 ≤ p ∧ p ≤ 9223372036854775807) (_i_cInputs : -9223372036854775808 ≤ cInputs ∧ cInputs ≤ 9223372036854775807) (s_cGates : Sl (fun _ => True) w (.pair .int (.pair .int (.pair .int .int))) A_cGates c_cGates cGates l_cGates) (_i_cGates : Ty.In (.slice (.pair .int (.pair .int (.pair .int .int)))) cGates) (s_cOutputs : Sl (fun _ => True) w .int A_cOutputs c_cOutputs cOutputs l_cOutputs) (_i_cOutputs : Ty.In (.slice .int) cOutputs) (s_state : Sl (fun _ => True) w .int A_state c_state state l_state) (_i_state : Ty.In (.slice .int) state) (s_in_ : Sl (fun _ => True) w .int A_in_ c_in_ in_ l_in_) (_i_in_ : Ty.In (.slice .int) in_) (tab : Tab w) :
    Calls Tryd.prog 7 #[.int .i64 p, .agg #[.int .i64 cInputs, .slice A_cGates cGates.length c_cGates, .slice A_cOutputs cOutputs.length c_cOutputs], .slice A_state state.length c_state, .slice A_in_ in_.length c_in_] w fun e w' => e = .returned (.bool true) ∧ Below w.heap.size w w' := by
  have hl : L_laws_FnExactStepCircuit p cInputs cGates cOutputs state in_ = some true := P_lawStc (sl_len s_cGates).2 (sl_len s_cOutputs).2 (sl_len s_state).2 (sl_len s_in_).2
  refine (ok_laws_FnExactStepCircuit hl w (fun _ => True) [.int .i64 p, .agg #[.int .i64 cInputs, .slice A_cGates cGates.length c_cGates, .slice A_cOutputs cOutputs.length c_cOutputs], .slice A_state state.length c_state, .slice A_in_ in_.length c_in_] (fun w' hb => tab.below hb) ⟨_, _, rfl, rfl, ⟨_, _, rfl, ⟨_, rfl, ⟨_, _, rfl, rfl, ⟨_, _, rfl, ⟨A_cGates, c_cGates, l_cGates, rfl, s_cGates⟩, ⟨_, _, rfl, ⟨A_cOutputs, c_cOutputs, l_cOutputs, rfl, s_cOutputs⟩, rfl⟩⟩⟩⟩, ⟨_, _, rfl, ⟨A_state, c_state, l_state, rfl, s_state⟩, ⟨_, _, rfl, ⟨A_in_, c_in_, l_in_, rfl, s_in_⟩, rfl⟩⟩⟩⟩).mono ?_
  rintro e w' ⟨u, rfl, hb, us, ls, h1, _, rfl⟩
  obtain ⟨u1, us1, rfl, h2, _, rfl, rfl⟩ := h1
  obtain rfl : u1 = .bool true := h2
  exact ⟨rfl, hb⟩
end Go.Proofs.YthjdknddcceigaaDoor
