/- The law FnExactSpreadDelay returns true; conditions: the arguments read as data, the table of primes lies in memory. -/
import Derived.Test.YthjdknddcceigaaDoorSpdP
import Derived.Deep.RegionHeld3
namespace Go.Proofs.YthjdknddcceigaaDoor
open Go.RowKit Go.Deep
theorem spreadDelay_walk (p : Int) (cInputs : Int) (cGates : List (Int × Int × Int × Int)) (A_cGates : Option Addr) (c_cGates : Nat) (l_cGates : List Addr) (cOutputs : List (Int)) (A_cOutputs : Option Addr) (c_cOutputs : Nat) (l_cOutputs : List Addr) (g : Int) (w : World) (_i_p : -9223372036854775808 ≤ p ∧ p ≤ 9223372036854775807) (_i_cInputs : -9223372036854775808 ≤ cInputs ∧ cInputs ≤ 9223372036854775807) (s_cGates : Sl (fun _ => True) w (.pair .int (.pair .int (.pair .int .int))) A_cGates c_cGates cGates l_cGates) (_i_cGates : Ty.In (.slice (.pair .int (.pair .int (.pair .int .int)))) cGates) (s_cOutputs : Sl (fun _ => True) w .int A_cOutputs c_cOutputs cOutputs l_cOutputs) (_i_cOutputs : Ty.In (.slice .int) cOutputs) (_i_g : -9223372036854775808 ≤ g ∧ g ≤ 9223372036854775807) (tab : Tab w) :
    Calls Tryd.prog 5 #[.int .i64 p, .agg #[.int .i64 cInputs, .slice A_cGates cGates.length c_cGates, .slice A_cOutputs cOutputs.length c_cOutputs], .int .i64 g] w fun e w' => e = .returned (.bool true) ∧ Below w.heap.size w w' := by
  have hl : L_laws_FnExactSpreadDelay p cInputs cGates cOutputs g = some true := P_lawSp (sl_len s_cGates).2 (sl_len s_cOutputs).2
  refine (ok_laws_FnExactSpreadDelay hl w (fun _ => True) [.int .i64 p, .agg #[.int .i64 cInputs, .slice A_cGates cGates.length c_cGates, .slice A_cOutputs cOutputs.length c_cOutputs], .int .i64 g] (fun w' hb => tab.below hb) ⟨_, _, rfl, rfl, ⟨_, _, rfl, ⟨_, rfl, ⟨_, _, rfl, rfl, ⟨_, _, rfl, ⟨A_cGates, c_cGates, l_cGates, rfl, s_cGates⟩, ⟨_, _, rfl, ⟨A_cOutputs, c_cOutputs, l_cOutputs, rfl, s_cOutputs⟩, rfl⟩⟩⟩⟩, ⟨_, _, rfl, rfl, rfl⟩⟩⟩).mono ?_
  rintro e w' ⟨u, rfl, hb, us, ls, h1, _, rfl⟩
  obtain ⟨u1, us1, rfl, h2, _, rfl, rfl⟩ := h1
  obtain rfl : u1 = .bool true := h2
  exact ⟨rfl, hb⟩
end Go.Proofs.YthjdknddcceigaaDoor
