/- The law FnExactMergeBranches returns true; conditions: the arguments read as data, the table of primes lies in memory. -/
import Derived.Test.YtefolocdfgelcaaDoorMrgP
import Derived.Deep.RegionHeld3
namespace Go.Proofs.YtefolocdfgelcaaDoor
open Go.RowKit Go.Deep
theorem mergeBranches_walk (p : Int) (nNodes : Int) (nBranches : List (Int × Int × Int)) (A_nBranches : Option Addr) (c_nBranches : Nat) (l_nBranches : List Addr) (nLeft : List (Int)) (A_nLeft : Option Addr) (c_nLeft : Nat) (l_nLeft : List Addr) (nRight : List (Int)) (A_nRight : Option Addr) (c_nRight : Nat) (l_nRight : List Addr) (w : World) (_i_p : -9223372036854775808 ≤ p ∧ p ≤ 9223372036854775807) (_i_nNodes : -9223372036854775808 ≤ nNodes ∧ nNodes ≤ 9223372036854775807) (s_nBranches : Sl (fun _ => True) w (.pair .int (.pair .int .int)) A_nBranches c_nBranches nBranches l_nBranches) (_i_nBranches : Ty.In (.slice (.pair .int (.pair .int .int))) nBranches) (s_nLeft : Sl (fun _ => True) w .int A_nLeft c_nLeft nLeft l_nLeft) (_i_nLeft : Ty.In (.slice .int) nLeft) (s_nRight : Sl (fun _ => True) w .int A_nRight c_nRight nRight l_nRight) (_i_nRight : Ty.In (.slice .int) nRight) (tab : Tab w) :
    Calls Tryd.prog 7 #[.int .i64 p, .agg #[.int .i64 nNodes, .slice A_nBranches nBranches.length c_nBranches, .slice A_nLeft nLeft.length c_nLeft, .slice A_nRight nRight.length c_nRight]] w fun e w' => e = .returned (.bool true) ∧ Below w.heap.size w w' := by
  have hl : L_laws_FnExactMergeBranches p nNodes nBranches nLeft nRight = some true := P_lawMrg (sl_len s_nBranches).2 (sl_len s_nLeft).2 (sl_len s_nRight).2
  refine (ok_laws_FnExactMergeBranches hl w (fun _ => True) [.int .i64 p, .agg #[.int .i64 nNodes, .slice A_nBranches nBranches.length c_nBranches, .slice A_nLeft nLeft.length c_nLeft, .slice A_nRight nRight.length c_nRight]] (fun w' hb => tab.below hb) ⟨_, _, rfl, rfl, ⟨_, _, rfl, ⟨_, rfl, ⟨_, _, rfl, rfl, ⟨_, _, rfl, ⟨A_nBranches, c_nBranches, l_nBranches, rfl, s_nBranches⟩, ⟨_, _, rfl, ⟨A_nLeft, c_nLeft, l_nLeft, rfl, s_nLeft⟩, ⟨_, _, rfl, ⟨A_nRight, c_nRight, l_nRight, rfl, s_nRight⟩, rfl⟩⟩⟩⟩⟩, rfl⟩⟩).mono ?_
  rintro e w' ⟨u, rfl, hb, us, ls, h1, _, rfl⟩
  obtain ⟨u1, us1, rfl, h2, _, rfl, rfl⟩ := h1
  obtain rfl : u1 = .bool true := h2
  exact ⟨rfl, hb⟩
end Go.Proofs.YtefolocdfgelcaaDoor
