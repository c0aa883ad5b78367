/- A function that makes a function: the partial function, and that the code does what it says. No condition. -/
import Derived.Test.YtefolocdfgelcaaDoorFldL
namespace Go.Proofs.YtefolocdfgelcaaDoor
open Go.RowKit Go.Deep
def L_impl_shiftedBy (a0 : Int) : Option Int := some a0
def rv_impl_shiftedBy (r : Int) : RV := ⟨false, [(false, [.frz (.fn 101 [.ref [.int .i64 r]])])]⟩
theorem hb_impl_shiftedBy : hasBody Tryd.prog 68 = true := by kernel_rfl
theorem ok_impl_shiftedBy {n : Int} {r : Int} (h : L_impl_shiftedBy n = some r) : CallOK Tryd.prog Tab 68 [.int .i64 n] (rv_impl_shiftedBy r) := by
  obtain rfl := Option.some.inj h
  intro w im vs hG hr
  obtain ⟨u1, _, rfl, h1, h3⟩ := hr
  obtain rfl : _ = [] := h3
  obtain rfl : u1 = .int .i64 n := h1
  go_enter Tryd.func68, Tryd.ntmps68
  go_wp2
  go_ret
  refine ⟨_, rfl, (by repeat (first | with_reducible exact Below.refl _ _ | ((with_reducible refine Below.setCell ?_ ?_ _); rotate_left; focus (first | (simp; done) | omega | (simp; omega))) | ((with_reducible refine Below.alloc ?_ ?_ _); rotate_left; focus (first | (simp; done) | omega | (simp; omega))) | (with_reducible refine Below.drew ?_) | (with_reducible refine below_draws_ ?_ _))), [_], [], ⟨_, [], rfl, ?_, rfl, rfl, rfl⟩, ⟨trivial, fun _ => rfl⟩, rfl⟩
  refine ⟨[_], rfl, _, [], rfl, ⟨w.heap.size, 0, [.int .i64 n], rfl, ⟨by simp, Nat.le_refl _⟩, fun j u hu => ?_, ⟨_, _, rfl, rfl, rfl⟩⟩, rfl⟩
  cases j with
  | zero => obtain rfl := Option.some.inj hu; simp
  | succ j => simp at hu
end Go.Proofs.YtefolocdfgelcaaDoor
