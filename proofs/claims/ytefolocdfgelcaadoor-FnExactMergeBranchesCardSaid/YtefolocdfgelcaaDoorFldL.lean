/- Whether a number is a prime of the table: the partial function, and that the code does what it says. No condition. -/
import Derived.Test.YtefolocdfgelcaaDoorFld
import Derived.Test.YtefolocdfgelcaaDoorL1
namespace Go.Proofs.YtefolocdfgelcaaDoor
open Go.RowKit Go.Deep
def L_impl_isField (a0 : Int) : Option Bool := some (isF a0)
def rv_impl_isField (r : Bool) : RV := ⟨false, [(false, [.sc (.bool r)])]⟩
theorem hb_impl_isField : hasBody Tryd.prog 88 = true := by kernel_rfl
theorem ok_impl_isField {a0 : Int} {r : Bool} (h : L_impl_isField a0 = some r) : CallOK Tryd.prog Tab 88 [.int .i64 a0] (rv_impl_isField r) := by
  obtain rfl := Option.some.inj h
  intro w im vs hG hr
  obtain ⟨u1, _, rfl, h1, h2⟩ := hr
  obtain rfl : _ = [] := h2
  obtain rfl : u1 = .int .i64 a0 := h1
  refine (isField_any a0 w (hG w (Below.refl _ _))).mono ?_
  rintro e w' ⟨rfl, rfl⟩
  exact ⟨_, rfl, Below.refl _ _, [_], [], ⟨_, [], rfl, rfl, rfl, rfl, rfl⟩, ⟨trivial, fun _ => rfl⟩, rfl⟩
end Go.Proofs.YtefolocdfgelcaaDoor
