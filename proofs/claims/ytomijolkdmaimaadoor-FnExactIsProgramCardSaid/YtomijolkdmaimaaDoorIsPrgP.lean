/- Which programs are good: the law as a partial function; no condition. -/
import Derived.Test.YtomijolkdmaimaaDoorIPA
import Derived.Test.YtomijolkdmaimaaDoorPrgP
import Derived.Test.YtomijolkdmaimaaDoorTyP
namespace Go.Proofs.YtomijolkdmaimaaDoor
theorem P_lawIsProgram {p i o c g : Int} {code : List (Int × Int × Int × Int × Int)} (h1 : code.length ≤ 9223372036854775807) : L_laws_FnExactIsProgram p i o c g code = some true := by
  unfold L_laws_FnExactIsProgram
  rw [P_szProgram i o c g code (by omega) h1, Option.bind_some]
  by_cases e0 : (1048576 : Int) < ((code.length : Nat) : Int)
  · rw [show szV 1048576 code.length = -1 from if_pos e0]; rfl
  rw [show szV 1048576 code.length = 1048576 - ((code.length : Nat) : Int) from if_neg e0, dec_f (by omega), cond_false]
  have h1 : code.length ≤ 1073741824 := by omega
  unfold L_spec_IsProgram L_impl_IsProgram
  simp only [P_toProgram i o c g code h1, P_cmGood (p := p) (i := i) (o := o) (c := c) (g := g) (code := code) (by omega), P_isProgram (p := p) (i := i) (o := o) (c := c) (g := g) (code := code) (by omega), P_eqProgram i o c g code h1, Option.bind_some, bne_self_eq_false, Bool.not_true, cond_false]
end Go.Proofs.YtomijolkdmaimaaDoor
