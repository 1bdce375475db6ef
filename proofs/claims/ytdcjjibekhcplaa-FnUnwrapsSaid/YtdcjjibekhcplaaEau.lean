/- spec.UnwrapFlood: its beginning on sides of 4 and 8: the open region, and up to the loop. -/
import Derived.Test.YtdcjjibekhcplaaEas
namespace Go.Ax
open Go Go.Proofs

section
variable (x0 : Nat → Int) (X : Nat → Nat × Nat)
theorem sgB_4 : (List.range 16).map (sgBG 4 x0 X) = (List.range 16).map (sgBW 4 x0 X) := by kernel_rfl
theorem sgD_4 : (List.range 16).map (sgDG 4 x0 X) = (List.range 16).map (sgDW 4 x0 X) := by kernel_rfl
theorem sgB_8 : (List.range 64).map (sgBG 8 x0 X) = (List.range 64).map (sgBW 8 x0 X) := by kernel_rfl
theorem sgD_8 : (List.range 64).map (sgDG 8 x0 X) = (List.range 64).map (sgDW 8 x0 X) := by kernel_rfl
end
end Go.Ax
