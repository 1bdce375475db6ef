/- impl.UnwrapFlood: its beginning on sides of 4 and 8: the open region, and up to the loop. -/
import Derived.Test.YtdcjjibekhcplaaEba
namespace Go.Ax
open Go Go.Proofs

section
variable (x0 : Nat → Int) (X : Nat → Nat × Nat)
theorem uhB_4 : (List.range 16).map (uhBG 4 x0 X) = (List.range 16).map (uhBW 4 x0 X) := by kernel_rfl
theorem uhD_4 : (List.range 16).map (uhDG 4 x0 X) = (List.range 16).map (uhDW 4 x0 X) := by kernel_rfl
theorem uhB_8 : (List.range 64).map (uhBG 8 x0 X) = (List.range 64).map (uhBW 8 x0 X) := by kernel_rfl
theorem uhD_8 : (List.range 64).map (uhDG 8 x0 X) = (List.range 64).map (uhDW 8 x0 X) := by kernel_rfl
end
end Go.Ax
