/- impl.UnwrapFlood: its beginning on sides of 4 and 8: up to the open region. -/
import Derived.Test.YtdcjjibekhcplaaEba
namespace Go.Ax
open Go Go.Proofs

section
variable (x0 : Nat → Int) (X : Nat → Nat × Nat)
theorem uhA_4 : (List.range 16).map (uhAG 4 x0 X) = (List.range 16).map (uhAW 4 x0 X) := by kernel_rfl
theorem uhA_8 : (List.range 64).map (uhAG 8 x0 X) = (List.range 64).map (uhAW 8 x0 X) := by kernel_rfl
end
end Go.Ax
