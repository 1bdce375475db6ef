/- spec.UnwrapFlood: its beginning on sides of 4 and 8: up to the open region. -/
import Derived.Test.YtdcjjibekhcplaaEas
namespace Go.Ax
open Go Go.Proofs

section
variable (x0 : Nat → Int) (X : Nat → Nat × Nat)
theorem sgA_4 : (List.range 16).map (sgAG 4 x0 X) = (List.range 16).map (sgAW 4 x0 X) := by kernel_rfl
theorem sgA_8 : (List.range 64).map (sgAG 8 x0 X) = (List.range 64).map (sgAW 8 x0 X) := by kernel_rfl
end
end Go.Ax
