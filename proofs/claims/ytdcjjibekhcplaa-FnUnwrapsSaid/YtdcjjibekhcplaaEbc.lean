/- impl.UnwrapFlood: one round of its inner loop on sides of 4. -/
import Derived.Test.YtdcjjibekhcplaaEbb
namespace Go.Ax
open Go Go.Proofs

section
variable (x0 : Nat → Int) (X : Nat → Nat × Nat) (os : List Int) (M : Nat → Bool) (s : AV) (Q : AB)
theorem ui_4t : (pis 4).map (fun z => uiG x0 X os M s Q true 4 z.1 z.2) = (pis 4).map fun z => uiW x0 X os M s Q true 4 z.1 z.2 := by kernel_rfl
theorem ui_4f : (pis 4).map (fun z => uiG x0 X os M s Q false 4 z.1 z.2) = (pis 4).map fun z => uiW x0 X os M s Q false 4 z.1 z.2 := by kernel_rfl
end
end Go.Ax
