/- impl.UnwrapFlood: one round of its inner loop on sides of 8, places 48 to 63. -/
import Derived.Test.YtdcjjibekhcplaaEbb
namespace Go.Ax
open Go Go.Proofs

section
variable (x0 : Nat → Int) (X : Nat → Nat × Nat) (os : List Int) (M : Nat → Bool) (s : AV) (Q : AB)
def pj83 : List (Nat × Nat) := (List.range 16).flatMap fun p => (List.range 4).map fun i => (48 + p, i)
theorem ui_8t3 : pj83.map (fun z => uiG x0 X os M s Q true 8 z.1 z.2) = pj83.map fun z => uiW x0 X os M s Q true 8 z.1 z.2 := by kernel_rfl
theorem ui_8f3 : pj83.map (fun z => uiG x0 X os M s Q false 8 z.1 z.2) = pj83.map fun z => uiW x0 X os M s Q false 8 z.1 z.2 := by kernel_rfl
end
end Go.Ax
