/- impl.UnwrapFlood: one round of its inner loop on sides of 8, places 16 to 31. -/
import Derived.Test.YtdcjjibekhcplaaEbb
namespace Go.Ax
open Go Go.Proofs

section
variable (x0 : Nat → Int) (X : Nat → Nat × Nat) (os : List Int) (M : Nat → Bool) (s : AV) (Q : AB)
def pj81 : List (Nat × Nat) := (List.range 16).flatMap fun p => (List.range 4).map fun i => (16 + p, i)
theorem ui_8t1 : pj81.map (fun z => uiG x0 X os M s Q true 8 z.1 z.2) = pj81.map fun z => uiW x0 X os M s Q true 8 z.1 z.2 := by kernel_rfl
theorem ui_8f1 : pj81.map (fun z => uiG x0 X os M s Q false 8 z.1 z.2) = pj81.map fun z => uiW x0 X os M s Q false 8 z.1 z.2 := by kernel_rfl
end
end Go.Ax
