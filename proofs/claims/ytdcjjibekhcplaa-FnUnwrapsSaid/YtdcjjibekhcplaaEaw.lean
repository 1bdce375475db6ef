/- spec.UnwrapFlood: one round of its inner loop on sides of 8, places 0 to 15. -/
import Derived.Test.YtdcjjibekhcplaaEar
namespace Go.Ax
open Go Go.Proofs

section
variable (x0 : Nat → Int) (X : Nat → Nat × Nat) (os : List Int) (M : Nat → Bool) (qs : List Int) (k : Nat)
def pi80 : List (Nat × Nat) := (List.range 16).flatMap fun p => (List.range 4).map fun i => (0 + p, i)
theorem si_8t0 : pi80.map (fun z => siG true x0 X os M qs k 8 z.1 z.2) = pi80.map fun z => siW true x0 X os M qs k 8 z.1 z.2 := by kernel_rfl
theorem si_8f0 : pi80.map (fun z => siG false x0 X os M qs k 8 z.1 z.2) = pi80.map fun z => siW false x0 X os M qs k 8 z.1 z.2 := by kernel_rfl
end
end Go.Ax
