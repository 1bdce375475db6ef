/- spec.UnwrapFlood: one round of its inner loop on sides of 4. -/
import Derived.Test.YtdcjjibekhcplaaEar
namespace Go.Ax
open Go Go.Proofs

section
variable (x0 : Nat → Int) (X : Nat → Nat × Nat) (os : List Int) (M : Nat → Bool) (qs : List Int) (k : Nat)
theorem si_4t : (pis 4).map (fun z => siG true x0 X os M qs k 4 z.1 z.2) = (pis 4).map fun z => siW true x0 X os M qs k 4 z.1 z.2 := by kernel_rfl
theorem si_4f : (pis 4).map (fun z => siG false x0 X os M qs k 4 z.1 z.2) = (pis 4).map fun z => siW false x0 X os M qs k 4 z.1 z.2 := by kernel_rfl
end
end Go.Ax
