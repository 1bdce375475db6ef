/- IsBalanced evaluated: the longest, of spec. -/
import Derived.Test.YtdcjjibekhcplaaCat
namespace Go.Ax
open Go Go.Proofs

theorem sbal31a : ∀ x, condsP (rBal 58 31 x) (List.replicate (31 + 31 * 31 + (31 - 2) + 1) false) = ((!!finL (xL 31 x)) :: balQ 31 x) := fun x => by kernel_rfl
theorem sbal31b : ∀ x, (balV ((rBal 58 31 x).at (List.replicate (31 + 31 * 31 + (31 - 2) + 1) false))).map (fun r => (r.1, r.2.1, allT r.2.2)) = some (true, 0, true) := fun x => by kernel_rfl
theorem sbal31c : ∀ x, offL (balK 31) ((rBal 58 31 x).at [false]) = true := fun x => by kernel_rfl
theorem sbal31d : ∀ x, balV ((rBal 58 31 x).at [true]) = some (false, 1, []) := fun x => by kernel_rfl
set_option maxRecDepth 100000 in
theorem sbal31 : SBalRun 31 := fun x => Prod.ext (sbal31a x) (Prod.ext (sbal31b x) (Prod.ext (sbal31c x) (sbal31d x)))
end Go.Ax
