/- Decoded shadows evaluated: the longest, of spec. -/
import Derived.Test.YtdcjjibekhcplaaCak
namespace Go.Ax
open Go Go.Proofs

theorem sdec31a : ∀ x, condsP (rA 52 31 x) (List.replicate (31 * 31 + 1) false) = ((!!finL (xL 31 x)) :: testL 31 (deT 31 x)) := fun x => by kernel_rfl
theorem sdec31b : ∀ x, outR ((rA 52 31 x).at (List.replicate (31 * 31 + 1) false)) = some (plusL 31 (deT 31 x) (deD 31), .i true .i64 0, true) := fun x => by kernel_rfl
theorem sdec31c : ∀ x, offB 3 (31 * 31) ((rA 52 31 x).at [false]) = true := fun x => by kernel_rfl
set_option maxRecDepth 100000 in
theorem sdec31 : SDecRun 31 := fun x => Prod.ext (sdec31a x) (Prod.ext (sdec31b x) (sdec31c x))
end Go.Ax
