/- Shadows evaluated: the longest, of spec. -/
import Derived.Test.YtdcjjibekhcplaaCai
namespace Go.Ax
open Go Go.Proofs

theorem sshad31a : ∀ x, condsP (rA 49 31 x) (List.replicate (31 * 31 + 1) false) = ((!!finL (xL 31 x)) :: testL 31 (shT 31 x)) := fun x => by kernel_rfl
theorem sshad31b : ∀ x, outR ((rA 49 31 x).at (List.replicate (31 * 31 + 1) false)) = some (plusL 31 (shT 31 x) idD, .i true .i64 0, true) := fun x => by kernel_rfl
theorem sshad31c : ∀ x, offB 3 (31 * 31) ((rA 49 31 x).at [false]) = true := fun x => by kernel_rfl
set_option maxRecDepth 100000 in
theorem sshad31 : SShadRun 31 := fun x => Prod.ext (sshad31a x) (Prod.ext (sshad31b x) (sshad31c x))
end Go.Ax
