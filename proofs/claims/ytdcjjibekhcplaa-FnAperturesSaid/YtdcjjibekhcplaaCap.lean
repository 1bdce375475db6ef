/- Correlations evaluated: the longest, of spec. -/
import Derived.Test.YtdcjjibekhcplaaCao
namespace Go.Ax
open Go Go.Proofs

theorem scor31a : ∀ x y, condsP (rB 55 31 31 x y) (List.replicate (31 * 31 + 1) false) = ((!cond (!finL (xL 31 x)) true (!finL (xL 31 y))) :: testL 31 (coT 31 x y)) := fun x y => by kernel_rfl
theorem scor31b : ∀ x y, outK 2 ((rB 55 31 31 x y).at (List.replicate (31 * 31 + 1) false)) = some (plusL 31 (coT 31 x y) idD, .i true .i64 0, true) := fun x y => by kernel_rfl
theorem scor31c : ∀ x y, offK 2 3 (31 * 31) ((rB 55 31 31 x y).at [false]) = true := fun x y => by kernel_rfl
theorem scor31d : ∀ x y, badK 2 1 ((rB 55 31 31 x y).at [true]) = true := fun x y => by kernel_rfl
set_option maxRecDepth 100000 in
theorem scor31 : SCorRun 31 := fun x y => Prod.ext (scor31a x y) (Prod.ext (scor31b x y) (Prod.ext (scor31c x y) (scor31d x y)))
end Go.Ax
