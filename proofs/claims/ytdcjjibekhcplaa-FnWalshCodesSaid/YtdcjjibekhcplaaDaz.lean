/- PictureOfSums of impl evaluated: side 8. -/
import Derived.Test.YtdcjjibekhcplaaDay
namespace Go.Ax
open Go Go.Proofs

theorem po8 : PoRun 76 64 8 6 (backL 6) := fun x => by kernel_rfl
end Go.Ax
