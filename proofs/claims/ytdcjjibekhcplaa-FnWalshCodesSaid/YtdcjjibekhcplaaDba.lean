/- PictureOfSums of spec evaluated: side 8. -/
import Derived.Test.YtdcjjibekhcplaaDaz
namespace Go.Ax
open Go Go.Proofs

theorem spo8 : PoRun 77 64 8 6 (sumsL 6) := fun x => by kernel_rfl
end Go.Ax
