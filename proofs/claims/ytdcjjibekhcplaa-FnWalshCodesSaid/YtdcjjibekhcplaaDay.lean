/- PictureOfSums evaluated: side 4, and sides that do not fit. -/
import Derived.Test.YtdcjjibekhcplaaDax
namespace Go.Ax
open Go Go.Proofs

theorem po4 : PoRun 76 16 4 4 (backL 4) := fun x => by kernel_rfl
theorem spo4 : PoRun 77 16 4 4 (sumsL 4) := fun x => by kernel_rfl
theorem poff4 : PoOff 76 16 5 := fun x => by kernel_rfl
theorem spoff4 : PoOff 77 16 5 := fun x => by kernel_rfl
theorem poff8 : PoOff 76 64 9 := fun x => by kernel_rfl
theorem spoff8 : PoOff 77 64 9 := fun x => by kernel_rfl
end Go.Ax
