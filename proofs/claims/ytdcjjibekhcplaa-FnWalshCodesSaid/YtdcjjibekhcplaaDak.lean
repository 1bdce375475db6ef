/- Sums by codes, evaluated: 64. -/
import Derived.Test.YtdcjjibekhcplaaDaj
namespace Go.Ax
open Go Go.Proofs

theorem sum6 : SumRun 64 6 := fun x => by kernel_rfl
theorem ssum6 : SumRun 65 6 := fun x => by kernel_rfl
end Go.Ax
