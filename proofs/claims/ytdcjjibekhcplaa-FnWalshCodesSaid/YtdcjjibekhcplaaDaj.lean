/- Sums by codes, evaluated: 32. -/
import Derived.Test.YtdcjjibekhcplaaDai
namespace Go.Ax
open Go Go.Proofs

theorem sum5 : SumRun 64 5 := fun x => by kernel_rfl
theorem ssum5 : SumRun 65 5 := fun x => by kernel_rfl
theorem back5 : BackRun 5 := fun x => by kernel_rfl
theorem sback5 : SBackRun 5 := fun x => by kernel_rfl
end Go.Ax
