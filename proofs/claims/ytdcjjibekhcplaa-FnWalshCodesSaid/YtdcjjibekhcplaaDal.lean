/- Sums back, evaluated: 64. -/
import Derived.Test.YtdcjjibekhcplaaDak
namespace Go.Ax
open Go Go.Proofs

theorem back6 : BackRun 6 := fun x => by kernel_rfl
theorem sback6 : SBackRun 6 := fun x => by kernel_rfl
end Go.Ax
