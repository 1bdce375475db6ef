/- Sums by codes, evaluated: up to 16. -/
import Derived.Test.YtdcjjibekhcplaaDah
namespace Go.Ax
open Go Go.Proofs

theorem sum0 : SumRun 64 0 := fun x => by kernel_rfl
theorem ssum0 : SumRun 65 0 := fun x => by kernel_rfl
theorem back0 : BackRun 0 := fun x => by kernel_rfl
theorem sback0 : SBackRun 0 := fun x => by kernel_rfl
theorem sum1 : SumRun 64 1 := fun x => by kernel_rfl
theorem ssum1 : SumRun 65 1 := fun x => by kernel_rfl
theorem back1 : BackRun 1 := fun x => by kernel_rfl
theorem sback1 : SBackRun 1 := fun x => by kernel_rfl
theorem sum2 : SumRun 64 2 := fun x => by kernel_rfl
theorem ssum2 : SumRun 65 2 := fun x => by kernel_rfl
theorem back2 : BackRun 2 := fun x => by kernel_rfl
theorem sback2 : SBackRun 2 := fun x => by kernel_rfl
theorem sum3 : SumRun 64 3 := fun x => by kernel_rfl
theorem ssum3 : SumRun 65 3 := fun x => by kernel_rfl
theorem back3 : BackRun 3 := fun x => by kernel_rfl
theorem sback3 : SBackRun 3 := fun x => by kernel_rfl
theorem sum4 : SumRun 64 4 := fun x => by kernel_rfl
theorem ssum4 : SumRun 65 4 := fun x => by kernel_rfl
theorem back4 : BackRun 4 := fun x => by kernel_rfl
theorem sback4 : SBackRun 4 := fun x => by kernel_rfl
end Go.Ax
