/- Codes of Walsh, evaluated. -/
import Derived.Test.YtdcjjibekhcplaaDao
namespace Go.Ax
open Go Go.Proofs

theorem wk1 : WkRun 61 1 false := fun k => by kernel_rfl
theorem wk2 : WkRun 61 2 false := fun k => by kernel_rfl
theorem wk4 : WkRun 61 4 false := fun k => by kernel_rfl
theorem wk8 : WkRun 61 8 false := fun k => by kernel_rfl
theorem wk16 : WkRun 61 16 false := fun k => by kernel_rfl
theorem wk32 : WkRun 61 32 false := fun k => by kernel_rfl
theorem wk64 : WkRun 61 64 false := fun k => by kernel_rfl
theorem wk12 : WkBad 61 12 := fun k => by kernel_rfl
theorem swk1 : WkRun 62 1 true := fun k => by kernel_rfl
theorem swk2 : WkRun 62 2 true := fun k => by kernel_rfl
theorem swk4 : WkRun 62 4 true := fun k => by kernel_rfl
theorem swk8 : WkRun 62 8 true := fun k => by kernel_rfl
theorem swk16 : WkRun 62 16 true := fun k => by kernel_rfl
theorem swk32 : WkRun 62 32 true := fun k => by kernel_rfl
theorem swk64 : WkRun 62 64 true := fun k => by kernel_rfl
theorem swk12 : WkBad 62 12 := fun k => by kernel_rfl
end Go.Ax
