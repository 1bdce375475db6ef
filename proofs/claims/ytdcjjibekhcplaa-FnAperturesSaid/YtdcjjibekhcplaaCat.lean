/- IsBalanced evaluated. -/
import Derived.Test.YtdcjjibekhcplaaCas
namespace Go.Ax
open Go Go.Proofs

theorem bal1 : BalRun 1 := fun x => by kernel_rfl
theorem bal2 : BalRun 2 := fun x => by kernel_rfl
theorem bal3 : BalRun 3 := fun x => by kernel_rfl
theorem bal4 : BalRun 4 := fun x => by kernel_rfl
theorem bal5 : BalRun 5 := fun x => by kernel_rfl
theorem bal6 : BalRun 6 := fun x => by kernel_rfl
theorem bal7 : BalRun 7 := fun x => by kernel_rfl
theorem bal8 : BalRun 8 := fun x => by kernel_rfl
theorem bal11 : BalRun 11 := fun x => by kernel_rfl
theorem bal19 : BalRun 19 := fun x => by kernel_rfl
theorem bal23 : BalRun 23 := fun x => by kernel_rfl
theorem bal31 : BalRun 31 := fun x => by kernel_rfl
theorem sbal1 : SBalRun 1 := fun x => by kernel_rfl
theorem sbal2 : SBalRun 2 := fun x => by kernel_rfl
theorem sbal3 : SBalRun 3 := fun x => by kernel_rfl
theorem sbal4 : SBalRun 4 := fun x => by kernel_rfl
theorem sbal5 : SBalRun 5 := fun x => by kernel_rfl
theorem sbal6 : SBalRun 6 := fun x => by kernel_rfl
theorem sbal7 : SBalRun 7 := fun x => by kernel_rfl
theorem sbal8 : SBalRun 8 := fun x => by kernel_rfl
theorem sbal11 : SBalRun 11 := fun x => by kernel_rfl
theorem sbal19 : SBalRun 19 := fun x => by kernel_rfl
theorem sbal23 : SBalRun 23 := fun x => by kernel_rfl
end Go.Ax
