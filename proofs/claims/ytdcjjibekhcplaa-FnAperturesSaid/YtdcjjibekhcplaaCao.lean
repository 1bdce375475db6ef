/- Correlations evaluated, of spec. -/
import Derived.Test.YtdcjjibekhcplaaCan
namespace Go.Ax
open Go Go.Proofs

theorem scor1 : SCorRun 1 := fun x y => by kernel_rfl
theorem scor2 : SCorRun 2 := fun x y => by kernel_rfl
theorem scor3 : SCorRun 3 := fun x y => by kernel_rfl
theorem scor4 : SCorRun 4 := fun x y => by kernel_rfl
theorem scor5 : SCorRun 5 := fun x y => by kernel_rfl
theorem scor6 : SCorRun 6 := fun x y => by kernel_rfl
theorem scor7 : SCorRun 7 := fun x y => by kernel_rfl
theorem scor8 : SCorRun 8 := fun x y => by kernel_rfl
theorem scor9 : SCorRun 9 := fun x y => by kernel_rfl
theorem scor10 : SCorRun 10 := fun x y => by kernel_rfl
theorem scor11 : SCorRun 11 := fun x y => by kernel_rfl
theorem scor12 : SCorRun 12 := fun x y => by kernel_rfl
theorem scor13 : SCorRun 13 := fun x y => by kernel_rfl
theorem scor14 : SCorRun 14 := fun x y => by kernel_rfl
theorem scor15 : SCorRun 15 := fun x y => by kernel_rfl
theorem scor16 : SCorRun 16 := fun x y => by kernel_rfl
theorem scor17 : SCorRun 17 := fun x y => by kernel_rfl
theorem scor18 : SCorRun 18 := fun x y => by kernel_rfl
theorem scor19 : SCorRun 19 := fun x y => by kernel_rfl
theorem scor20 : SCorRun 20 := fun x y => by kernel_rfl
theorem scor23 : SCorRun 23 := fun x y => by kernel_rfl
end Go.Ax
