/- spec.SlitMask on the greatest side. -/
import Derived.Test.YtdcjjibekhcplaaGreatAas
namespace Go.Ax
open Go Go.Proofs

theorem sl_8_0 : ((List.range 9).map fun w => bar (rSl 8 0 w)) = (List.range 9).map fun w => bar (some (slV 8 0 w, [])) := by kernel_rfl
theorem sl_8_1 : ((List.range 8).map fun w => bar (rSl 8 1 w)) = (List.range 8).map fun w => bar (some (slV 8 1 w, [])) := by kernel_rfl
theorem sl_8_2 : ((List.range 7).map fun w => bar (rSl 8 2 w)) = (List.range 7).map fun w => bar (some (slV 8 2 w, [])) := by kernel_rfl
theorem sl_8_3 : ((List.range 6).map fun w => bar (rSl 8 3 w)) = (List.range 6).map fun w => bar (some (slV 8 3 w, [])) := by kernel_rfl
theorem sl_8_4 : ((List.range 5).map fun w => bar (rSl 8 4 w)) = (List.range 5).map fun w => bar (some (slV 8 4 w, [])) := by kernel_rfl
theorem sl_8_5 : ((List.range 4).map fun w => bar (rSl 8 5 w)) = (List.range 4).map fun w => bar (some (slV 8 5 w, [])) := by kernel_rfl
theorem sl_8_6 : ((List.range 3).map fun w => bar (rSl 8 6 w)) = (List.range 3).map fun w => bar (some (slV 8 6 w, [])) := by kernel_rfl
theorem sl_8_7 : ((List.range 2).map fun w => bar (rSl 8 7 w)) = (List.range 2).map fun w => bar (some (slV 8 7 w, [])) := by kernel_rfl
end Go.Ax
