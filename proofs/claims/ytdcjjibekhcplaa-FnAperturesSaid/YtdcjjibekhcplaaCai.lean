/- Shadows evaluated. -/
import Derived.Test.YtdcjjibekhcplaaCah
namespace Go.Ax
open Go Go.Proofs

theorem shad3 : ShadRun 3 := fun x => by kernel_rfl
theorem shad7 : ShadRun 7 := fun x => by kernel_rfl
theorem shad11 : ShadRun 11 := fun x => by kernel_rfl
theorem shad19 : ShadRun 19 := fun x => by kernel_rfl
theorem shad23 : ShadRun 23 := fun x => by kernel_rfl
theorem shad31 : ShadRun 31 := fun x => by kernel_rfl
theorem sshad3 : SShadRun 3 := fun x => by kernel_rfl
theorem sshad7 : SShadRun 7 := fun x => by kernel_rfl
theorem sshad11 : SShadRun 11 := fun x => by kernel_rfl
theorem sshad19 : SShadRun 19 := fun x => by kernel_rfl
theorem sshad23 : SShadRun 23 := fun x => by kernel_rfl
end Go.Ax
