/- Decoded shadows evaluated. -/
import Derived.Test.YtdcjjibekhcplaaCaj
namespace Go.Ax
open Go Go.Proofs

theorem dec3 : DecRun 3 := fun x => by kernel_rfl
theorem dec7 : DecRun 7 := fun x => by kernel_rfl
theorem dec11 : DecRun 11 := fun x => by kernel_rfl
theorem dec19 : DecRun 19 := fun x => by kernel_rfl
theorem dec23 : DecRun 23 := fun x => by kernel_rfl
theorem dec31 : DecRun 31 := fun x => by kernel_rfl
theorem sdec3 : SDecRun 3 := fun x => by kernel_rfl
theorem sdec7 : SDecRun 7 := fun x => by kernel_rfl
theorem sdec11 : SDecRun 11 := fun x => by kernel_rfl
theorem sdec19 : SDecRun 19 := fun x => by kernel_rfl
theorem sdec23 : SDecRun 23 := fun x => by kernel_rfl
end Go.Ax
