/- Correlations evaluated, of impl. -/
import Derived.Test.YtdcjjibekhcplaaCam
namespace Go.Ax
open Go Go.Proofs

theorem cor1 : CorRun 1 := fun x y => by kernel_rfl
theorem cor2 : CorRun 2 := fun x y => by kernel_rfl
theorem cor3 : CorRun 3 := fun x y => by kernel_rfl
theorem cor4 : CorRun 4 := fun x y => by kernel_rfl
theorem cor5 : CorRun 5 := fun x y => by kernel_rfl
theorem cor6 : CorRun 6 := fun x y => by kernel_rfl
theorem cor7 : CorRun 7 := fun x y => by kernel_rfl
theorem cor8 : CorRun 8 := fun x y => by kernel_rfl
theorem cor9 : CorRun 9 := fun x y => by kernel_rfl
theorem cor10 : CorRun 10 := fun x y => by kernel_rfl
theorem cor11 : CorRun 11 := fun x y => by kernel_rfl
theorem cor12 : CorRun 12 := fun x y => by kernel_rfl
theorem cor13 : CorRun 13 := fun x y => by kernel_rfl
theorem cor14 : CorRun 14 := fun x y => by kernel_rfl
theorem cor15 : CorRun 15 := fun x y => by kernel_rfl
theorem cor16 : CorRun 16 := fun x y => by kernel_rfl
theorem cor17 : CorRun 17 := fun x y => by kernel_rfl
theorem cor18 : CorRun 18 := fun x y => by kernel_rfl
theorem cor19 : CorRun 19 := fun x y => by kernel_rfl
theorem cor20 : CorRun 20 := fun x y => by kernel_rfl
theorem cor23 : CorRun 23 := fun x y => by kernel_rfl
theorem cor31 : CorRun 31 := fun x y => by kernel_rfl
theorem off1 : CorOff 1 2 := fun x y => by kernel_rfl
theorem off2 : CorOff 2 3 := fun x y => by kernel_rfl
theorem off3 : CorOff 3 4 := fun x y => by kernel_rfl
theorem off4 : CorOff 4 5 := fun x y => by kernel_rfl
theorem off5 : CorOff 5 6 := fun x y => by kernel_rfl
theorem off6 : CorOff 6 7 := fun x y => by kernel_rfl
theorem off7 : CorOff 7 8 := fun x y => by kernel_rfl
theorem off8 : CorOff 8 9 := fun x y => by kernel_rfl
theorem off9 : CorOff 9 10 := fun x y => by kernel_rfl
theorem off10 : CorOff 10 11 := fun x y => by kernel_rfl
theorem off11 : CorOff 11 12 := fun x y => by kernel_rfl
theorem off12 : CorOff 12 13 := fun x y => by kernel_rfl
theorem off13 : CorOff 13 14 := fun x y => by kernel_rfl
theorem off14 : CorOff 14 15 := fun x y => by kernel_rfl
theorem off15 : CorOff 15 16 := fun x y => by kernel_rfl
theorem off16 : CorOff 16 17 := fun x y => by kernel_rfl
theorem off17 : CorOff 17 18 := fun x y => by kernel_rfl
theorem off18 : CorOff 18 19 := fun x y => by kernel_rfl
theorem off19 : CorOff 19 20 := fun x y => by kernel_rfl
theorem off20 : CorOff 20 21 := fun x y => by kernel_rfl
theorem soff1 : SCorOff 1 2 := fun x y => by kernel_rfl
theorem soff2 : SCorOff 2 3 := fun x y => by kernel_rfl
theorem soff3 : SCorOff 3 4 := fun x y => by kernel_rfl
theorem soff4 : SCorOff 4 5 := fun x y => by kernel_rfl
theorem soff5 : SCorOff 5 6 := fun x y => by kernel_rfl
theorem soff6 : SCorOff 6 7 := fun x y => by kernel_rfl
theorem soff7 : SCorOff 7 8 := fun x y => by kernel_rfl
theorem soff8 : SCorOff 8 9 := fun x y => by kernel_rfl
theorem soff9 : SCorOff 9 10 := fun x y => by kernel_rfl
theorem soff10 : SCorOff 10 11 := fun x y => by kernel_rfl
theorem soff11 : SCorOff 11 12 := fun x y => by kernel_rfl
theorem soff12 : SCorOff 12 13 := fun x y => by kernel_rfl
theorem soff13 : SCorOff 13 14 := fun x y => by kernel_rfl
theorem soff14 : SCorOff 14 15 := fun x y => by kernel_rfl
theorem soff15 : SCorOff 15 16 := fun x y => by kernel_rfl
theorem soff16 : SCorOff 16 17 := fun x y => by kernel_rfl
theorem soff17 : SCorOff 17 18 := fun x y => by kernel_rfl
theorem soff18 : SCorOff 18 19 := fun x y => by kernel_rfl
theorem soff19 : SCorOff 19 20 := fun x y => by kernel_rfl
theorem soff20 : SCorOff 20 21 := fun x y => by kernel_rfl
end Go.Ax
