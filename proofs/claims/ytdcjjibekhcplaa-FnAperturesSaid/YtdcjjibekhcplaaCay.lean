/- The law of apertures: its longer ways, evaluated. -/
import Derived.Test.YtdcjjibekhcplaaCax
namespace Go.Ax
open Go Go.Proofs

theorem way19 : WayP 19 := fun c => by kernel_rfl
theorem way23 : WayP 23 := fun c => by kernel_rfl
theorem way31 : WayP 31 := fun c => by kernel_rfl
end Go.Ax
