/- SlopesOf, of both sides: rows. -/
import Derived.Test.YtdcjjibekhcplaaEbn
namespace Go.Ax
open Go Go.Proofs

noncomputable def rowsSo : List (FuncId × Table) := [(178, isMapT), (184, isMapT), (183, cmRow), (185, moRow)]
theorem rowsSo_at : allAt Try.prog rowsSo := ⟨isMap_at, isMap2_at, cm_at, mo_at, trivial⟩
noncomputable def tabSo : Table := tabOf (cdeep Try.prog rowsSo [92, 93] 4000 6)
theorem tabSo_sound : SoundT Try.prog tabSo := cdeep_sound (allAt_mem rowsSo_at) 6
noncomputable def soR (f : FuncId) (m : Nat) (x : Nat → Int) : Res := resU tabSo f [.i true .i64 m, .sl true 0 0 (m * m) 1] (lb (zXL (m * m) x))
noncomputable def soG (f m : Nat) (x : Nat → Int) : List Bool × Option (AV × List AB × Bool) := (condsP (soR f m x) [false], lastD ((soR f m x).at [false]))
noncomputable def soW (m : Nat) (x : Nat → Int) : List Bool × Option (AV × List AB × Bool) := ([!!isMapZ m (zXL (m * m) x)], some (.tup [.sl true 1 0 2 1, .i true .i64 0], [.cells false (.ints .i64 (zXL (m * m) x)), .cells true (.lit [.i false .i64 (mostZ (dxL m x)), .i false .i64 (mostZ (dyL m x))])], true))
theorem so92_1 (x : Nat → Int) : soG 92 1 x = soW 1 x := by kernel_rfl
theorem so92_2 (x : Nat → Int) : soG 92 2 x = soW 2 x := by kernel_rfl
theorem so92_4 (x : Nat → Int) : soG 92 4 x = soW 4 x := by kernel_rfl
theorem so92_8 (x : Nat → Int) : soG 92 8 x = soW 8 x := by kernel_rfl
end Go.Ax
