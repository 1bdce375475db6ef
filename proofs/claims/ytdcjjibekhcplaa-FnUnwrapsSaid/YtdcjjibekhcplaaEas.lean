/- spec.UnwrapFlood: its beginning, evaluated for each side and place. -/
import Derived.Test.YtdcjjibekhcplaaEar
namespace Go.Ax
open Go Go.Proofs

noncomputable def bwC (wc s : Int) (X : Nat → Nat × Nat) : Bool := cond (eqQ false wc 1) true (!isMaskB s (reX X))
noncomputable def swC (wc : Int) (X : Nat → Nat × Nat) (p : Nat) : Bool := cond (!eqQ false wc 0) true (feq .f32 (X p).1 0 && feq .f32 (X p).2 0)
def floodIni (N : Nat) (x0 : Nat → Int) (p : Nat) : List Int := (List.replicate N 0).set p (x0 p)
def litMet (N p : Nat) : AB := .cells true (.lit ((List.range N).map fun j => .b true (Nat.beq j p)))
def sfHt (n : Int) (N : Nat) (x0 : Nat → Int) (X : Nat → Nat × Nat) : List AB := [.cells false (.ints .i64 (zXL N x0)), .cells true (.lit (.i true .i64 n :: (List.range 64).map (cx X)))]
section
variable (m : Nat) (x0 : Nat → Int) (X : Nat → Nat × Nat) (p : Nat)
noncomputable def sgA : Res := sfA m (m * m) x0 X ((p / m : Nat) : Int) ((p % m : Nat) : Int)
noncomputable def sgAG := (condsP (sgA m x0 X p) [false, false], lfM sfM ((sgA m x0 X p).at [false, false]), condsP (sgA m x0 X p) [false, true], endOf Try.prog Try.f87.results.toList ((sgA m x0 X p).at [false, true]))
noncomputable def sgAW : List Bool × (Bool × List Item × List AV × List AB × List Bool) × List Bool × Option (Option (List AV × List Bool) × List AB × List Bool) :=
  ([!bwC (wcZ m (zXL (m * m) x0)) m X, !swC (wcZ m (zXL (m * m) x0)) X p], (true, sfL, (sfT m (m * m) ((p / m : Nat) : Int) ((p % m : Nat) : Int)).map AV.bare, sfHt m (m * m) x0 X, [true, true, true]),
   [!bwC (wcZ m (zXL (m * m) x0)) m X, swC (wcZ m (zXL (m * m) x0)) X p], some (some ([.slnil, .i true .i64 5], []), sfHt m (m * m) x0 X, [true, true, true]))
noncomputable def sgB : Res := sfB m (m * m) x0 X ((p / m : Nat) : Int) ((p % m : Nat) : Int)
noncomputable def sgBG := lfM sfM2 (sgB m x0 X p)
noncomputable def sgBW : Bool × List Item × List AV × List AB × List Bool := (true, [], (sfT2 m (m * m) ((p / m : Nat) : Int) ((p % m : Nat) : Int)).map AV.bare, sfH2 m (m * m) x0 X (Int.ofNat p), [])
noncomputable def sgD : Res := sfD m (m * m) x0 X ((p / m : Nat) : Int) ((p % m : Nat) : Int)
def sgM : List Bool := maskOf 190 [(0, .any), (1, .any), (7, .any), (13, .any), (14, .any), (15, .any), (16, .any), (17, .any), (18, .any)]
noncomputable def sgDG := (condsP (sgD m x0 X p) [], lfM sgM (sgD m x0 X p))
def sgH0 : List AB := sfH m (m * m) x0 X ++ [.cells true (.ints .i64 (floodIni (m * m) x0 p)), litMet (m * m) p, .cells true (.lit [.i true .i64 (Int.ofNat p)]), rowB, colB]
noncomputable def sgDW : List Bool × Bool × List Item × List AV × List AB × List Bool := ([], true, sgL, (sgTl false m (m * m) (.sl true 4 0 1 1) 0 []).map AV.bare, sgH0 m x0 X p, [true, true])
end
section
variable (x0 : Nat → Int) (X : Nat → Nat × Nat)
theorem sgA_1 : (List.range 1).map (sgAG 1 x0 X) = (List.range 1).map (sgAW 1 x0 X) := by kernel_rfl
theorem sgA_2 : (List.range 4).map (sgAG 2 x0 X) = (List.range 4).map (sgAW 2 x0 X) := by kernel_rfl
theorem sgB_1 : (List.range 1).map (sgBG 1 x0 X) = (List.range 1).map (sgBW 1 x0 X) := by kernel_rfl
theorem sgB_2 : (List.range 4).map (sgBG 2 x0 X) = (List.range 4).map (sgBW 2 x0 X) := by kernel_rfl
theorem sgD_1 : (List.range 1).map (sgDG 1 x0 X) = (List.range 1).map (sgDW 1 x0 X) := by kernel_rfl
theorem sgD_2 : (List.range 4).map (sgDG 2 x0 X) = (List.range 4).map (sgDW 2 x0 X) := by kernel_rfl
end
end Go.Ax
