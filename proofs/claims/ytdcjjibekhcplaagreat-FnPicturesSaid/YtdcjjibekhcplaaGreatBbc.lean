/- impl's halftone: all cells of its loop, evaluated. -/
import Derived.Test.YtdcjjibekhcplaaGreatBbb
namespace Go.Ax
open Go Go.Proofs

section
variable (B0 B2 B7 B8 : AB) (t : Nat) (S : Nat → Nat) (c : Int) (Y : Nat → Nat × Nat) (H : List AB)
noncomputable def hK (n : Int) : List AB := hH B0 B2 B7 B8 n t S (.i false .i64 c) (wcells n Y)
noncomputable def hK1 (n : Int) (k : Nat) (v : AV) : List AB := hH B0 B2 B7 B8 n t (htS n.toNat t k S) (.i false .i64 (htC t (S k) c)) (wcells1 n k v Y)
noncomputable def stL (n : Int) (k : Nat) : (List Bool × (Bool × List Item × List AV × List AB × List Bool)) × (List Bool × (Bool × List Item × List AV × List AB × List Bool)) × (List Bool × (Bool × List Item × List AV × List AB × List Bool)) × (List Bool × (Bool × List Item × List AV × List AB × List Bool)) :=
  ((condsP (wbA n k H) [], lfM wbM5 ((wbA n k H).at [])),
   (condsP (wbB n k (hK B0 B2 B7 B8 t S c Y n)) [true], lfM wbM ((wbB n k (hK B0 B2 B7 B8 t S c Y n)).at [true])),
   (condsP (wbB n k (hK B0 B2 B7 B8 t S c Y n)) [false], lfM wbM ((wbB n k (hK B0 B2 B7 B8 t S c Y n)).at [false])),
   (condsP (wbD n k H) [], lfM wbM ((wbD n k H).at [])))
noncomputable def stQ (n : Int) (k : Nat) : (List Bool × (Bool × List Item × List AV × List AB × List Bool)) × (List Bool × (Bool × List Item × List AV × List AB × List Bool)) × (List Bool × (Bool × List Item × List AV × List AB × List Bool)) × (List Bool × (Bool × List Item × List AV × List AB × List Bool)) :=
  (([], (true, wbL5, (wbT5 n k).map AV.bare, H, [])),
   ([fge .f32 (S k) t], (true, [], (wbT n k).map AV.bare, hK1 B0 B2 B7 B8 t S c Y n k (.c true .f32 1065353216 0), [])),
   ([!fge .f32 (S k) t], (true, [], (wbT n k).map AV.bare, hK1 B0 B2 B7 B8 t S c Y n k (.c true .f32 0 0), [])),
   ([], (true, wbR, (wbT n (k + 1)).map AV.bare, H, [])))
theorem st_1 : (List.range 1).map (stL B0 B2 B7 B8 t S c Y H 1) = (List.range 1).map (stQ B0 B2 B7 B8 t S c Y H 1) := by kernel_rfl
theorem st_2 : (List.range 4).map (stL B0 B2 B7 B8 t S c Y H 2) = (List.range 4).map (stQ B0 B2 B7 B8 t S c Y H 2) := by kernel_rfl
theorem st_4 : (List.range 16).map (stL B0 B2 B7 B8 t S c Y H 4) = (List.range 16).map (stQ B0 B2 B7 B8 t S c Y H 4) := by kernel_rfl
theorem st_8 : (List.range 64).map (stL B0 B2 B7 B8 t S c Y H 8) = (List.range 64).map (stQ B0 B2 B7 B8 t S c Y H 8) := by kernel_rfl
end
end Go.Ax
