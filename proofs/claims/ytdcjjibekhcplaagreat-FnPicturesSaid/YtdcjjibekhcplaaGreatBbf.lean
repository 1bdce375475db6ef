/- spec's halftone, evaluated. -/
import Derived.Test.YtdcjjibekhcplaaGreatBbe
namespace Go.Ax
open Go Go.Proofs

noncomputable def sfC : Code := Tryz.f122.body.getD .skip
noncomputable def sf0 (n : Int) (X : Nat → Nat) (t : Nat) : Res := jupto Tryz.prog tabPc (atReg 5) 400 [.code sfC] (pvT true n X :: .f false .f32 t :: undefs 93) []
def sfH2 (n : Int) (X : Nat → Nat) : List AB := [hfB n X, wzero 0]
def sfT2 (t : Nat) : List AV := tmpsOf 95 [(1, .f false .f32 t), (2, .p true 0 0), (4, .p true 1 0)]
def sfM2 : List Bool := maskOf 95 [(1, .any), (2, .any), (4, .any)]
noncomputable def sfL : List Item := ((sf0 1 (fun _ => 0) 0).at [false, false]).todo ++ []
noncomputable def sfOps : Array Oper := match sfL with
  | .code (.region _ ops _) :: _ => ops
  | _ => #[]
noncomputable def sfK : List Item := sfL.drop 1
theorem sfL_eq : sfL = .code (.region 5 sfOps true) :: sfK := by kernel_rfl
def sfT5 (n : Int) (t : Nat) : List AV := tmpsOf 95 [(1, .f false .f32 t), (4, .p true 1 0), (6, .i true .i64 n), (7, .p true 2 0), (8, .p true 3 0)]
def sfM5 : List Bool := maskOf 95 [(1, .any), (4, .any), (6, .any), (7, .any), (8, .any)]
def hqT (n : Int) (t k : Nat) : List AV := tmpsOf 95 [(1, .f false .f32 t), (4, .p true 1 0), (6, .i true .i64 n), (7, .p true 2 0), (8, .p true 3 0), (9, .i true .i64 (Int.ofNat k))]
def hqM : List Bool := maskOf 95 [(1, .any), (4, .any), (6, .any), (7, .any), (8, .any), (9, .any)]
def hqH (B0 : AB) (S : Nat → Nat) (W : AB) : List AB := [B0, wzero 0, W, fcells S]
section
variable (N : Nat) (n : Int) (hn : (N, n) ∈ doNs) (X : Nat → Nat) (t : Nat)
include hn
theorem sf0_ok : ((condsP (sf0 n X t) [true], endV Tryz.prog Tryz.f122.results.toList ((sf0 n X t).at [true])), (condsP (sf0 n X t) [false, true], endV Tryz.prog Tryz.f122.results.toList ((sf0 n X t).at [false, true])), (condsP (sf0 n X t) [false, false], lfM sfM2 ((sf0 n X t).at [false, false]))) =
    (([pBad n (reP X) t], some (some ([.agg (.i true .i64 0 :: List.replicate 64 (.c true .f32 0 0)), .i true .i64 1], []), [])), ([!pBad n (reP X) t, fle .f32 t 0], some (some ([.agg (.i true .i64 0 :: List.replicate 64 (.c true .f32 0 0)), .i true .i64 2], []), [])),
      ([!pBad n (reP X) t, !fle .f32 t 0], (true, sfL, (sfT2 t).map AV.bare, sfH2 n X, []))) := by
  simp only [doNs, List.mem_cons, Prod.mk.injEq, List.not_mem_nil, or_false] at hn
  rcases hn with ⟨rfl, rfl⟩ | ⟨rfl, rfl⟩ | ⟨rfl, rfl⟩ | ⟨rfl, rfl⟩ <;> kernel_rfl
noncomputable def sf5 (n : Int) (X : Nat → Nat) (t : Nat) : Res := runV Tryz.prog tabPc (mkOf 2 [7, 8]) 10 0 (sfOps.toList.take 11) (sfT2 t) (sfH2 n X) (zerB Tryz.prog sfOps 7) [] fun t B nd => .stop [] t [B] nd
noncomputable def sf6 (n : Int) (X : Nat → Nat) (t : Nat) : Res := runOps Tryz.prog tabPc sfOps (sfOps.toList.drop 11) (sf5 n X t).tOf (sfH2 n X ++ wzero n :: [8].map (zerB Tryz.prog sfOps)) (sf5 n X t).nds fun t H nd => .stop [] t H nd
theorem sf5_ok : ((sf5 n X t).isStop, (sf5 n X t).todo, (sf5 n X t).HOf) = (true, [], [wzero n]) := by
  simp only [doNs, List.mem_cons, Prod.mk.injEq, List.not_mem_nil, or_false] at hn
  rcases hn with ⟨rfl, rfl⟩ | ⟨rfl, rfl⟩ | ⟨rfl, rfl⟩ | ⟨rfl, rfl⟩ <;> kernel_rfl
theorem sf6_ok : lfM sfM5 (sf6 n X t) = (true, [], (sfT5 n t).map AV.bare, hqH (hfB n X) X (wzero n), []) := by
  simp only [doNs, List.mem_cons, Prod.mk.injEq, List.not_mem_nil, or_false] at hn
  rcases hn with ⟨rfl, rfl⟩ | ⟨rfl, rfl⟩ | ⟨rfl, rfl⟩ | ⟨rfl, rfl⟩ <;> kernel_rfl
end
theorem sf_ops : Nat.ble 11 sfOps.size = true ∧ drawOK sfOps 11 = true ∧ boxes2OK sfOps 11 10 7 [8] = true := by refine ⟨?_, ?_, ?_⟩ <;> kernel_rfl
/-! ### The loop -/
noncomputable def hq0 (n : Int) (t : Nat) (H : List AB) : Res := jupto Tryz.prog tabPc atLoop 400 sfK (sfT5 n t) H
noncomputable def hqL : List Item := (hq0 1 0 []).todo
noncomputable def hqR : List Item := toLp hqL
theorem hqR_eq : toLp hqR = hqR := by kernel_rfl
theorem hq0_ok (n : Int) (t : Nat) (H : List AB) : (condsP (hq0 n t H) [], lfM hqM ((hq0 n t H).at [])) = ([], (true, hqL, (hqT n t 0).map AV.bare, H, [])) := by kernel_rfl
noncomputable def hqU (n : Int) (t k : Nat) (H : List AB) : Res := jupto Tryz.prog tabPc atLoop 400 hqR (hqT n t k) H
def hqW (o : Bool) (n : Int) (k : Nat) (Y : Nat → Nat × Nat) : AB := .cells true (.lit (.i false .i64 n :: (List.range 64).map fun j => match Nat.beq j k with | true => .c false .f32 (cond o 1065353216 (Y j).1) (cond o 0 (Y j).2) | false => .c false .f32 (Y j).1 (Y j).2))
section
variable (B0 : AB) (t : Nat) (S : Nat → Nat) (Y : Nat → Nat × Nat)
noncomputable def huL (n : Int) (k : Nat) : (List Bool × Option (Option (List AV × List Bool) × List Bool)) × (List Bool × Option (Option (List AV × List Bool) × List Bool)) × (List Bool × (Bool × List Item × List AV × List AB × List Bool)) :=
  ((condsP (hqU n t k (hqH B0 S (wcells n Y))) [true], endV Tryz.prog Tryz.f122.results.toList ((hqU n t k (hqH B0 S (wcells n Y))).at [true])),
   (condsP (hqU n t k (hqH B0 S (wcells n Y))) [false, true], endV Tryz.prog Tryz.f122.results.toList ((hqU n t k (hqH B0 S (wcells n Y))).at [false, true])),
   (condsP (hqU n t k (hqH B0 S (wcells n Y))) [false, false], lfM hqM ((hqU n t k (hqH B0 S (wcells n Y))).at [false, false])))
noncomputable def huQ (n : Int) (k : Nat) : (List Bool × Option (Option (List AV × List Bool) × List Bool)) × (List Bool × Option (Option (List AV × List Bool) × List Bool)) × (List Bool × (Bool × List Item × List AV × List AB × List Bool)) :=
  (([!finB (S k)], some (some ([.agg (.i true .i64 0 :: List.replicate 64 (.c true .f32 0 0)), .i true .i64 3], []), [])),
   ([!!finB (S k), !finB (htR t (S k))], some (some ([.agg (.i true .i64 0 :: List.replicate 64 (.c true .f32 0 0)), .i true .i64 3], []), [])),
   ([!!finB (S k), !!finB (htR t (S k))], (true, hqR, (hqT n t (k + 1)).map AV.bare, hqH B0 (htS n.toNat t k S) (hqW (fge .f32 (S k) t) n k Y), [])))
theorem hu_1 : (List.range 1).map (huL B0 t S Y 1) = (List.range 1).map (huQ B0 t S Y 1) := by kernel_rfl
theorem hu_2 : (List.range 4).map (huL B0 t S Y 2) = (List.range 4).map (huQ B0 t S Y 2) := by kernel_rfl
theorem hu_4 : (List.range 16).map (huL B0 t S Y 4) = (List.range 16).map (huQ B0 t S Y 4) := by kernel_rfl
theorem hu_8 : (List.range 64).map (huL B0 t S Y 8) = (List.range 64).map (huQ B0 t S Y 8) := by kernel_rfl
end
noncomputable def hqE (n : Int) (t N : Nat) (H : List AB) : Res := jupto Tryz.prog tabPc (atCut 99) 400 hqR (hqT n t N) H
theorem hqE_ok (N : Nat) (n : Int) (hn : (N, n) ∈ doNs) (B0 : AB) (t : Nat) (S : Nat → Nat) (Y : Nat → Nat × Nat) : (condsP (hqE n t N (hqH B0 S (wcells n Y))) [], endV Tryz.prog Tryz.f122.results.toList ((hqE n t N (hqH B0 S (wcells n Y))).at [])) =
    ([], some (some ([.agg (waveL n Y), .i true .i64 0], []), [])) := by
  simp only [doNs, List.mem_cons, Prod.mk.injEq, List.not_mem_nil, or_false] at hn
  rcases hn with ⟨rfl, rfl⟩ | ⟨rfl, rfl⟩ | ⟨rfl, rfl⟩ | ⟨rfl, rfl⟩ <;> kernel_rfl
end Go.Ax
