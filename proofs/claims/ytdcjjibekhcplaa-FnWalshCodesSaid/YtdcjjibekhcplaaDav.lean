/- SumOfPicture, of both sides: what is to be evaluated. -/
import Derived.Test.YtdcjjibekhcplaaDau
namespace Go.Ax
open Go Go.Proofs

noncomputable def tabPs : Table := tabOf (jdeep Try.prog rowsWc (245 :: 73 :: 162 :: 74 :: 164 :: inlW) 40000 10)
theorem tabPs_sound : SoundT Try.prog tabPs := jdeep_sound rowsWc_at 10
noncomputable def rPs (f : FuncId) (n k : Int) (X : Nat → Nat) : Res := tabPs f [pvT true n X, .i false .i64 k] [] [] fun v H nd => .ret v H nd
noncomputable def smT (X : Nat → Nat) (k j : Nat) : Nat := fmul .f32 (X j) (walF k j)
noncomputable def smS (X : Nat → Nat) (k m : Nat) : Nat := accF (smT X k) m
def nmV (l : Bool) (x : Nat) (m : Bool) (c : Int) : AV := .tup [.f l .f32 x, .i m .i64 c]
/-- A bad way: zero and a code. -/
def badP (c : Nat) : Res → Option (List Bool)
  | .ret v _ nd => match v with
    | .tup [.f _ .f32 x, .i _ .i64 n] => match Nat.beq x 0 && eqL n (Int.ofNat c) with
      | true => some nd
      | false => none
    | _ => none
  | _ => none
def chainP (c : Nat) : Nat → Res → Option (List (List Bool))
  | 0, _ => some []
  | n + 1, .ite _ x y => match badP c x, chainP c n y with
    | some nd, some L => some (nd :: L)
    | _, _ => none
  | _ + 1, _ => none
noncomputable def smV (X : Nat → Nat) (k N : Nat) : AV := nmV false (plusF (cond (!finB (smS X k N)) 0 (smS X k N))) false (cond (!finB (smS X k N)) 3 0)
def PsRun (N : Nat) (n : Int) : Prop := ∀ k X, ((condsP (rPs 73 n k X) [true], badP 1 ((rPs 73 n k X).at [true])), (condsP (rPs 73 n k X) [false, true], badP 2 ((rPs 73 n k X).at [false, true])), (condsP (rPs 73 n k X) [false, false], leafP ((rPs 73 n k X).at [false, false]))) =
  (([!isPicB n (reP X)], some []), ([!!isPicB n (reP X), !inK (Int.ofNat N) k], some []), ([!!isPicB n (reP X), !!inK (Int.ofNat N) k], some (smV X k.toNat N, List.replicate N (in64 k && true))))
def SpsRun (N : Nat) (n : Int) : Prop := ∀ k X, ((condsP (rPs 74 n k X) [true], badP 1 ((rPs 74 n k X).at [true])), (condsP (rPs 74 n k X) [false, true], badP 2 ((rPs 74 n k X).at [false, true])), (condsP (rPs 74 n k X) (false :: false :: List.replicate N false), leafP ((rPs 74 n k X).at (false :: false :: List.replicate N false))), chainP 3 N ((rPs 74 n k X).at [false, false])) =
  (([!isPicB n (reP X)], some []), ([!!isPicB n (reP X), !inK (Int.ofNat N) k], some []), (((!!isPicB n (reP X)) :: (!!inK (Int.ofNat N) k) :: (List.range N).map fun m => !!finB (smS X k.toNat (m + 1))), some (nmV false (plusF (smS X k.toNat N)) true 0, List.replicate N true ++ [in64 k])), some ((List.range N).map fun m => List.replicate (m + 1) true ++ [in64 k]))
theorem ps1 : PsRun 1 1 := fun k X => by kernel_rfl
theorem ps2 : PsRun 4 2 := fun k X => by kernel_rfl
theorem sps1 : SpsRun 1 1 := fun k X => by kernel_rfl
theorem sps2 : SpsRun 4 2 := fun k X => by kernel_rfl
theorem ps4 : PsRun 16 4 := fun k X => by kernel_rfl
theorem ps8 : PsRun 64 8 := fun k X => by kernel_rfl
theorem sps4 : SpsRun 16 4 := fun k X => by kernel_rfl
theorem sps8 : SpsRun 64 8 := fun k X => by kernel_rfl
end Go.Ax
