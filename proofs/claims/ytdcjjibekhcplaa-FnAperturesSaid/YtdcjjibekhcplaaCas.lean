/- IsBalanced, of both sides: what is to be evaluated. -/
import Derived.Test.YtdcjjibekhcplaaCar
namespace Go.Ax
open Go Go.Proofs

noncomputable def tabB : Table := tabOf (jdeep Try.prog rowsA (57 :: 58 :: inlA) 40000 10)
theorem tabB_sound : SoundT Try.prog tabB := jdeep_sound rowsA_at 10
noncomputable def rBal (f : FuncId) (n : Nat) (x : Nat → Nat) : Res := tabB f [.sl true 0 0 n 1] (cellsL n x) [] fun v H nd => .ret v H nd
def balV : Res → Option (Bool × Int × List Bool)
  | .ret v _ nd => match v with
    | .tup [.b _ x, .i _ .i64 n] => some (x, n, nd)
    | _ => none
  | _ => none
def pmB (x : Nat) : Bool := cond (!feq .f32 x 1065353216) (!feq .f32 x 3212836864) false
def cS (n : Nat) (x : Nat → Nat) (k : Nat) : Nat := accF (coT n x x k) n
def neB (n : Nat) (x : Nat → Nat) (j : Nat) : Bool := !feq .f32 (cS n x (Nat.succ j)) (cS n x 1)
def JB (b : Nat → Bool) : Nat → Nat → Bool
  | 0, _ => true
  | m + 1, j => (cond (b j) true true) && (cond (!b j) (JB b m (Nat.succ j)) true)
def balN (n : Nat) (x : Nat → Nat) : List Bool := match n with
  | 0 => []
  | 1 => [true]
  | m + 2 => cond (neB n x 0) true true :: cond (!neB n x 0) (JB (neB n x) m 1) true :: List.replicate (m + 2) true
def BalRun (n : Nat) : Prop := ∀ x, (condsP (rBal 57 n x) [false, false], balV ((rBal 57 n x).at [false, false]), balV ((rBal 57 n x).at [false, true]), balV ((rBal 57 n x).at [true])) =
    ([!!finL (xL n x), !leQ false 0 (firstN (fun i => pmB (x i)) n 0)], some (!leQ false 0 (firstN (neB n x) (n - 1) 0), 0, balN n x), some (false, 0, []), some (false, 1, []))
/-- A way off a chain: to (false, 0), or not looked at. -/
def offL : List Bool → Res → Bool
  | [], _ => true
  | k :: ks, .ite _ x y => (match k with
    | true => match x with
      | .ret v _ nd => match v with
        | .tup [.b _ false, .i _ .i64 n] => eqL n 0 && allT nd
        | _ => false
      | _ => false
    | false => true) && offL ks y
  | _ :: _, _ => false
def balK (n : Nat) : List Bool := List.replicate n true ++ (List.replicate (n * n) false ++ List.replicate (n - 2) true)
noncomputable def balQ (n : Nat) (x : Nat → Nat) : List Bool := ((List.range n).map fun i => !pmB (x i)) ++ (testL n (coT n x x) ++ ((List.range (n - 2)).map fun k => !!feq .f32 (cS n x (k + 2)) (cS n x 1)))
def SBalRun (n : Nat) : Prop := ∀ x, (condsP (rBal 58 n x) (List.replicate (n + n * n + (n - 2) + 1) false), (balV ((rBal 58 n x).at (List.replicate (n + n * n + (n - 2) + 1) false))).map (fun r => (r.1, r.2.1, allT r.2.2)), offL (balK n) ((rBal 58 n x).at [false]), balV ((rBal 58 n x).at [true])) =
    ((!!finL (xL n x)) :: balQ n x, some (true, 0, true), true, some (false, 1, []))
end Go.Ax
