/- PictureOfSums, of both sides: what is to be evaluated. -/
import Derived.Test.YtdcjjibekhcplaaDaw
namespace Go.Ax
open Go Go.Proofs

noncomputable def tabPo : Table := tabOf (jdeep Try.prog rowsWc (76 :: 167 :: 77 :: 169 :: inlW) 40000 10)
theorem tabPo_sound : SoundT Try.prog tabPo := jdeep_sound rowsWc_at 10
noncomputable def rPo (f : FuncId) (n : Int) (M : Nat) (x : Nat → Nat) : Res := tabPo f [.i true .i64 n, .sl true 0 0 M 1] (cellsL M x) [] fun v H nd => .ret v H nd
/-- A picture and a code. -/
def pcO : Res → Option (List AV × AV × Bool)
  | .ret v _ nd => match v with
    | .tup [.agg l, c] => some (l.map AV.bare, c.bare, allT nd)
    | _ => none
  | _ => none
noncomputable def poC (N : Nat) (n : Int) (k : Nat) (x : Nat → Nat) : List AV := .i false .i64 n :: (List.range 64).map fun j => .f false .f32 (match Nat.ble N j with
  | true => 0
  | false => plusF (fmaxA .f32 (backF k x j) 0))
def poZ : List AV := .i false .i64 0 :: List.replicate 64 (.f false .f32 0)
def PoRun (f : FuncId) (N : Nat) (n : Int) (k : Nat) (g : (Nat → Nat) → List Nat) : Prop := ∀ x, ((condsP (rPo f n N x) [false, false], pcO ((rPo f n N x).at [false, false])), pcO ((rPo f n N x).at [false, true]), pcO ((rPo f n N x).at [true])) =
  (([!!finL (xL N x), !!finL (g x)], some (poC N n k x, .i false .i64 0, true)), some (poZ, .i false .i64 3, true), some (poZ, .i false .i64 1, true))
def PoOff (f : FuncId) (N : Nat) (n : Int) : Prop := ∀ x, (condsP (rPo f n N x) [false], pcO ((rPo f n N x).at [false]), pcO ((rPo f n N x).at [true])) =
  ([!!finL (xL N x)], some (poZ, .i false .i64 2, true), some (poZ, .i false .i64 1, true))
theorem po1 : PoRun 76 1 1 0 (backL 0) := fun x => by kernel_rfl
theorem po2 : PoRun 76 4 2 2 (backL 2) := fun x => by kernel_rfl
theorem spo1 : PoRun 77 1 1 0 (sumsL 0) := fun x => by kernel_rfl
theorem spo2 : PoRun 77 4 2 2 (sumsL 2) := fun x => by kernel_rfl
theorem poff1 : PoOff 76 1 2 := fun x => by kernel_rfl
theorem spoff1 : PoOff 77 1 2 := fun x => by kernel_rfl
theorem poff2 : PoOff 76 4 3 := fun x => by kernel_rfl
theorem spoff2 : PoOff 77 4 3 := fun x => by kernel_rfl
end Go.Ax
