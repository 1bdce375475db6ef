/- spec.UnwrapFlood: one round of its inner loop. -/
import Derived.Test.YtdcjjibekhcplaaEaq
namespace Go.Ax
open Go Go.Proofs

noncomputable def sgL : List Item := (sfD 1 1 (fun _ => 0) (fun _ => (0, 0)) 0 0).todo
noncomputable def sgR : List Item := toLp sgL
theorem sgR_eq : toLp sgR = sgR := by kernel_rfl
/-- Where the queue, the rows and the columns lie: behind each other, or the queue at the end. -/
def qAt (b : Bool) : Nat := cond b 6 4
def rAt (b : Bool) : Nat := cond b 4 5
def cAt (b : Bool) : Nat := cond b 5 6
def sgTl (b : Bool) (n : Int) (N : Nat) (s : AV) (k : Int) (l : List (Nat × AV)) : List AV := tmpsOf 190 ([(0, .i true .i64 n), (1, .sl true 0 0 N 1), (7, .p true 1 0), (13, .sl true 2 0 N 1), (14, .sl true 3 0 N 1), (15, s), (16, .sl true (rAt b) 0 4 1), (17, .sl true (cAt b) 0 4 1), (18, .i false .i64 k)] ++ l)
def rowB : AB := .cells true (.lit [.i true .i64 0, .i true .i64 1, .i true .i64 0, .i true .i64 (-1)])
def colB : AB := .cells true (.lit [.i true .i64 1, .i true .i64 0, .i true .i64 (-1), .i true .i64 0])
def metB (N : Nat) (M : Nat → Bool) : AB := .cells true (.lit ((List.range N).map fun j => .b false (M j)))
def sgH (b : Bool) (n : Int) (N : Nat) (x0 : Nat → Int) (X : Nat → Nat × Nat) (os : List Int) (M : Nat → Bool) (qs : List Int) : List AB :=
  sfH n N x0 X ++ (.cells true (.ints .i64 os) :: metB N M :: cond b [rowB, colB, .cells true (.ints .i64 qs)] [.cells true (.ints .i64 qs), rowB, colB])
noncomputable def sgU (b : Bool) (n : Int) (N : Nat) (x0 : Nat → Int) (X : Nat → Nat × Nat) (os : List Int) (M : Nat → Bool) (qs : List Int) (k : Nat) : Res := cupto Try.prog tabUf atLoop 200 sgR (sgTl b n N (.sl false (qAt b) 0 qs.length 1) (Int.ofNat k) []) (sgH b n N x0 X os M qs)
noncomputable def siL : List Item := ((sgU true 1 1 (fun _ => 0) (fun _ => (0, 0)) [] (fun _ => false) [] 0).at [true]).todo
noncomputable def siR : List Item := toLp siL
theorem siR_eq : toLp siR = siR := by kernel_rfl
def siT (b : Bool) (n : Int) (N : Nat) (s : AV) (k : Int) (p i : Nat) : List AV := sgTl b n N s k [(19, .i true .i64 (Int.ofNat p)), (20, .i true .i64 (Int.ofNat i))]
def siM : List Bool := maskOf 190 [(0, .any), (1, .any), (7, .any), (13, .any), (14, .any), (15, .any), (16, .any), (17, .any), (18, .any), (19, .any), (20, .any)]
noncomputable def siU (b : Bool) (n : Int) (N : Nat) (x0 : Nat → Int) (X : Nat → Nat × Nat) (os : List Int) (M : Nat → Bool) (qs : List Int) (k : Nat) (p i : Nat) : Res := cupto Try.prog tabUf atLoop 200 siR (siT b n N (.sl false (qAt b) 0 qs.length 1) (Int.ofNat k) p i) (sgH b n N x0 X os M qs)
/-- The neighbour of a place in a direction. -/
def tgt (m p i : Nat) : Option Nat := match i with
  | 0 => if p % m + 1 < m then some (p + 1) else none
  | 1 => if p / m + 1 < m then some (p + m) else none
  | 2 => if 0 < p % m then some (p - 1) else none
  | _ => if 0 < p / m then some (p - m) else none
def xzB (X : Nat → Nat × Nat) (j : Nat) : Bool := feq .f32 (X j).1 0 && feq .f32 (X j).2 0
def visV (x0 : Nat → Int) (os : List Int) (p to : Nat) : Int := wrapQ false .i64 (os.getD p 0 + stZ (x0 p) (x0 to))
def visQ (os qs : List Int) (p to : Nat) (v : Int) : List Bool := [apQ qs.length qs, decide (([AV.i false .i64 v] : List AV).length = 1) && decide (0 + to * 1 + 1 ≤ (Cells.ints .i64 os).len), true, true, decide (0 + p * 1 < (Cells.ints .i64 os).len)]
def visM (M : Nat → Bool) (to j : Nat) : AV := .b (Nat.beq j to) (cond (Nat.beq j to) true (M j))
def visH (b : Bool) (n : Int) (N : Nat) (x0 : Nat → Int) (X : Nat → Nat × Nat) (os : List Int) (M : Nat → Bool) (qs : List Int) (p to : Nat) : List AB :=
  sfH n N x0 X ++ (.cells true (.ints .i64 (os.set to (visV x0 os p to))) :: .cells true (.lit ((List.range N).map (visM M to))) :: cond b [rowB, colB, .dead] [.dead, rowB, colB]) ++ [.cells true (.lit [.i true .i64 (Int.ofNat to)]), .cells true (.ints .i64 (List.take (qs.length * 1) (List.drop 0 qs) ++ [Int.ofNat to]))]
section
variable (b : Bool) (x0 : Nat → Int) (X : Nat → Nat × Nat) (os : List Int) (M : Nat → Bool) (qs : List Int) (k : Nat)
noncomputable def siStay (m p i : Nat) : Bool × List Item × List AV × List AB × List Bool := (true, siR, (siT b m (m * m) (.sl false (qAt b) 0 qs.length 1) (Int.ofNat k) p (i + 1)).map AV.bare, sgH b m (m * m) x0 X os M qs, [])
noncomputable def siW (m p i : Nat) : List (List Bool × (Bool × List Item × List AV × List AB × List Bool)) := match tgt m p i with
  | none => [([], siStay b x0 X os M qs k m p i)]
  | some to => [([!M to, !xzB X to], (true, siR, (siT b m (m * m) (.sl false 8 0 (qs.length + 1) 1) (Int.ofNat k) p (i + 1)).map AV.bare, visH b m (m * m) x0 X os M qs p to, visQ os qs p to (visV x0 os p to))),
     ([!M to, !!xzB X to], siStay b x0 X os M qs k m p i), ([!!M to], siStay b x0 X os M qs k m p i)]
noncomputable def siG (m p i : Nat) : List (List Bool × (Bool × List Item × List AV × List AB × List Bool)) := match tgt m p i with
  | none => [(condsP (siU b m (m * m) x0 X os M qs k p i) [], lfM siM ((siU b m (m * m) x0 X os M qs k p i).at []))]
  | some _ => [(condsP (siU b m (m * m) x0 X os M qs k p i) [true, true], lfM siM ((siU b m (m * m) x0 X os M qs k p i).at [true, true])), (condsP (siU b m (m * m) x0 X os M qs k p i) [true, false], lfM siM ((siU b m (m * m) x0 X os M qs k p i).at [true, false])), (condsP (siU b m (m * m) x0 X os M qs k p i) [false], lfM siM ((siU b m (m * m) x0 X os M qs k p i).at [false]))]
end
section
variable (b : Bool) (x0 : Nat → Int) (X : Nat → Nat × Nat) (os : List Int) (M : Nat → Bool) (qs : List Int) (k : Nat)
def pis (m : Nat) : List (Nat × Nat) := (List.range (m * m)).flatMap fun p => (List.range 4).map fun i => (p, i)
theorem si_1 : (pis 1).map (fun z => siG b x0 X os M qs k 1 z.1 z.2) = (pis 1).map fun z => siW b x0 X os M qs k 1 z.1 z.2 := by cases b <;> kernel_rfl
theorem si_2 : (pis 2).map (fun z => siG b x0 X os M qs k 2 z.1 z.2) = (pis 2).map fun z => siW b x0 X os M qs k 2 z.1 z.2 := by cases b <;> kernel_rfl
end
end Go.Ax
