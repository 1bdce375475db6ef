/- impl.UnwrapFlood: the loops, forms. -/
import Derived.Test.YtdcjjibekhcplaaEba
namespace Go.Ax
open Go Go.Proofs

def atB (m p : Nat) : AB := .cells true (.lit [.i true .i64 ((p / m : Nat) : Int), .i true .i64 ((p % m : Nat) : Int)])
def uB4 (n : Int) (N : Nat) (x0 : Nat → Int) (X : Nat → Nat × Nat) (os : List Int) (M : Nat → Bool) : List AB := sfH n N x0 X ++ [.cells true (.ints .i64 os), metB N M]
def byV : AV := .agg [.i true .i64 0, .i true .i64 1, .i true .i64 1, .i true .i64 0, .i true .i64 0, .i true .i64 (-1), .i true .i64 (-1), .i true .i64 0]
noncomputable def ugU (n : Int) (N : Nat) (x0 : Nat → Int) (X : Nat → Nat × Nat) (os : List Int) (M : Nat → Bool) (qs : List Int) (off L : Nat) : Res := cupto Try.prog tabUf (fun L => atLoop L || atReg 13 L) 200 ugR (ugTl n N (.sl false 4 off L 2) []) (uB4 n N x0 X os M ++ [.cells true (.ints .i64 qs)])
/-- At the region that cuts the queue. -/
noncomputable def u3L : List Item := ((ugU 1 1 (fun _ => 0) (fun _ => (0, 0)) [] (fun _ => false) [] 0 0).at [true]).todo ++ []
theorem u3L_eq : u3L = .code (.region 13 (opsOf u3L) false) :: tlOf u3L := by kernel_rfl
/-- Where the place lies: behind the queue's block, or ahead of it. -/
def aAt (b : Bool) : Nat := cond b 4 5
def qMem (b : Bool) (Q a : AB) : List AB := cond b [a, Q] [Q, a]
noncomputable def u4 (n : Int) (N : Nat) (x0 : Nat → Int) (X : Nat → Nat × Nat) (os : List Int) (M : Nat → Bool) (s : AV) (Q : AB) (m p : Nat) : Res := cupto Try.prog tabUf atLoop 200 (tlOf u3L) (ugTl n N s [(16, .p true 5 0)]) (uB4 n N x0 X os M ++ [Q, atB m p])
noncomputable def uiL : List Item := (u4 1 1 (fun _ => 0) (fun _ => (0, 0)) [] (fun _ => false) .sle .dead 1 0).todo
noncomputable def uiR : List Item := toLp uiL
theorem uiR_eq : toLp uiR = uiR := by kernel_rfl
def uiTl (b : Bool) (n : Int) (N : Nat) (p i : Nat) (s : AV) (r : List (Nat × AV)) : List AV := ugTl n N s ([(16, .p true (aAt b) 0), (17, .i true .i64 (Int.ofNat p)), (120, byV), (121, .i true .i64 (Int.ofNat i))] ++ r)
def uiM : List Bool := maskOf 193 [(0, .any), (1, .any), (7, .any), (13, .any), (14, .any), (15, .any), (16, .any), (17, .any), (120, .any), (121, .any)]
noncomputable def uiU (m : Nat) (x0 : Nat → Int) (X : Nat → Nat × Nat) (os : List Int) (M : Nat → Bool) (s : AV) (Q : AB) (b : Bool) (p i : Nat) : Res := cupto Try.prog tabUf (fun L => atLoop L || atReg 24 L) 200 uiR (uiTl b m (m * m) p i s []) (uB4 m (m * m) x0 X os M ++ qMem b Q (atB m p))
/-- At the region that appends to the queue. -/
noncomputable def u24L : List Item := ((uiU 2 (fun _ => 0) (fun _ => (0, 0)) [] (fun _ => false) .sle .dead false 1 1).at [false, false]).todo ++ []
theorem u24L_eq : u24L = .code (.region 24 (opsOf u24L) false) :: tlOf u24L := by kernel_rfl
def v24T (b : Bool) (n : Int) (N : Nat) (p i : Nat) (s : AV) (v u : Int) : List AV := uiTl b n N p i s [(20, .i true .i64 v), (21, .i true .i64 u)]
def v24M : List Bool := maskOf 193 [(0, .any), (1, .any), (7, .any), (13, .any), (14, .any), (15, .any), (16, .any), (17, .any), (120, .any), (121, .any), (20, .any), (21, .any)]
def dirB (i : Nat) : AB := .cells true (.lit (match i with
  | 0 => [.i true .i64 0, .i true .i64 1]
  | 1 => [.i true .i64 1, .i true .i64 0]
  | 2 => [.i true .i64 0, .i true .i64 (-1)]
  | _ => [.i true .i64 (-1), .i true .i64 0]))
def visR (os : List Int) (p to : Nat) (v : Int) : List Bool := [decide (([AV.i false .i64 v] : List AV).length = 1) && decide (0 + to * 1 + 1 ≤ (Cells.ints .i64 os).len), true, true, decide (0 + p * 1 < (Cells.ints .i64 os).len)]
def uvH (b : Bool) (n : Int) (N : Nat) (x0 : Nat → Int) (X : Nat → Nat × Nat) (os : List Int) (M : Nat → Bool) (Q a : AB) (p i to : Nat) : List AB :=
  sfH n N x0 X ++ (.cells true (.ints .i64 (os.set to (visV x0 os p to))) :: .cells true (.lit ((List.range N).map (visM M to))) :: qMem b Q a) ++ [dirB i]
section
variable (x0 : Nat → Int) (X : Nat → Nat × Nat) (os : List Int) (M : Nat → Bool) (s : AV) (Q : AB) (b : Bool)
noncomputable def uiStay (m p i : Nat) : Bool × List Item × List AV × List AB × List Bool := (true, uiR, (uiTl b m (m * m) p (i + 1) s []).map AV.bare, uB4 m (m * m) x0 X os M ++ qMem b Q (atB m p) ++ [dirB i], [])
noncomputable def uiW (m p i : Nat) : List (List Bool × (Bool × List Item × List AV × List AB × List Bool)) := match tgt m p i with
  | none => [([], uiStay x0 X os M s Q b m p i)]
  | some to => [([!M to, !xzB X to], (true, u24L, (v24T b m (m * m) p i s ((to / m : Nat) : Int) ((to % m : Nat) : Int)).map AV.bare, uvH b m (m * m) x0 X os M Q (atB m p) p i to, visR os p to (visV x0 os p to))),
     ([!M to, xzB X to], uiStay x0 X os M s Q b m p i), ([M to], uiStay x0 X os M s Q b m p i)]
noncomputable def uiG (m p i : Nat) : List (List Bool × (Bool × List Item × List AV × List AB × List Bool)) := match tgt m p i with
  | none => [(condsP (uiU m x0 X os M s Q b p i) [], lfM uiM ((uiU m x0 X os M s Q b p i).at []))]
  | some _ => [(condsP (uiU m x0 X os M s Q b p i) [false, false], lfM v24M ((uiU m x0 X os M s Q b p i).at [false, false])), (condsP (uiU m x0 X os M s Q b p i) [false, true], lfM uiM ((uiU m x0 X os M s Q b p i).at [false, true])), (condsP (uiU m x0 X os M s Q b p i) [true], lfM uiM ((uiU m x0 X os M s Q b p i).at [true]))]
theorem ui_1 : (pis 1).map (fun z => uiG x0 X os M s Q b 1 z.1 z.2) = (pis 1).map fun z => uiW x0 X os M s Q b 1 z.1 z.2 := by cases b <;> kernel_rfl
theorem ui_2 : (pis 2).map (fun z => uiG x0 X os M s Q b 2 z.1 z.2) = (pis 2).map fun z => uiW x0 X os M s Q b 2 z.1 z.2 := by cases b <;> kernel_rfl
end
end Go.Ax
