/- Gratings, discs, zones, lenses of both sides: what is to be evaluated. -/
import Derived.Test.YtdcjjibekhcplaaGreatBav
namespace Go.Ax
open Go Go.Proofs

noncomputable def rowsG : List (FuncId × Table) := (153, pureT gPhase) :: (154, pureT gSp) :: rowsK
theorem rowsG_at : ∀ p ∈ rowsG, SoundAt Tryz.prog p.1 p.2 := fun p hp => by
  simp only [rowsG, List.mem_cons] at hp
  rcases hp with rfl | rfl | hp
  · exact phase_at
  · exact sp_at
  · exact rowsK_at p hp
noncomputable def tabGr : Table := tabOf (jdeep Tryz.prog rowsG [] 4000 10)
theorem tabGr_sound : SoundT Tryz.prog tabGr := jdeep_sound rowsG_at 10
noncomputable def rG (f : FuncId) (n : Int) (l : List Int) : Option (AV × List Bool) := joinR 0 (tabGr f (.i true .i64 n :: l.map (.i false .i64)) [] [] fun v H nd => .ret v H nd)
def wr (a : Int) : Int := wrapQ false .i64 a
def inR (lo a hi : Int) : Bool := cond (leQ false lo a) (leQ false a hi) false
def xJ (n : Int) (j : Nat) : Int := (Int.ofNat j).tmod n
def yJ (n : Int) (j : Nat) : Int := (Int.ofNat j).tdiv n
/-- A wave, or none, by a test. -/
def mkV (N : Nat) (n : Int) (bad : Bool) (re im : Nat → Nat) : AV :=
  .tup [.agg (.i false .i64 (cond bad 0 n) :: (List.range 64).map fun j => match Nat.ble N j with
    | true => .c true .f32 0 0
    | false => .c false .f32 (plusF (cond bad 0 (re j))) (plusF (cond bad 0 (im j)))), .i false .i64 (cond bad 2 0)]
def dst (n v u : Int) (j : Nat) : Int := wr (wr (wr (2 * yJ n j - v) * wr (2 * yJ n j - v)) + wr (wr (2 * xJ n j - u) * wr (2 * xJ n j - u)))
def ctr (n v u : Int) : Bool := cond (inR 0 v (2 * (n - 1))) (inR 0 u (2 * (n - 1))) false
def bit (b : Nat → Bool) (j : Nat) : Nat := cond (b j) 1065353216 0
def zer (b : Nat → Bool) (j : Nat) : Nat := cond (b j) 0 0
def slB (n x w : Int) : Bool := cond (!inR 0 x (n - 1)) true (!inR 0 w (wr (n - x)))
def slT (n x w : Int) (j : Nat) : Bool := cond (leQ false x (xJ n j)) (leQ false (xJ n j) (wr (wr (x + w) - 1))) false
def diB (n v u r : Int) : Bool := cond (!ctr n v u) true (!inR 0 r 1000)
def diT (n v u r : Int) (j : Nat) : Bool := leQ false (dst n v u j) r
def grB (n p q : Int) : Bool := cond (!inR 1 p n) true (!inR 0 q p)
def grT (n p q : Int) (j : Nat) : Bool := ltQ false ((xJ n j).tmod p) q
def chB (n p : Int) : Bool := !inR 1 p n
def chT (n p : Int) (j : Nat) : Bool := eqQ false ((wr (IntKind.i64.wrap ((yJ n j).tdiv p) + IntKind.i64.wrap ((xJ n j).tdiv p))).tmod 2) 0
def zoB (n v u q : Int) : Bool := cond (!ctr n v u) true (!inR 1 q 1000)
def zoT (n v u q : Int) (j : Nat) : Bool := eqQ false ((IntKind.i64.wrap ((dst n v u j).tdiv q)).tmod 2) 0
def blB (n p k : Int) : Bool := cond (!inR 1 p n) true (!inR (-64) k 64)
def blK (n p k : Int) (j : Nat) : Int := wr (k * (xJ n j).tmod p)
def leB (n v u k : Int) : Bool := cond (!ctr n v u) true (!inR (-64) k 64)
def leK (n v u k : Int) (j : Nat) : Int := wr (k * dst n v u j)
end Go.Ax

/- What functions of pictures come to. -/
namespace Go.Ax
open Go Go.Proofs

def tpC (g g2 : Bool) (n m : Int) : Int := cond (cond (!g) true (!g2)) 1 (cond (!eqQ false n m) 2 0)
def fabsF (x : Nat) : Nat := cond (flt .f32 x 0) (fneg .f32 x) x
def difF (X Y : Nat → Nat) : Nat → Nat
  | 0 => 0
  | k + 1 => fadd .f32 (difF X Y k) (fabsF (fsub .f32 (X k) (Y k)))
def lim {α : Type} (c : Int) (g : Bool) (a b : α) : α := cond (!eqQ false c 0) a (cond (!g) a b)
def limC (c : Int) (g : Bool) : Int := cond (!eqQ false c 0) c (cond (!g) 3 0)
noncomputable def difV (c : Int) (d : Nat) : AV := .tup [.f false .f32 (plusF (lim c (finB d) 0 d)), .i false .i64 (limC c (finB d))]
noncomputable def nst {α : Type} (X Y : Nat → Nat) (N : Nat) (a : α) (b : α) : Nat → α
  | 0 => b
  | j + 1 => cond (!finB (difF X Y (N - j))) a (nst X Y N a b j)
noncomputable def difSV (c : Int) (X Y : Nat → Nat) (N : Nat) : AV := .tup [.f false .f32 (plusF (cond (!eqQ false c 0) 0 (nst X Y N 0 (difF X Y N) N))), .i false .i64 (cond (!eqQ false c 0) c (nst X Y N 3 0 N))]
def cut (N : Nat) (Z : Nat → Nat) (j : Nat) : Nat := match Nat.ble N j with
  | true => 0
  | false => Z j
def iPV (N : Nat) (n : Int) (sel : (α : Type) → α → α → α) (Z : Nat → Nat) (c : Int) : AV :=
  .tup [.agg (.i false .i64 (sel Int 0 n) :: (List.range 64).map fun j => match Nat.ble N j with
    | true => .f true .f32 0
    | false => .f false .f32 (plusF (sel Nat 0 (Z j)))), .i false .i64 c]
def sPV (n : Int) (sel : (α : Type) → α → α → α) (Z : Nat → Nat) (c : Int) : AV :=
  .tup [.agg (.i false .i64 (sel Int 0 n) :: (List.range 64).map fun j => .f false .f32 (plusF (sel Nat 0 (Z j)))), .i false .i64 c]
noncomputable def quoX (X : Nat → Nat) (t : Nat) (j : Nat) : Nat := fdiv .f32 (X j) t
noncomputable def gN (n : Int) (Z : Nat → Nat) : Bool := isPicB n (reP Z)
def topS (X : Nat → Nat) : Nat → Nat
  | 0 => X 0
  | k + 1 => cond (fgt .f32 (X (k + 1)) (topS X k)) (X (k + 1)) (topS X k)
def botS (X : Nat → Nat) : Nat → Nat
  | 0 => X 0
  | k + 1 => cond (flt .f32 (X (k + 1)) (botS X k)) (X (k + 1)) (botS X k)
def sel3 {α : Type} (p q r : Bool) (a b c d : α) : α := cond p a (cond q b (cond r c d))
def addX (X Y : Nat → Nat) (j : Nat) : Nat := fadd .f32 (X j) (Y j)
def mulX (r : Nat) (X : Nat → Nat) (j : Nat) : Nat := fmul .f32 r (X j)
noncomputable def conS (a b : Nat) : Nat := fdiv .f32 (fsub .f32 a b) (fadd .f32 a b)
def negX (t : Nat) (X : Nat → Nat) (j : Nat) : Nat := fsub .f32 t (X j)
def keepX (N : Nat) (Z X : Nat → Nat) (j : Nat) : Nat := match Nat.ble N j with
  | true => X j
  | false => Z j
def thrX (X : Nat → Nat) (t : Nat) (j : Nat) : Nat := cond (fge .f32 (X j) t) 1065353216 0
/-- A wave or none, with its code, by a choice. -/
def mkC (N : Nat) (n : Int) (bad : Bool) (re im : Nat → Nat) (c : Int) : AV :=
  .tup [.agg (.i false .i64 (cond bad 0 n) :: (List.range 64).map fun j => match Nat.ble N j with
    | true => .c true .f32 0 0
    | false => .c false .f32 (plusF (cond bad 0 (re j))) (plusF (cond bad 0 (im j)))), .i false .i64 c]
def thrB (X : Nat → Nat) (t : Nat) (j : Nat) : Bool := fge .f32 (X j) t
noncomputable def jN (f : FuncId) (args : List AV) : Option (AV × List Bool) := joinR 0 (tabPn f args [] [] fun v H nd => .ret v H nd)
def zPV (c : Int) : AV := .tup [.agg (.i true .i64 0 :: List.replicate 64 (.f true .f32 0)), .i true .i64 c]
end Go.Ax
