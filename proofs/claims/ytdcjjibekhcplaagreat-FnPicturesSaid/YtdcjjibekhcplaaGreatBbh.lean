/- Pictures in steps, evaluated. -/
import Derived.Test.YtdcjjibekhcplaaGreatBbg
namespace Go.Ax
open Go Go.Proofs

noncomputable def stC (g : Bool) (q : Nat) (m : Int) : Int := cond (cond (!g) true (!finB q)) 1 (cond (cond (fle .f32 q 0) true (!inR 2 m 256)) 2 0)
def insX (X : Nat → Nat) (q : Nat) (m : Int) (j : Nat) : Nat := fmul .f32 (FloatKind.f32.nearest (stepV (X j) q m)) q
noncomputable def stN (c : Int) (N : Nat) (X : Nat → Nat) (q : Nat) (m : Int) : List Bool := [cond (!!eqQ false c 0) (andT ((List.range N).map fun k => stepOK (X (N - 1 - k)) q m)) true]
theorem p58 (N : Nat) (n : Int) (hn : (N, n) ∈ doNs) (X : Nat → Nat) (q : Nat) (m : Int) : jS 58 [pvT true n X, .f false .f32 q, .i false .i64 m] = some (iPV N n (fun _ a b => lim (stC (gN n X) q m) (gN n (cut N (insX X q m))) a b) (insX X q m) (limC (stC (gN n X) q m) (gN n (cut N (insX X q m)))), stN (stC (gN n X) q m) N X q m) := by
  simp only [doNs, List.mem_cons, Prod.mk.injEq, List.not_mem_nil, or_false] at hn
  rcases hn with ⟨rfl, rfl⟩ | ⟨rfl, rfl⟩ | ⟨rfl, rfl⟩ | ⟨rfl, rfl⟩ <;> kernel_rfl
theorem p59 (N : Nat) (n : Int) (hn : (N, n) ∈ doNs) (X : Nat → Nat) (q : Nat) (m : Int) : jS 59 [pvT true n X, .f false .f32 q, .i false .i64 m] = some (sPV n (fun _ a b => lim (stC (gN n X) q m) (gN n (keepX N (insX X q m) X)) a b) (keepX N (insX X q m) X) (limC (stC (gN n X) q m) (gN n (keepX N (insX X q m) X))), stN (stC (gN n X) q m) N X q m) := by
  simp only [doNs, List.mem_cons, Prod.mk.injEq, List.not_mem_nil, or_false] at hn
  rcases hn with ⟨rfl, rfl⟩ | ⟨rfl, rfl⟩ | ⟨rfl, rfl⟩ | ⟨rfl, rfl⟩ <;> kernel_rfl
end Go.Ax
