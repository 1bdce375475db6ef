/- Functions of pictures, evaluated: f47, f49, f50, f52, f53. -/
import Derived.Test.YtdcjjibekhcplaaGreatBay
namespace Go.Ax
open Go Go.Proofs

theorem p47 (N : Nat) (n : Int) (hn : (N, n) ∈ doNs) (X : Nat → Nat) : jP 47 [pvT true n X] = some (.tup [.f false .f32 (plusF (sel3 (!gN n X) (feq .f32 (topS X (N - 1)) 0) (!finB (fadd .f32 (topS X (N - 1)) (botS X (N - 1)))) 0 0 0 (conS (topS X (N - 1)) (botS X (N - 1))))), .i false .i64 (sel3 (!gN n X) (feq .f32 (topS X (N - 1)) 0) (!finB (fadd .f32 (topS X (N - 1)) (botS X (N - 1)))) 1 5 3 0)], []) := by
  simp only [doNs, List.mem_cons, Prod.mk.injEq, List.not_mem_nil, or_false] at hn
  rcases hn with ⟨rfl, rfl⟩ | ⟨rfl, rfl⟩ | ⟨rfl, rfl⟩ | ⟨rfl, rfl⟩ <;> kernel_rfl
theorem n47 (n : Int) (X : Nat → Nat) : jN 47 [pvT false n X] = some (.tup [.f true .f32 0, .i true .i64 1], [!sideB n]) := by kernel_rfl
theorem p49 (N : Nat) (n : Int) (hn : (N, n) ∈ doNs) (X : Nat → Nat) (r : Nat) : jP 49 [pvT true n X, .f false .f32 r] = some (iPV N n (fun _ a b => sel3 (cond (!gN n X) true (!finB r)) (flt .f32 r (topI X (N - 1))) (!gN n (cut N (negX r X))) a a a b) (negX r X) (sel3 (cond (!gN n X) true (!finB r)) (flt .f32 r (topI X (N - 1))) (!gN n (cut N (negX r X))) 1 2 3 0), []) := by
  simp only [doNs, List.mem_cons, Prod.mk.injEq, List.not_mem_nil, or_false] at hn
  rcases hn with ⟨rfl, rfl⟩ | ⟨rfl, rfl⟩ | ⟨rfl, rfl⟩ | ⟨rfl, rfl⟩ <;> kernel_rfl
theorem n49 (n : Int) (X : Nat → Nat) (r : Nat) : jN 49 [pvT false n X, .f false .f32 r] = some (zPV 1, [!sideB n]) := by kernel_rfl
theorem p50 (N : Nat) (n : Int) (hn : (N, n) ∈ doNs) (X : Nat → Nat) (r : Nat) : jP 50 [pvT true n X, .f false .f32 r] = some (sPV n (fun _ a b => cond (cond (!gN n X) true (!finB r)) a (cond (flt .f32 r (topS X (N - 1))) a b)) (keepX N (negX r X) X) (cond (cond (!gN n X) true (!finB r)) 1 (cond (flt .f32 r (topS X (N - 1))) 2 0)), []) := by
  simp only [doNs, List.mem_cons, Prod.mk.injEq, List.not_mem_nil, or_false] at hn
  rcases hn with ⟨rfl, rfl⟩ | ⟨rfl, rfl⟩ | ⟨rfl, rfl⟩ | ⟨rfl, rfl⟩ <;> kernel_rfl
theorem n50 (n : Int) (X : Nat → Nat) (r : Nat) : jN 50 [pvT false n X, .f false .f32 r] = some (zPV 1, [!sideB n]) := by kernel_rfl
theorem p52 (N : Nat) (n : Int) (hn : (N, n) ∈ doNs) (X : Nat → Nat) (r : Nat) : jP 52 [pvT true n X, .f false .f32 r] = some (mkC N n (cond (!gN n X) true (!finB r)) (bit (thrB X r)) (zer (thrB X r)) (cond (cond (!gN n X) true (!finB r)) 1 0), []) := by
  simp only [doNs, List.mem_cons, Prod.mk.injEq, List.not_mem_nil, or_false] at hn
  rcases hn with ⟨rfl, rfl⟩ | ⟨rfl, rfl⟩ | ⟨rfl, rfl⟩ | ⟨rfl, rfl⟩ <;> kernel_rfl
theorem n52 (n : Int) (X : Nat → Nat) (r : Nat) : jN 52 [pvT false n X, .f false .f32 r] = some (zeroV 1, [!sideB n]) := by kernel_rfl
theorem p53 (N : Nat) (n : Int) (hn : (N, n) ∈ doNs) (X : Nat → Nat) (r : Nat) : jP 53 [pvT true n X, .f false .f32 r] = some (mkC N n (cond (!gN n X) true (!finB r)) (bit (thrB X r)) (zer (thrB X r)) (cond (cond (!gN n X) true (!finB r)) 1 0), []) := by
  simp only [doNs, List.mem_cons, Prod.mk.injEq, List.not_mem_nil, or_false] at hn
  rcases hn with ⟨rfl, rfl⟩ | ⟨rfl, rfl⟩ | ⟨rfl, rfl⟩ | ⟨rfl, rfl⟩ <;> kernel_rfl
theorem n53 (n : Int) (X : Nat → Nat) (r : Nat) : jN 53 [pvT false n X, .f false .f32 r] = some (zeroV 1, [!sideB n]) := by kernel_rfl
end Go.Ax
