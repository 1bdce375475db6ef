/- Functions of pictures, evaluated: f40, f41, f43, f44. -/
import Derived.Test.YtdcjjibekhcplaaGreatBax
namespace Go.Ax
open Go Go.Proofs

theorem p40 (N : Nat) (n : Int) (hn : (N, n) ∈ doNs) (X Y : Nat → Nat) (m : Int) : jP 40 [pvT true n X, pvT false m Y] = some (iPV N n (fun _ a b => lim (tpC (gN n X) (gN m Y) n m) (gN n (cut N (addX X Y))) a b) (addX X Y) (limC (tpC (gN n X) (gN m Y) n m) (gN n (cut N (addX X Y)))), []) := by
  simp only [doNs, List.mem_cons, Prod.mk.injEq, List.not_mem_nil, or_false] at hn
  rcases hn with ⟨rfl, rfl⟩ | ⟨rfl, rfl⟩ | ⟨rfl, rfl⟩ | ⟨rfl, rfl⟩ <;> kernel_rfl
theorem n40 (n : Int) (X Y : Nat → Nat) (m : Int) : jN 40 [pvT false n X, pvT false m Y] = some (zPV 1, [!sideB n]) := by kernel_rfl
theorem p41 (N : Nat) (n : Int) (hn : (N, n) ∈ doNs) (X Y : Nat → Nat) (m : Int) : jP 41 [pvT true n X, pvT false m Y] = some (sPV n (fun _ a b => lim (tpC (gN n X) (gN m Y) n m) (gN n (addX X Y)) a b) (addX X Y) (limC (tpC (gN n X) (gN m Y) n m) (gN n (addX X Y))), []) := by
  simp only [doNs, List.mem_cons, Prod.mk.injEq, List.not_mem_nil, or_false] at hn
  rcases hn with ⟨rfl, rfl⟩ | ⟨rfl, rfl⟩ | ⟨rfl, rfl⟩ | ⟨rfl, rfl⟩ <;> kernel_rfl
theorem n41 (n : Int) (X Y : Nat → Nat) (m : Int) : jN 41 [pvT false n X, pvT false m Y] = some (zPV 1, [!sideB n]) := by kernel_rfl
theorem p43 (N : Nat) (n : Int) (hn : (N, n) ∈ doNs) (X : Nat → Nat) (r : Nat) : jP 43 [.f false .f32 r, pvT true n X] = some (iPV N n (fun _ a b => sel3 (cond (!finB r) true (!gN n X)) (flt .f32 r 0) (!gN n (cut N (mulX r X))) a a a b) (mulX r X) (sel3 (cond (!finB r) true (!gN n X)) (flt .f32 r 0) (!gN n (cut N (mulX r X))) 1 2 3 0), []) := by
  simp only [doNs, List.mem_cons, Prod.mk.injEq, List.not_mem_nil, or_false] at hn
  rcases hn with ⟨rfl, rfl⟩ | ⟨rfl, rfl⟩ | ⟨rfl, rfl⟩ | ⟨rfl, rfl⟩ <;> kernel_rfl
theorem n43 (n : Int) (X : Nat → Nat) (r : Nat) : jN 43 [.f false .f32 r, pvT false n X] = some (zPV 1, [cond (!!finB r) (!sideB n) true]) := by kernel_rfl
theorem p44 (N : Nat) (n : Int) (hn : (N, n) ∈ doNs) (X : Nat → Nat) (r : Nat) : jP 44 [.f false .f32 r, pvT true n X] = some (sPV n (fun _ a b => sel3 (cond (!finB r) true (!gN n X)) (flt .f32 r 0) (!gN n (mulX r X)) a a a b) (mulX r X) (sel3 (cond (!finB r) true (!gN n X)) (flt .f32 r 0) (!gN n (mulX r X)) 1 2 3 0), []) := by
  simp only [doNs, List.mem_cons, Prod.mk.injEq, List.not_mem_nil, or_false] at hn
  rcases hn with ⟨rfl, rfl⟩ | ⟨rfl, rfl⟩ | ⟨rfl, rfl⟩ | ⟨rfl, rfl⟩ <;> kernel_rfl
theorem n44 (n : Int) (X : Nat → Nat) (r : Nat) : jN 44 [.f false .f32 r, pvT false n X] = some (zPV 1, [cond (!!finB r) (!sideB n) true]) := by kernel_rfl
end Go.Ax
