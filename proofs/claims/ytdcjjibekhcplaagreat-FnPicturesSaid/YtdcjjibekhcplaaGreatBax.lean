/- Functions of pictures, evaluated: f34, f35, f37, f38. -/
import Derived.Test.YtdcjjibekhcplaaGreatBaw
namespace Go.Ax
open Go Go.Proofs

theorem p34 (N : Nat) (n : Int) (hn : (N, n) ∈ doNs) (X Y : Nat → Nat) (m : Int) : jP 34 [pvT true n X, pvT false m Y] = some (difV (tpC (isPicB n (reP X)) (isPicB m (reP Y)) n m) (difF X Y N), []) := by
  simp only [doNs, List.mem_cons, Prod.mk.injEq, List.not_mem_nil, or_false] at hn
  rcases hn with ⟨rfl, rfl⟩ | ⟨rfl, rfl⟩ | ⟨rfl, rfl⟩ | ⟨rfl, rfl⟩ <;> kernel_rfl
theorem n34 (n : Int) (X Y : Nat → Nat) (m : Int) : jN 34 [pvT false n X, pvT false m Y] = some (.tup [.f true .f32 0, .i true .i64 1], [!sideB n]) := by kernel_rfl
theorem p35 (N : Nat) (n : Int) (hn : (N, n) ∈ doNs) (X Y : Nat → Nat) (m : Int) : jP 35 [pvT true n X, pvT false m Y] = some (difSV (tpC (isPicB n (reP X)) (isPicB m (reP Y)) n m) X Y N, []) := by
  simp only [doNs, List.mem_cons, Prod.mk.injEq, List.not_mem_nil, or_false] at hn
  rcases hn with ⟨rfl, rfl⟩ | ⟨rfl, rfl⟩ | ⟨rfl, rfl⟩ | ⟨rfl, rfl⟩ <;> kernel_rfl
theorem n35 (n : Int) (X Y : Nat → Nat) (m : Int) : jN 35 [pvT false n X, pvT false m Y] = some (.tup [.f true .f32 0, .i true .i64 1], [!sideB n]) := by kernel_rfl
theorem p37 (N : Nat) (n : Int) (hn : (N, n) ∈ doNs) (X : Nat → Nat) : jP 37 [pvT true n X] = some (iPV N n (fun _ a b => lim (tcC (gN n X) N X) (gN n (cut N (quoX X (topI X (N - 1))))) a b) (quoX X (topI X (N - 1))) (limC (tcC (gN n X) N X) (gN n (cut N (quoX X (topI X (N - 1)))))), []) := by
  simp only [doNs, List.mem_cons, Prod.mk.injEq, List.not_mem_nil, or_false] at hn
  rcases hn with ⟨rfl, rfl⟩ | ⟨rfl, rfl⟩ | ⟨rfl, rfl⟩ | ⟨rfl, rfl⟩ <;> kernel_rfl
theorem n37 (n : Int) (X : Nat → Nat) : jN 37 [pvT false n X] = some (zPV 1, [!sideB n]) := by kernel_rfl
theorem p38 (N : Nat) (n : Int) (hn : (N, n) ∈ doNs) (X : Nat → Nat) : jP 38 [pvT true n X] = some (sPV n (fun _ a b => sel3 (!gN n X) (feq .f32 (topS X (N - 1)) 0) (!gN n (quoX X (topS X (N - 1)))) a a a b) (quoX X (topS X (N - 1))) (sel3 (!gN n X) (feq .f32 (topS X (N - 1)) 0) (!gN n (quoX X (topS X (N - 1)))) 1 5 3 0), []) := by
  simp only [doNs, List.mem_cons, Prod.mk.injEq, List.not_mem_nil, or_false] at hn
  rcases hn with ⟨rfl, rfl⟩ | ⟨rfl, rfl⟩ | ⟨rfl, rfl⟩ | ⟨rfl, rfl⟩ <;> kernel_rfl
theorem n38 (n : Int) (X : Nat → Nat) : jN 38 [pvT false n X] = some (zPV 1, [!sideB n]) := by kernel_rfl
end Go.Ax
