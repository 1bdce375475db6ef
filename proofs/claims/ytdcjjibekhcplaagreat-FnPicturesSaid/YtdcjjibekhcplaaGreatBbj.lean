/- Steps of all levels: lists. -/
import Derived.Test.YtdcjjibekhcplaaGreatBbi
namespace Go.Ax
open Go Go.Proofs

noncomputable def tabSl6 : Table := tabOf (jdeep Tryz.prog rowsSt [115, 55, 56] 4000 10)
theorem tabSl6_sound : SoundT Tryz.prog tabSl6 := jdeep_sound rowsSt_at 10
noncomputable def stR (f : FuncId) (n : Int) (X : Nat → Nat) (q : Nat) (m : Int) : Res := tabSl6 f [pvT true n X, .f false .f32 q, .i false .i64 m] [] [] fun v H nd => .ret v H nd
noncomputable def stNd (N : Nat) (X : Nat → Nat) (q : Nat) (m : Int) : List Bool := (List.range N).flatMap fun k => [true, stepOK (X (N - 1 - k)) q m]
def stLs (N : Nat) (X : Nat → Nat) (q : Nat) (m : Int) : List Int := (List.range N).map fun j => stepV (X j) q m
theorem st55 (N : Nat) (n : Int) (hn : (N, n) ∈ doNs) (X : Nat → Nat) (q : Nat) (m : Int) : ((condsP (stR 55 n X q m) [true], leafD 0 [0] ((stR 55 n X q m).at [true])), (condsP (stR 55 n X q m) [false], leafD 0 (List.replicate (2 * N + 2) 0) ((stR 55 n X q m).at [false]))) =
    (([!eqQ false (stC (gN n X) q m) 0], some (.tup [.slnil, .i false .i64 (stC (gN n X) q m)], [], [])), ([!!eqQ false (stC (gN n X) q m) 0], some (.tup [.sl true 0 0 N 1, .i true .i64 0], [.cells true (.ints .i64 (stLs N X q m))], stNd N X q m))) := by
  simp only [doNs, List.mem_cons, Prod.mk.injEq, List.not_mem_nil, or_false] at hn
  rcases hn with ⟨rfl, rfl⟩ | ⟨rfl, rfl⟩ | ⟨rfl, rfl⟩ | ⟨rfl, rfl⟩ <;> kernel_rfl
theorem st56 (N : Nat) (n : Int) (hn : (N, n) ∈ doNs) (X : Nat → Nat) (q : Nat) (m : Int) : ((condsP (stR 56 n X q m) [true], leafD 0 [0] ((stR 56 n X q m).at [true])), (condsP (stR 56 n X q m) [false], leafD 0 (List.replicate (2 * N + 1) 0) ((stR 56 n X q m).at [false]))) =
    (([!eqQ false (stC (gN n X) q m) 0], some (.tup [.slnil, .i false .i64 (stC (gN n X) q m)], [], [])), ([!!eqQ false (stC (gN n X) q m) 0], some (.tup [.sl true 0 0 N 1, .i true .i64 0], [.cells true (.ints .i64 (stLs N X q m))], stNd N X q m))) := by
  simp only [doNs, List.mem_cons, Prod.mk.injEq, List.not_mem_nil, or_false] at hn
  rcases hn with ⟨rfl, rfl⟩ | ⟨rfl, rfl⟩ | ⟨rfl, rfl⟩ | ⟨rfl, rfl⟩ <;> kernel_rfl
end Go.Ax
