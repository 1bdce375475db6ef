/- f25, f26, f28, f29 evaluated on each side. -/
import Derived.Test.YtdcjjibekhcplaaGreatAaq
namespace Go.Ax
open Go Go.Proofs

theorem g25_1 (p k : Int) : rG 25 1 [p, k] = some (mkV 1 1 (blB 1 p k) (fun j => phX (blK 1 p k j)) (fun j => phY (blK 1 p k j)), ndS (blB 1 p k) (!p == 0) 1) := by kernel_rfl
theorem g25_2 (p k : Int) : rG 25 2 [p, k] = some (mkV 4 2 (blB 2 p k) (fun j => phX (blK 2 p k j)) (fun j => phY (blK 2 p k j)), ndS (blB 2 p k) (!p == 0) 4) := by kernel_rfl
theorem g25_4 (p k : Int) : rG 25 4 [p, k] = some (mkV 16 4 (blB 4 p k) (fun j => phX (blK 4 p k j)) (fun j => phY (blK 4 p k j)), ndS (blB 4 p k) (!p == 0) 16) := by kernel_rfl
theorem g25_8 (p k : Int) : rG 25 8 [p, k] = some (mkV 64 8 (blB 8 p k) (fun j => phX (blK 8 p k j)) (fun j => phY (blK 8 p k j)), ndS (blB 8 p k) (!p == 0) 64) := by kernel_rfl
theorem g25_no (n p k : Int) : rN 25 n [p, k] = some (zeroV 2, [!sideB n]) := by kernel_rfl
theorem g25_ne {n p k : Int} (h : blB n p k = false) : (!p == 0) = true := by
  unfold blB at h
  cases hc : inR 1 p n with
  | false => rw [hc] at h; cases h
  | true => exact ne0_of hc
theorem grfn25 (p k : Int) : GrFn 25 [p, k] (fun n => blB n p k) (fun n => fun j => phX (blK n p k j)) (fun n => fun j => phY (blK n p k j)) where
  yes := fun n hs => by
    rcases sideB_iff.1 hs with rfl | rfl | rfl | rfl
    · refine ⟨_, g25_1 p k, ?_⟩
      exact ndS_ok fun h => g25_ne h
    · refine ⟨_, g25_2 p k, ?_⟩
      exact ndS_ok fun h => g25_ne h
    · refine ⟨_, g25_4 p k, ?_⟩
      exact ndS_ok fun h => g25_ne h
    · refine ⟨_, g25_8 p k, ?_⟩
      exact ndS_ok fun h => g25_ne h
  no := fun n => g25_no n p k
theorem g26_1 (p k : Int) : rG 26 1 [p, k] = some (mkV 1 1 (blB 1 p k) (fun j => spX (blK 1 p k j)) (fun j => spY (blK 1 p k j)), ndS (blB 1 p k) (!p == 0) 1) := by kernel_rfl
theorem g26_2 (p k : Int) : rG 26 2 [p, k] = some (mkV 4 2 (blB 2 p k) (fun j => spX (blK 2 p k j)) (fun j => spY (blK 2 p k j)), ndS (blB 2 p k) (!p == 0) 4) := by kernel_rfl
theorem g26_4 (p k : Int) : rG 26 4 [p, k] = some (mkV 16 4 (blB 4 p k) (fun j => spX (blK 4 p k j)) (fun j => spY (blK 4 p k j)), ndS (blB 4 p k) (!p == 0) 16) := by kernel_rfl
theorem g26_8 (p k : Int) : rG 26 8 [p, k] = some (mkV 64 8 (blB 8 p k) (fun j => spX (blK 8 p k j)) (fun j => spY (blK 8 p k j)), ndS (blB 8 p k) (!p == 0) 64) := by kernel_rfl
theorem g26_no (n p k : Int) : rN 26 n [p, k] = some (zeroV 2, [!sideB n]) := by kernel_rfl
theorem g26_ne {n p k : Int} (h : blB n p k = false) : (!p == 0) = true := by
  unfold blB at h
  cases hc : inR 1 p n with
  | false => rw [hc] at h; cases h
  | true => exact ne0_of hc
theorem grfn26 (p k : Int) : GrFn 26 [p, k] (fun n => blB n p k) (fun n => fun j => spX (blK n p k j)) (fun n => fun j => spY (blK n p k j)) where
  yes := fun n hs => by
    rcases sideB_iff.1 hs with rfl | rfl | rfl | rfl
    · refine ⟨_, g26_1 p k, ?_⟩
      exact ndS_ok fun h => g26_ne h
    · refine ⟨_, g26_2 p k, ?_⟩
      exact ndS_ok fun h => g26_ne h
    · refine ⟨_, g26_4 p k, ?_⟩
      exact ndS_ok fun h => g26_ne h
    · refine ⟨_, g26_8 p k, ?_⟩
      exact ndS_ok fun h => g26_ne h
  no := fun n => g26_no n p k
theorem g28_1 (v u k : Int) : rG 28 1 [v, u, k] = some (mkV 1 1 (leB 1 v u k) (fun j => phX (leK 1 v u k j)) (fun j => phY (leK 1 v u k j)), []) := by kernel_rfl
theorem g28_2 (v u k : Int) : rG 28 2 [v, u, k] = some (mkV 4 2 (leB 2 v u k) (fun j => phX (leK 2 v u k j)) (fun j => phY (leK 2 v u k j)), []) := by kernel_rfl
theorem g28_4 (v u k : Int) : rG 28 4 [v, u, k] = some (mkV 16 4 (leB 4 v u k) (fun j => phX (leK 4 v u k j)) (fun j => phY (leK 4 v u k j)), []) := by kernel_rfl
theorem g28_8 (v u k : Int) : rG 28 8 [v, u, k] = some (mkV 64 8 (leB 8 v u k) (fun j => phX (leK 8 v u k j)) (fun j => phY (leK 8 v u k j)), []) := by kernel_rfl
theorem g28_no (n v u k : Int) : rN 28 n [v, u, k] = some (zeroV 2, [!sideB n]) := by kernel_rfl
theorem grfn28 (v u k : Int) : GrFn 28 [v, u, k] (fun n => leB n v u k) (fun n => fun j => phX (leK n v u k j)) (fun n => fun j => phY (leK n v u k j)) where
  yes := fun n hs => by
    rcases sideB_iff.1 hs with rfl | rfl | rfl | rfl
    · refine ⟨_, g28_1 v u k, ?_⟩
      exact rfl
    · refine ⟨_, g28_2 v u k, ?_⟩
      exact rfl
    · refine ⟨_, g28_4 v u k, ?_⟩
      exact rfl
    · refine ⟨_, g28_8 v u k, ?_⟩
      exact rfl
  no := fun n => g28_no n v u k
theorem g29_1 (v u k : Int) : rG 29 1 [v, u, k] = some (mkV 1 1 (leB 1 v u k) (fun j => spX (leK 1 v u k j)) (fun j => spY (leK 1 v u k j)), []) := by kernel_rfl
theorem g29_2 (v u k : Int) : rG 29 2 [v, u, k] = some (mkV 4 2 (leB 2 v u k) (fun j => spX (leK 2 v u k j)) (fun j => spY (leK 2 v u k j)), []) := by kernel_rfl
theorem g29_4 (v u k : Int) : rG 29 4 [v, u, k] = some (mkV 16 4 (leB 4 v u k) (fun j => spX (leK 4 v u k j)) (fun j => spY (leK 4 v u k j)), []) := by kernel_rfl
theorem g29_8 (v u k : Int) : rG 29 8 [v, u, k] = some (mkV 64 8 (leB 8 v u k) (fun j => spX (leK 8 v u k j)) (fun j => spY (leK 8 v u k j)), []) := by kernel_rfl
theorem g29_no (n v u k : Int) : rN 29 n [v, u, k] = some (zeroV 2, [!sideB n]) := by kernel_rfl
theorem grfn29 (v u k : Int) : GrFn 29 [v, u, k] (fun n => leB n v u k) (fun n => fun j => spX (leK n v u k j)) (fun n => fun j => spY (leK n v u k j)) where
  yes := fun n hs => by
    rcases sideB_iff.1 hs with rfl | rfl | rfl | rfl
    · refine ⟨_, g29_1 v u k, ?_⟩
      exact rfl
    · refine ⟨_, g29_2 v u k, ?_⟩
      exact rfl
    · refine ⟨_, g29_4 v u k, ?_⟩
      exact rfl
    · refine ⟨_, g29_8 v u k, ?_⟩
      exact rfl
  no := fun n => g29_no n v u k
end Go.Ax
