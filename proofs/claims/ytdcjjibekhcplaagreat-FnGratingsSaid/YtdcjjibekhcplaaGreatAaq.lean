/- f22, f23 evaluated on each side. -/
import Derived.Test.YtdcjjibekhcplaaGreatAap
namespace Go.Ax
open Go Go.Proofs

theorem g22_1 (v u q : Int) : rG 22 1 [v, u, q] = some (mkV 1 1 (zoB 1 v u q) (bit (zoT 1 v u q)) (zer (zoT 1 v u q)), ndI (zoB 1 v u q) [!q == 0] 1 (zoT 1 v u q)) := by kernel_rfl
theorem g22_2 (v u q : Int) : rG 22 2 [v, u, q] = some (mkV 4 2 (zoB 2 v u q) (bit (zoT 2 v u q)) (zer (zoT 2 v u q)), ndI (zoB 2 v u q) [!q == 0] 4 (zoT 2 v u q)) := by kernel_rfl
theorem g22_4 (v u q : Int) : rG 22 4 [v, u, q] = some (mkV 16 4 (zoB 4 v u q) (bit (zoT 4 v u q)) (zer (zoT 4 v u q)), ndI (zoB 4 v u q) [!q == 0] 16 (zoT 4 v u q)) := by kernel_rfl
theorem g22_8 (v u q : Int) : rG 22 8 [v, u, q] = some (mkV 64 8 (zoB 8 v u q) (bit (zoT 8 v u q)) (zer (zoT 8 v u q)), ndI (zoB 8 v u q) [!q == 0] 64 (zoT 8 v u q)) := by kernel_rfl
theorem g22_no (n v u q : Int) : rN 22 n [v, u, q] = some (zeroV 2, [!sideB n]) := by kernel_rfl
theorem g22_ne {n v u q : Int} (h : zoB n v u q = false) : (!q == 0) = true := by
  unfold zoB at h
  cases hc : ctr n v u with
  | false => rw [hc] at h; cases h
  | true => rw [hc] at h; exact ne0_of (hi := 1000) (by simpa using h)
theorem grfn22 (v u q : Int) : GrFn 22 [v, u, q] (fun n => zoB n v u q) (fun n => bit (zoT n v u q)) (fun n => zer (zoT n v u q)) where
  yes := fun n hs => by
    rcases sideB_iff.1 hs with rfl | rfl | rfl | rfl
    · refine ⟨_, g22_1 v u q, ?_⟩
      exact ndI_ok fun h b hb => by have e := g22_ne h; simp only [List.mem_cons, List.not_mem_nil, or_false, or_self] at hb; rw [hb]; exact e
    · refine ⟨_, g22_2 v u q, ?_⟩
      exact ndI_ok fun h b hb => by have e := g22_ne h; simp only [List.mem_cons, List.not_mem_nil, or_false, or_self] at hb; rw [hb]; exact e
    · refine ⟨_, g22_4 v u q, ?_⟩
      exact ndI_ok fun h b hb => by have e := g22_ne h; simp only [List.mem_cons, List.not_mem_nil, or_false, or_self] at hb; rw [hb]; exact e
    · refine ⟨_, g22_8 v u q, ?_⟩
      exact ndI_ok fun h b hb => by have e := g22_ne h; simp only [List.mem_cons, List.not_mem_nil, or_false, or_self] at hb; rw [hb]; exact e
  no := fun n => g22_no n v u q
theorem g23_1 (v u q : Int) : rG 23 1 [v, u, q] = some (mkV 1 1 (zoB 1 v u q) (bit (zoT 1 v u q)) (zer (zoT 1 v u q)), ndS (zoB 1 v u q) (!q == 0) 1) := by kernel_rfl
theorem g23_2 (v u q : Int) : rG 23 2 [v, u, q] = some (mkV 4 2 (zoB 2 v u q) (bit (zoT 2 v u q)) (zer (zoT 2 v u q)), ndS (zoB 2 v u q) (!q == 0) 4) := by kernel_rfl
theorem g23_4 (v u q : Int) : rG 23 4 [v, u, q] = some (mkV 16 4 (zoB 4 v u q) (bit (zoT 4 v u q)) (zer (zoT 4 v u q)), ndS (zoB 4 v u q) (!q == 0) 16) := by kernel_rfl
theorem g23_8 (v u q : Int) : rG 23 8 [v, u, q] = some (mkV 64 8 (zoB 8 v u q) (bit (zoT 8 v u q)) (zer (zoT 8 v u q)), ndS (zoB 8 v u q) (!q == 0) 64) := by kernel_rfl
theorem g23_no (n v u q : Int) : rN 23 n [v, u, q] = some (zeroV 2, [!sideB n]) := by kernel_rfl
theorem g23_ne {n v u q : Int} (h : zoB n v u q = false) : (!q == 0) = true := by
  unfold zoB at h
  cases hc : ctr n v u with
  | false => rw [hc] at h; cases h
  | true => rw [hc] at h; exact ne0_of (hi := 1000) (by simpa using h)
theorem grfn23 (v u q : Int) : GrFn 23 [v, u, q] (fun n => zoB n v u q) (fun n => bit (zoT n v u q)) (fun n => zer (zoT n v u q)) where
  yes := fun n hs => by
    rcases sideB_iff.1 hs with rfl | rfl | rfl | rfl
    · refine ⟨_, g23_1 v u q, ?_⟩
      exact ndS_ok fun h => g23_ne h
    · refine ⟨_, g23_2 v u q, ?_⟩
      exact ndS_ok fun h => g23_ne h
    · refine ⟨_, g23_4 v u q, ?_⟩
      exact ndS_ok fun h => g23_ne h
    · refine ⟨_, g23_8 v u q, ?_⟩
      exact ndS_ok fun h => g23_ne h
  no := fun n => g23_no n v u q
end Go.Ax
