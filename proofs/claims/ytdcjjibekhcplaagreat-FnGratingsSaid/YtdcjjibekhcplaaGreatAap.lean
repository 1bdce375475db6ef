/- f16, f17, f19, f20 evaluated on each side. -/
import Derived.Test.YtdcjjibekhcplaaGreatAao
namespace Go.Ax
open Go Go.Proofs

theorem g16_1 (p q : Int) : rG 16 1 [p, q] = some (mkV 1 1 (grB 1 p q) (bit (grT 1 p q)) (zer (grT 1 p q)), ndI (grB 1 p q) [!p == 0] 1 (grT 1 p q)) := by kernel_rfl
theorem g16_2 (p q : Int) : rG 16 2 [p, q] = some (mkV 4 2 (grB 2 p q) (bit (grT 2 p q)) (zer (grT 2 p q)), ndI (grB 2 p q) [!p == 0] 4 (grT 2 p q)) := by kernel_rfl
theorem g16_4 (p q : Int) : rG 16 4 [p, q] = some (mkV 16 4 (grB 4 p q) (bit (grT 4 p q)) (zer (grT 4 p q)), ndI (grB 4 p q) [!p == 0] 16 (grT 4 p q)) := by kernel_rfl
theorem g16_8 (p q : Int) : rG 16 8 [p, q] = some (mkV 64 8 (grB 8 p q) (bit (grT 8 p q)) (zer (grT 8 p q)), ndI (grB 8 p q) [!p == 0] 64 (grT 8 p q)) := by kernel_rfl
theorem g16_no (n p q : Int) : rN 16 n [p, q] = some (zeroV 2, [!sideB n]) := by kernel_rfl
theorem g16_ne {n p q : Int} (h : grB n p q = false) : (!p == 0) = true := by
  unfold grB at h
  cases hc : inR 1 p n with
  | false => rw [hc] at h; cases h
  | true => exact ne0_of hc
theorem grfn16 (p q : Int) : GrFn 16 [p, q] (fun n => grB n p q) (fun n => bit (grT n p q)) (fun n => zer (grT n p q)) where
  yes := fun n hs => by
    rcases sideB_iff.1 hs with rfl | rfl | rfl | rfl
    · refine ⟨_, g16_1 p q, ?_⟩
      exact ndI_ok fun h b hb => by have e := g16_ne h; simp only [List.mem_cons, List.not_mem_nil, or_false, or_self] at hb; rw [hb]; exact e
    · refine ⟨_, g16_2 p q, ?_⟩
      exact ndI_ok fun h b hb => by have e := g16_ne h; simp only [List.mem_cons, List.not_mem_nil, or_false, or_self] at hb; rw [hb]; exact e
    · refine ⟨_, g16_4 p q, ?_⟩
      exact ndI_ok fun h b hb => by have e := g16_ne h; simp only [List.mem_cons, List.not_mem_nil, or_false, or_self] at hb; rw [hb]; exact e
    · refine ⟨_, g16_8 p q, ?_⟩
      exact ndI_ok fun h b hb => by have e := g16_ne h; simp only [List.mem_cons, List.not_mem_nil, or_false, or_self] at hb; rw [hb]; exact e
  no := fun n => g16_no n p q
theorem g17_1 (p q : Int) : rG 17 1 [p, q] = some (mkV 1 1 (grB 1 p q) (bit (grT 1 p q)) (zer (grT 1 p q)), ndS (grB 1 p q) (!p == 0) 1) := by kernel_rfl
theorem g17_2 (p q : Int) : rG 17 2 [p, q] = some (mkV 4 2 (grB 2 p q) (bit (grT 2 p q)) (zer (grT 2 p q)), ndS (grB 2 p q) (!p == 0) 4) := by kernel_rfl
theorem g17_4 (p q : Int) : rG 17 4 [p, q] = some (mkV 16 4 (grB 4 p q) (bit (grT 4 p q)) (zer (grT 4 p q)), ndS (grB 4 p q) (!p == 0) 16) := by kernel_rfl
theorem g17_8 (p q : Int) : rG 17 8 [p, q] = some (mkV 64 8 (grB 8 p q) (bit (grT 8 p q)) (zer (grT 8 p q)), ndS (grB 8 p q) (!p == 0) 64) := by kernel_rfl
theorem g17_no (n p q : Int) : rN 17 n [p, q] = some (zeroV 2, [!sideB n]) := by kernel_rfl
theorem g17_ne {n p q : Int} (h : grB n p q = false) : (!p == 0) = true := by
  unfold grB at h
  cases hc : inR 1 p n with
  | false => rw [hc] at h; cases h
  | true => exact ne0_of hc
theorem grfn17 (p q : Int) : GrFn 17 [p, q] (fun n => grB n p q) (fun n => bit (grT n p q)) (fun n => zer (grT n p q)) where
  yes := fun n hs => by
    rcases sideB_iff.1 hs with rfl | rfl | rfl | rfl
    · refine ⟨_, g17_1 p q, ?_⟩
      exact ndS_ok fun h => g17_ne h
    · refine ⟨_, g17_2 p q, ?_⟩
      exact ndS_ok fun h => g17_ne h
    · refine ⟨_, g17_4 p q, ?_⟩
      exact ndS_ok fun h => g17_ne h
    · refine ⟨_, g17_8 p q, ?_⟩
      exact ndS_ok fun h => g17_ne h
  no := fun n => g17_no n p q
theorem g19_1 (p : Int) : rG 19 1 [p] = some (mkV 1 1 (chB 1 p) (bit (chT 1 p)) (zer (chT 1 p)), ndI (chB 1 p) [!p == 0, !p == 0] 1 (chT 1 p)) := by kernel_rfl
theorem g19_2 (p : Int) : rG 19 2 [p] = some (mkV 4 2 (chB 2 p) (bit (chT 2 p)) (zer (chT 2 p)), ndI (chB 2 p) [!p == 0, !p == 0] 4 (chT 2 p)) := by kernel_rfl
theorem g19_4 (p : Int) : rG 19 4 [p] = some (mkV 16 4 (chB 4 p) (bit (chT 4 p)) (zer (chT 4 p)), ndI (chB 4 p) [!p == 0, !p == 0] 16 (chT 4 p)) := by kernel_rfl
theorem g19_8 (p : Int) : rG 19 8 [p] = some (mkV 64 8 (chB 8 p) (bit (chT 8 p)) (zer (chT 8 p)), ndI (chB 8 p) [!p == 0, !p == 0] 64 (chT 8 p)) := by kernel_rfl
theorem g19_no (n p : Int) : rN 19 n [p] = some (zeroV 2, [!sideB n]) := by kernel_rfl
theorem g19_ne {n p : Int} (h : chB n p = false) : (!p == 0) = true := by
  unfold chB at h
  exact ne0_of (hi := n) (by simpa using h)
theorem grfn19 (p : Int) : GrFn 19 [p] (fun n => chB n p) (fun n => bit (chT n p)) (fun n => zer (chT n p)) where
  yes := fun n hs => by
    rcases sideB_iff.1 hs with rfl | rfl | rfl | rfl
    · refine ⟨_, g19_1 p, ?_⟩
      exact ndI_ok fun h b hb => by have e := g19_ne h; simp only [List.mem_cons, List.not_mem_nil, or_false, or_self] at hb; rw [hb]; exact e
    · refine ⟨_, g19_2 p, ?_⟩
      exact ndI_ok fun h b hb => by have e := g19_ne h; simp only [List.mem_cons, List.not_mem_nil, or_false, or_self] at hb; rw [hb]; exact e
    · refine ⟨_, g19_4 p, ?_⟩
      exact ndI_ok fun h b hb => by have e := g19_ne h; simp only [List.mem_cons, List.not_mem_nil, or_false, or_self] at hb; rw [hb]; exact e
    · refine ⟨_, g19_8 p, ?_⟩
      exact ndI_ok fun h b hb => by have e := g19_ne h; simp only [List.mem_cons, List.not_mem_nil, or_false, or_self] at hb; rw [hb]; exact e
  no := fun n => g19_no n p
theorem g20_1 (p : Int) : rG 20 1 [p] = some (mkV 1 1 (chB 1 p) (bit (chT 1 p)) (zer (chT 1 p)), ndS (chB 1 p) (!p == 0) (1 + 1)) := by kernel_rfl
theorem g20_2 (p : Int) : rG 20 2 [p] = some (mkV 4 2 (chB 2 p) (bit (chT 2 p)) (zer (chT 2 p)), ndS (chB 2 p) (!p == 0) (4 + 4)) := by kernel_rfl
theorem g20_4 (p : Int) : rG 20 4 [p] = some (mkV 16 4 (chB 4 p) (bit (chT 4 p)) (zer (chT 4 p)), ndS (chB 4 p) (!p == 0) (16 + 16)) := by kernel_rfl
theorem g20_8 (p : Int) : rG 20 8 [p] = some (mkV 64 8 (chB 8 p) (bit (chT 8 p)) (zer (chT 8 p)), ndS (chB 8 p) (!p == 0) (64 + 64)) := by kernel_rfl
theorem g20_no (n p : Int) : rN 20 n [p] = some (zeroV 2, [!sideB n]) := by kernel_rfl
theorem g20_ne {n p : Int} (h : chB n p = false) : (!p == 0) = true := by
  unfold chB at h
  exact ne0_of (hi := n) (by simpa using h)
theorem grfn20 (p : Int) : GrFn 20 [p] (fun n => chB n p) (fun n => bit (chT n p)) (fun n => zer (chT n p)) where
  yes := fun n hs => by
    rcases sideB_iff.1 hs with rfl | rfl | rfl | rfl
    · refine ⟨_, g20_1 p, ?_⟩
      exact ndS_ok fun h => g20_ne h
    · refine ⟨_, g20_2 p, ?_⟩
      exact ndS_ok fun h => g20_ne h
    · refine ⟨_, g20_4 p, ?_⟩
      exact ndS_ok fun h => g20_ne h
    · refine ⟨_, g20_8 p, ?_⟩
      exact ndS_ok fun h => g20_ne h
  no := fun n => g20_no n p
end Go.Ax
