/- f7, f12, f13 evaluated on each side. -/
import Derived.Test.YtdcjjibekhcplaaGreatAan
namespace Go.Ax
open Go Go.Proofs

theorem g7_1 (x w : Int) : rG 7 1 [x, w] = some (mkV 1 1 (slB 1 x w) (bit (slT 1 x w)) (zer (slT 1 x w)), []) := by kernel_rfl
theorem g7_2 (x w : Int) : rG 7 2 [x, w] = some (mkV 4 2 (slB 2 x w) (bit (slT 2 x w)) (zer (slT 2 x w)), []) := by kernel_rfl
theorem g7_4 (x w : Int) : rG 7 4 [x, w] = some (mkV 16 4 (slB 4 x w) (bit (slT 4 x w)) (zer (slT 4 x w)), []) := by kernel_rfl
theorem g7_8 (x w : Int) : rG 7 8 [x, w] = some (mkV 64 8 (slB 8 x w) (bit (slT 8 x w)) (zer (slT 8 x w)), []) := by kernel_rfl
theorem g7_no (n x w : Int) : rN 7 n [x, w] = some (zeroV 2, [!sideB n]) := by kernel_rfl
theorem grfn7 (x w : Int) : GrFn 7 [x, w] (fun n => slB n x w) (fun n => bit (slT n x w)) (fun n => zer (slT n x w)) where
  yes := fun n hs => by
    rcases sideB_iff.1 hs with rfl | rfl | rfl | rfl
    · refine ⟨_, g7_1 x w, ?_⟩
      exact rfl
    · refine ⟨_, g7_2 x w, ?_⟩
      exact rfl
    · refine ⟨_, g7_4 x w, ?_⟩
      exact rfl
    · refine ⟨_, g7_8 x w, ?_⟩
      exact rfl
  no := fun n => g7_no n x w
theorem g12_1 (v u r : Int) : rG 12 1 [v, u, r] = some (mkV 1 1 (diB 1 v u r) (bit (diT 1 v u r)) (zer (diT 1 v u r)), []) := by kernel_rfl
theorem g12_2 (v u r : Int) : rG 12 2 [v, u, r] = some (mkV 4 2 (diB 2 v u r) (bit (diT 2 v u r)) (zer (diT 2 v u r)), []) := by kernel_rfl
theorem g12_4 (v u r : Int) : rG 12 4 [v, u, r] = some (mkV 16 4 (diB 4 v u r) (bit (diT 4 v u r)) (zer (diT 4 v u r)), []) := by kernel_rfl
theorem g12_8 (v u r : Int) : rG 12 8 [v, u, r] = some (mkV 64 8 (diB 8 v u r) (bit (diT 8 v u r)) (zer (diT 8 v u r)), []) := by kernel_rfl
theorem g12_no (n v u r : Int) : rN 12 n [v, u, r] = some (zeroV 2, [!sideB n]) := by kernel_rfl
theorem grfn12 (v u r : Int) : GrFn 12 [v, u, r] (fun n => diB n v u r) (fun n => bit (diT n v u r)) (fun n => zer (diT n v u r)) where
  yes := fun n hs => by
    rcases sideB_iff.1 hs with rfl | rfl | rfl | rfl
    · refine ⟨_, g12_1 v u r, ?_⟩
      exact rfl
    · refine ⟨_, g12_2 v u r, ?_⟩
      exact rfl
    · refine ⟨_, g12_4 v u r, ?_⟩
      exact rfl
    · refine ⟨_, g12_8 v u r, ?_⟩
      exact rfl
  no := fun n => g12_no n v u r
theorem g13_1 (v u r : Int) : rG 13 1 [v, u, r] = some (mkV 1 1 (diB 1 v u r) (bit (diT 1 v u r)) (zer (diT 1 v u r)), []) := by kernel_rfl
theorem g13_2 (v u r : Int) : rG 13 2 [v, u, r] = some (mkV 4 2 (diB 2 v u r) (bit (diT 2 v u r)) (zer (diT 2 v u r)), []) := by kernel_rfl
theorem g13_4 (v u r : Int) : rG 13 4 [v, u, r] = some (mkV 16 4 (diB 4 v u r) (bit (diT 4 v u r)) (zer (diT 4 v u r)), []) := by kernel_rfl
theorem g13_8 (v u r : Int) : rG 13 8 [v, u, r] = some (mkV 64 8 (diB 8 v u r) (bit (diT 8 v u r)) (zer (diT 8 v u r)), []) := by kernel_rfl
theorem g13_no (n v u r : Int) : rN 13 n [v, u, r] = some (zeroV 2, [!sideB n]) := by kernel_rfl
theorem grfn13 (v u r : Int) : GrFn 13 [v, u, r] (fun n => diB n v u r) (fun n => bit (diT n v u r)) (fun n => zer (diT n v u r)) where
  yes := fun n hs => by
    rcases sideB_iff.1 hs with rfl | rfl | rfl | rfl
    · refine ⟨_, g13_1 v u r, ?_⟩
      exact rfl
    · refine ⟨_, g13_2 v u r, ?_⟩
      exact rfl
    · refine ⟨_, g13_4 v u r, ?_⟩
      exact rfl
    · refine ⟨_, g13_8 v u r, ?_⟩
      exact rfl
  no := fun n => g13_no n v u r
end Go.Ax
