/- What the law of gratings draws. -/
import Derived.Test.YtdcjjibekhcplaaGreatAav
namespace Go.Ax
open Go Go.Proofs

def inlG : List FuncId := inlS ++ [6, 11, 15, 18, 21, 24, 27, 30, 65, 95, 73]
noncomputable def tabG (mx : Int) : Table := tabOf (cdeep Tryz.prog (rows11 mx) inlG 2000 6)
theorem tabG_sound (mx : Int) : SoundT Tryz.prog (tabG mx) := cdeep_sound (allAt_mem (rows11_at mx)) 6
def formI2 : Form (Int × Int) where
  get := fun
    | .tup [a, b] => match formI.get a, formI.get b with
      | some x, some y => some (x, y)
      | _, _ => none
    | _ => none
  val := fun x => .tup [.i false .i64 x.1, .i false .i64 x.2]
  rel := fun {v x} h σ y r => by
    split at h <;> (try (cases h; done))
    split at h <;> cases h
    rename_i a b x1 x2 h1 h2
    cases r with | tup hr =>
    generalize hal : Array.toList _ = al at hr
    cases hr with | cons r1 hr => cases hr with | cons r2 hr => cases hr with | nil =>
    refine .tup ?_
    rw [hal]
    exact .cons (formI.rel h1 σ _ r1) (.cons (formI.rel h2 σ _ r2) .nil)
  low := fun _ => rfl
def formI4 : Form (Int × Int × Int × Int) where
  get := fun
    | .tup [a, b, c, d] => match formI.get a, formI.get b, formI.get c, formI.get d with
      | some x, some y, some z, some t => some (x, y, z, t)
      | _, _, _, _ => none
    | _ => none
  val := fun x => .tup [.i false .i64 x.1, .i false .i64 x.2.1, .i false .i64 x.2.2.1, .i false .i64 x.2.2.2]
  rel := fun {v x} h σ y r => by
    split at h <;> (try (cases h; done))
    split at h <;> cases h
    rename_i a b c d x1 x2 x3 x4 h1 h2 h3 h4
    cases r with | tup hr =>
    generalize hal : Array.toList _ = al at hr
    cases hr with | cons r1 hr => cases hr with | cons r2 hr => cases hr with | cons r3 hr => cases hr with | cons r4 hr => cases hr with | nil =>
    refine .tup ?_
    rw [hal]
    exact .cons (formI.rel h1 σ _ r1) (.cons (formI.rel h2 σ _ r2) (.cons (formI.rel h3 σ _ r3) (.cons (formI.rel h4 σ _ r4) .nil)))
  low := fun _ => rfl
theorem drawSlit_nd (c : Cd) : ((drawEx formI3 (tabG 7 6 [.sl false 0 c.off c.len 0] [codeB c false] [] fun v H nd => .ret v H nd)).map fun r => r.2) = some (List.replicate 55 (okB c c.off c.len)) := by kernel_rfl
theorem drawSlit_ok {c : Cd} (hc : goodB c = true) : ∃ x : Int × Int × Int, DrawOK Tryz.prog 6 c (formI3.val x) := drawOK_some (F := formI3) (tabG_sound 7) hc (drawSlit_nd c)
theorem drawDisc_nd (c : Cd) : ((drawEx formI4 (tabG 7 11 [.sl false 0 c.off c.len 0] [codeB c false] [] fun v H nd => .ret v H nd)).map fun r => r.2) = some (List.replicate 999 (okB c c.off c.len)) := by kernel_rfl
theorem drawDisc_ok {c : Cd} (hc : goodB c = true) : ∃ x : Int × Int × Int × Int, DrawOK Tryz.prog 11 c (formI4.val x) := drawOK_some (F := formI4) (tabG_sound 7) hc (drawDisc_nd c)
theorem drawGrating_nd (c : Cd) : ((drawEx formI3 (tabG 7 15 [.sl false 0 c.off c.len 0] [codeB c false] [] fun v H nd => .ret v H nd)).map fun r => r.2) = some (List.replicate 55 (okB c c.off c.len)) := by kernel_rfl
theorem drawGrating_ok {c : Cd} (hc : goodB c = true) : ∃ x : Int × Int × Int, DrawOK Tryz.prog 15 c (formI3.val x) := drawOK_some (F := formI3) (tabG_sound 7) hc (drawGrating_nd c)
theorem drawCheck_nd (c : Cd) : ((drawEx formI2 (tabG 7 18 [.sl false 0 c.off c.len 0] [codeB c false] [] fun v H nd => .ret v H nd)).map fun r => r.2) = some (List.replicate 44 (okB c c.off c.len)) := by kernel_rfl
theorem drawCheck_ok {c : Cd} (hc : goodB c = true) : ∃ x : Int × Int, DrawOK Tryz.prog 18 c (formI2.val x) := drawOK_some (F := formI2) (tabG_sound 7) hc (drawCheck_nd c)
theorem drawZone_nd (c : Cd) : ((drawEx formI4 (tabG 7 21 [.sl false 0 c.off c.len 0] [codeB c false] [] fun v H nd => .ret v H nd)).map fun r => r.2) = some (List.replicate 999 (okB c c.off c.len)) := by kernel_rfl
theorem drawZone_ok {c : Cd} (hc : goodB c = true) : ∃ x : Int × Int × Int × Int, DrawOK Tryz.prog 21 c (formI4.val x) := drawOK_some (F := formI4) (tabG_sound 7) hc (drawZone_nd c)
theorem drawBlazed_nd (c : Cd) : ((drawEx formI3 (tabG 7 24 [.sl false 0 c.off c.len 0] [codeB c false] [] fun v H nd => .ret v H nd)).map fun r => r.2) = some (List.replicate 264 (okB c c.off c.len)) := by kernel_rfl
theorem drawBlazed_ok {c : Cd} (hc : goodB c = true) : ∃ x : Int × Int × Int, DrawOK Tryz.prog 24 c (formI3.val x) := drawOK_some (F := formI3) (tabG_sound 7) hc (drawBlazed_nd c)
theorem drawLens_nd (c : Cd) : ((drawEx formI4 (tabG 7 27 [.sl false 0 c.off c.len 0] [codeB c false] [] fun v H nd => .ret v H nd)).map fun r => r.2) = some (List.replicate 1295 (okB c c.off c.len)) := by kernel_rfl
theorem drawLens_ok {c : Cd} (hc : goodB c = true) : ∃ x : Int × Int × Int × Int, DrawOK Tryz.prog 27 c (formI4.val x) := drawOK_some (F := formI4) (tabG_sound 7) hc (drawLens_nd c)
theorem drawTurn_nd (c : Cd) : ((drawEx formW (tabG 7 30 [.sl false 0 c.off c.len 0] [codeB c false] [] fun v H nd => .ret v H nd)).map fun r => r.2) = some (List.replicate 2 (okB c c.off c.len)) := by kernel_rfl
theorem drawTurn_ok {c : Cd} (hc : goodB c = true) : ∃ x : Int × (Nat → Nat × Nat), DrawOK Tryz.prog 30 c (formW.val x) := drawOK_some (F := formW) (tabG_sound 7) hc (drawTurn_nd c)
end Go.Ax
