/- Pictures and numbers drawn by the law. -/
import Derived.Test.YtdcjjibekhcplaaGreatBaq
namespace Go.Ax
open Go Go.Proofs

theorem d36_nd (c : Cd) : ndD formP 36 7 c = some (List.replicate 24 (okB c c.off c.len)) := by kernel_rfl
theorem d36_ok {c : Cd} (hc : goodB c = true) : ∃ x, DrawOK Tryz.prog 36 c (formP.val x) := drawOK_some (F := formP) (tabP3_sound 7) hc (d36_nd c)
theorem d45_nd (c : Cd) : ndD formP 45 7 c = some (List.replicate 24 (okB c c.off c.len)) := by kernel_rfl
theorem d45_ok {c : Cd} (hc : goodB c = true) : ∃ x, DrawOK Tryz.prog 45 c (formP.val x) := drawOK_some (F := formP) (tabP3_sound 7) hc (d45_nd c)
theorem d42_nd (c : Cd) : ndD (form2 formF formP) 42 7 c = some (List.replicate 3 (okB c c.off c.len)) := by kernel_rfl
theorem d42_ok {c : Cd} (hc : goodB c = true) : ∃ x, DrawOK Tryz.prog 42 c ((form2 formF formP).val x) := drawOK_some (F := form2 formF formP) (tabP3_sound 7) hc (d42_nd c)
theorem d51_nd (c : Cd) : ndD (form2 formP formF) 51 7 c = some (List.replicate 3 (okB c c.off c.len)) := by kernel_rfl
theorem d51_ok {c : Cd} (hc : goodB c = true) : ∃ x, DrawOK Tryz.prog 51 c ((form2 formP formF).val x) := drawOK_some (F := form2 formP formF) (tabP3_sound 7) hc (d51_nd c)
theorem d60_nd (c : Cd) : ndD (form2 formP formF) 60 7 c = some (List.replicate 3 (okB c c.off c.len)) := by kernel_rfl
theorem d60_ok {c : Cd} (hc : goodB c = true) : ∃ x, DrawOK Tryz.prog 60 c ((form2 formP formF).val x) := drawOK_some (F := form2 formP formF) (tabP3_sound 7) hc (d60_nd c)
theorem d54_nd (c : Cd) : ndD (form3 formP formF formI) 54 7 c = some (List.replicate 72 (okB c c.off c.len)) := by kernel_rfl
theorem d54_ok {c : Cd} (hc : goodB c = true) : ∃ x, DrawOK Tryz.prog 54 c ((form3 formP formF formI).val x) := drawOK_some (F := form3 formP formF formI) (tabP3_sound 7) hc (d54_nd c)
theorem d57_nd (c : Cd) : ndD (form3 formP formF formI) 57 7 c = some (List.replicate 72 (okB c c.off c.len)) := by kernel_rfl
theorem d57_ok {c : Cd} (hc : goodB c = true) : ∃ x, DrawOK Tryz.prog 57 c ((form3 formP formF formI).val x) := drawOK_some (F := form3 formP formF formI) (tabP3_sound 7) hc (d57_nd c)
/-! ### Two pictures -/
noncomputable def ppC : Code := Tryz.f90.body.getD .skip
noncomputable def ppL : List Item := ((mx0 (tabP3 7) ppC 6 26 ⟨[], 0, 0⟩).stops.map (·.todo)).headD []
theorem ppL_eq : ppL = .code (.region 6 (opsOf ppL) true) :: tlOf ppL := by kernel_rfl
theorem pp_draw : (drawOK (opsOf ppL) 6 && effOK [164, 163] (opsOf ppL) 6 && Tryz.prog.follows .mixedOrders && Nat.ble 6 (opsOf ppL).size) = true := by kernel_rfl
theorem pp_all (c : Cd) : (mx0 (tabP3 7) ppC 6 26 c).allStop = true := by kernel_rfl
def ppQ : List Nat := (List.range 7).flatMap fun _ => [8, 8, 8, 8, 8, 8, 8, 7]
theorem pp_leaves (c : Cd) : (mx0 (tabP3 7) ppC 6 26 c).stops.map (mxLeaf (tabP3 1) [164, 163] 3 6 ppL (form2 formP formP) Tryz.f90.results.toList) = ppQ.map fun q => (ppL, true, true, [], List.replicate q (okB c c.off c.len), some []) := by kernel_rfl
theorem d90_ok {c : Cd} (hc : goodB c = true) : ∃ x, DrawOK Tryz.prog 90 c ((form2 formP formP).val x) :=
  mix_draw (tabP3_sound 7) (tabP3_sound 1) hc Tryz.func90 rfl rfl ppL_eq pp_draw (pp_all c) (pp_leaves c)
noncomputable def tabP4 : Table := tabOf (cdeep Tryz.prog [(90, drawT (form2 formP formP))] [] 200 2)
theorem tabP4_sound : SoundT Tryz.prog tabP4 := cdeep_sound (fun p hp => by
  simp only [List.mem_cons, List.not_mem_nil, or_false] at hp
  subst hp
  exact drawT_at fun c hc => d90_ok hc) 2
noncomputable def dC33 : Code := Tryz.f33.body.getD .skip
noncomputable def dL33 : List Item := ((mx0 tabP4 dC33 2 12 ⟨[], 0, 0⟩).stops.map (·.todo)).headD []
theorem dL33_eq : dL33 = .code (.region 2 (opsOf dL33) true) :: tlOf dL33 := by kernel_rfl
theorem d33_draw : (drawOK (opsOf dL33) 3 && effOK [0] (opsOf dL33) 3 && Tryz.prog.follows .mixedOrders && Nat.ble 3 (opsOf dL33).size) = true := by kernel_rfl
theorem d33_all (c : Cd) : (mx0 tabP4 dC33 2 12 c).allStop = true := by kernel_rfl
theorem d33_leaves (c : Cd) : (mx0 tabP4 dC33 2 12 c).stops.map (mxLeaf tabP4 [0] 1 3 dL33 (form2 formP formP) Tryz.f33.results.toList) = [1].map fun q => (dL33, true, true, [], List.replicate q (okB c c.off c.len), some []) := by kernel_rfl
theorem d33_ok {c : Cd} (hc : goodB c = true) : ∃ x, DrawOK Tryz.prog 33 c ((form2 formP formP).val x) :=
  mix_draw tabP4_sound tabP4_sound hc Tryz.func33 rfl rfl dL33_eq d33_draw (d33_all c) (d33_leaves c)
noncomputable def dC39 : Code := Tryz.f39.body.getD .skip
noncomputable def dL39 : List Item := ((mx0 tabP4 dC39 2 12 ⟨[], 0, 0⟩).stops.map (·.todo)).headD []
theorem dL39_eq : dL39 = .code (.region 2 (opsOf dL39) true) :: tlOf dL39 := by kernel_rfl
theorem d39_draw : (drawOK (opsOf dL39) 3 && effOK [0] (opsOf dL39) 3 && Tryz.prog.follows .mixedOrders && Nat.ble 3 (opsOf dL39).size) = true := by kernel_rfl
theorem d39_all (c : Cd) : (mx0 tabP4 dC39 2 12 c).allStop = true := by kernel_rfl
theorem d39_leaves (c : Cd) : (mx0 tabP4 dC39 2 12 c).stops.map (mxLeaf tabP4 [0] 1 3 dL39 (form2 formP formP) Tryz.f39.results.toList) = [1].map fun q => (dL39, true, true, [], List.replicate q (okB c c.off c.len), some []) := by kernel_rfl
theorem d39_ok {c : Cd} (hc : goodB c = true) : ∃ x, DrawOK Tryz.prog 39 c ((form2 formP formP).val x) :=
  mix_draw tabP4_sound tabP4_sound hc Tryz.func39 rfl rfl dL39_eq d39_draw (d39_all c) (d39_leaves c)
end Go.Ax
