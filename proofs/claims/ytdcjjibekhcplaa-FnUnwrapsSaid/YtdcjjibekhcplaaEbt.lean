/- The law of unwrapping: planes. -/
import Derived.Test.YtdcjjibekhcplaaEbs
namespace Go.Ax
open Go Go.Proofs

def lp (n u v : Int) (s : AV) (k : Int) : List (Nat × AV) := [(46, .i false .i64 n), (47, .i false .i64 u), (48, .i false .i64 v), (49, s), (50, .i false .i64 k)]
def lpm : List Bool := lm7 [46, 47, 48, 49, 50]
noncomputable def luU (c : Cd) : Int := wrapQ false .i64 (beV c (nxA c 0 4) (nxS (rollV c 992) 4) 63 - 31)
noncomputable def luV (c : Cd) : Int := wrapQ false .i64 (beV c (nxA c (nxA c 0 4) 63) (nxS (nxS (rollV c 992) 4) 63) 63 - 31)
noncomputable def lpL : List Item := ((lu48 R0 0 ⟨[], 0, 0⟩).at []).todo ++ []
noncomputable def lpR : List Item := toLp lpL
theorem lpR_eq : toLp lpR = lpR := by kernel_rfl
noncomputable def n48 (b : Int) (c : Cd) : List Bool := [okB c c.off c.len, okB c c.off c.len, okB c c.off c.len, eqQ false (beV c 0 (rollV c 992) 4) b, okB c c.off c.len]
def Lu48 (b m : Int) : Prop := ∀ (R : UwR) (c : Cd), (condsP (lu48 R b c) [], lfD 1 [1] lpm ((lu48 R b c).at [])) = ([], true, lpL, (true, (lt7 c (lp m (luU c) (luV c) (.sl true 1 0 0 1) 0)).map AV.bare, [codeB c false, qB []]), n48 b c)
theorem lu48_0 : Lu48 0 1 := fun R c => by kernel_rfl
theorem lu48_1 : Lu48 1 2 := fun R c => by kernel_rfl
theorem lu48_2 : Lu48 2 4 := fun R c => by kernel_rfl
theorem lu48_3 : Lu48 3 8 := fun R c => by kernel_rfl
noncomputable def lpU (R : UwR) (c : Cd) (n u v : Int) (ps : List Int) (k : Nat) : Res := lw R 0 (fun L => atLoop L || atReg 53 L) lpR (lt7 c (lp n u v (.sl false 1 0 ps.length 1) (Int.ofNat k))) [codeB c false, qB ps]
noncomputable def lpL53 : List Item := ((lpU R0 ⟨[], 0, 0⟩ 0 0 0 [] 0).at [true]).todo ++ []
theorem lp53_eq : lpL53 = .code (.region 53 (opsOf lpL53) true) :: tlOf lpL53 := by kernel_rfl
theorem lp53_reg : (Nat.ble 13 (opsOf lpL53).size && (drawOK (opsOf lpL53) 13 && box2OK (opsOf lpL53) 13 12 (Nat.beq 12))) = true := by kernel_rfl
noncomputable def lp53 (R : UwR) (c : Cd) (n u v : Int) (ps : List Int) (k : Nat) : Res := runYB Try.prog (tabLu R 0) 12 (Nat.beq 12) 0 ((opsOf lpL53).toList.take 13) (lt7 c (lp n u v (.sl false 1 0 ps.length 1) (Int.ofNat k))) [codeB c false, qB ps] .dead [] fun t B nd => runOps Try.prog (tabLu R 0) (opsOf lpL53) ((opsOf lpL53).toList.drop 13) t ([codeB c false, qB ps] ++ [B]) nd fun t H nd => .stop [] t H nd
noncomputable def lpE (R : UwR) (c : Cd) (n u v : Int) (s : AV) (H : List AB) (k : Nat) : Res := lw R 0 atLoop (tlOf lpL53) (lt7 c (lp n u v s (Int.ofNat k))) H
end Go.Ax
