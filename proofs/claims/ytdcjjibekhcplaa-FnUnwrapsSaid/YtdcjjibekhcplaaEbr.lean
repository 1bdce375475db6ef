/- The law of unwrapping: drawn floods, differences and slopes, forms. -/
import Derived.Test.YtdcjjibekhcplaaEbq
namespace Go.Ax
open Go Go.Proofs

noncomputable def lu33 (R : UwR) (c : Cd) : Res := lw R 0 (atReg 39) luL33 (lt7 c []) [codeB c false]
noncomputable def luL39 : List Item := ((lu33 R0 ⟨[], 0, 0⟩).at [true, true]).todo ++ []
def l39 (u v : AV) (z z' : AV) (h k d e : Int) : List (Nat × AV) := [(29, u), (30, z), (31, v), (32, z'), (33, .i false .i64 h), (34, .i false .i64 k), (35, .i false .i64 d), (36, .i false .i64 e), (37, .i false .i64 d), (38, .i false .i64 e)]
def m39 : List Bool := lm7 [29, 30, 31, 32, 33, 34, 35, 36, 37, 38]
noncomputable def lu39T (R : UwR) (c : Cd) (A B : AB) (f : List Int) (h k d e : Int) : Res := lw R 0 (atReg 43) luL39 (lt7 c (l39 (.sl false 3 0 f.length 1) (.sl false 4 0 f.length 1) (.i true .i64 0) (.i true .i64 0) h k d e)) [codeB c false, A, B, qB f, qB f]
noncomputable def lu39F (R : UwR) (c : Cd) (A B : AB) (z : Int) (h k d e : Int) : Res := lw R 0 (atReg 43) luL39 (lt7 c (l39 .slnil .slnil (.i false .i64 z) (.i false .i64 z) h k d e)) [codeB c false, A, B]
noncomputable def luL43 : List Item := ((lu39T R0 ⟨[], 0, 0⟩ .dead .dead [] 0 0 0 0).at [false, false]).todo ++ []
noncomputable def lu43 (R : UwR) (c : Cd) : Res := lw R 0 (atReg 46) luL43 (lt7 c []) [codeB c false]
noncomputable def luL46 : List Item := ((lu43 R0 ⟨[], 0, 0⟩).at [true, true]).todo ++ []
def l46 (u v : AV) (z z' : AV) : List (Nat × AV) := [(41, u), (42, z), (43, v), (44, z')]
def m46 : List Bool := lm7 [41, 42, 43, 44]
noncomputable def lu46T (R : UwR) (c : Cd) (A : AB) (f : List Int) : Res := lw R 0 (atReg 48) luL46 (lt7 c (l46 (.sl false 2 0 f.length 1) (.sl false 3 0 f.length 1) (.i true .i64 0) (.i true .i64 0))) [codeB c false, A, qB f, qB f]
noncomputable def lu46F (R : UwR) (c : Cd) (A : AB) (z : Int) : Res := lw R 0 (atReg 48) luL46 (lt7 c (l46 .slnil .slnil (.i false .i64 z) (.i false .i64 z))) [codeB c false, A]
noncomputable def luL48 : List Item := ((lu46T R0 ⟨[], 0, 0⟩ .dead []).at [false]).todo ++ []
noncomputable def lu48 (R : UwR) (b : Int) (c : Cd) : Res := lw R b atLoop luL48 (lt7 c []) [codeB c false]
end Go.Ax
