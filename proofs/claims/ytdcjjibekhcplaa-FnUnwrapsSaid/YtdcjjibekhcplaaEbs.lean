/- The law of unwrapping: drawn floods, differences and slopes, evaluated. -/
import Derived.Test.YtdcjjibekhcplaaEbr
namespace Go.Ax
open Go Go.Proofs

noncomputable def dF (R : UwR) (c : Cd) : List Int := R.fd (R.D c).n (R.D c).xs (reX (R.D c).X) (R.D c).y (R.D c).x
noncomputable def dC (R : UwR) (c : Cd) : Int := R.fc (R.D c).n (R.D c).xs (R.D c).s (reX (R.D c).X) (R.D c).y (R.D c).x
noncomputable def dW (R : UwR) (c : Cd) : Int := R.wv (R.H c).1 (R.H c).2
noncomputable def dK (R : UwR) (c : Cd) : Int := R.wk (R.H c).1 (R.H c).2
noncomputable def dB (R : UwR) (c : Cd) : AB := .cells true (.lit (waveL (R.D c).s (R.D c).X))
noncomputable def n33 (R : UwR) (c : Cd) : List Bool := okB c c.off c.len :: (szQ (R.D c).xs ++ (szQ (R.D c).xs ++ [okB c c.off c.len]))
theorem lu33_T (R : UwR) (c : Cd) : (condsP (lu33 R c) [true, true], lfM m39 ((lu33 R c).at [true, true])) = ([eqQ false (dC R c) 0, eqQ false (dC R c) 0], true, luL39,
    (lt7 c (l39 (.sl false 3 0 (dF R c).length 1) (.sl false 4 0 (dF R c).length 1) (.i true .i64 0) (.i true .i64 0) (R.H c).1 (R.H c).2 (dW R c) (dK R c))).map AV.bare, [codeB c false, qB (R.D c).xs, dB R c, qB (dF R c), qB (dF R c)], n33 R c) := by kernel_rfl
theorem lu33_F (R : UwR) (c : Cd) : (condsP (lu33 R c) [false, false], lfM m39 ((lu33 R c).at [false, false])) = ([!eqQ false (dC R c) 0, !eqQ false (dC R c) 0], true, luL39,
    (lt7 c (l39 .slnil .slnil (.i false .i64 (dC R c)) (.i false .i64 (dC R c)) (R.H c).1 (R.H c).2 (dW R c) (dK R c))).map AV.bare, [codeB c false, qB (R.D c).xs, dB R c], n33 R c) := by kernel_rfl
def dfC (h k d e : Int) : Bool := cond (eqQ false e 0) (cond (ltQ false d (-32)) true (cond (ltQ false 31 d) true (!eqQ false ((wrapQ false .i64 (wrapQ false .i64 (k - h) - d)).tmod 64) 0))) false
theorem lu39_T (R : UwR) (c : Cd) (A B : AB) (f : List Int) (h k d e : Int) : (condsP (lu39T R c A B f h k d e) [false, false], lfM (lm7 []) ((lu39T R c A B f h k d e).at [false, false])) =
    ([!cond (!(f == f)) true (cond (!eqQ false e e) true (!eqQ false d d)), !dfC h k d e], true, luL43, (lt7 c []).map AV.bare, [codeB c false, A, B, qB f, qB f],
     [cond (!(f == f)) (andT (szQ f ++ szQ f)) true, cond (!!(f == f)) (andT (guardL (!eqQ false e e) (szQ f ++ szQ f) ++ guardL (!!eqQ false e e) (szQ f ++ szQ f))) true]) := by kernel_rfl
theorem lu39_F (R : UwR) (c : Cd) (A B : AB) (z : Int) (h k d e : Int) : (condsP (lu39F R c A B z h k d e) [false, false], lfM (lm7 []) ((lu39F R c A B z h k d e).at [false, false])) =
    ([!cond (!eqQ false z z) true (cond (!eqQ false e e) true (!eqQ false d d)), !dfC h k d e], true, luL43, (lt7 c []).map AV.bare, [codeB c false, A, B], []) := by kernel_rfl
theorem lu43_T (R : UwR) (c : Cd) : (condsP (lu43 R c) [true, true], lfM m46 ((lu43 R c).at [true, true])) = ([eqQ false (R.cm (R.Z 91 c).1 (R.Z 91 c).2) 0, eqQ false (R.cm (R.Z 91 c).1 (R.Z 91 c).2) 0], true, luL46,
    (lt7 c (l46 (.sl false 2 0 (R.sl (R.Z 91 c).1 (R.Z 91 c).2).length 1) (.sl false 3 0 (R.sl (R.Z 91 c).1 (R.Z 91 c).2).length 1) (.i true .i64 0) (.i true .i64 0))).map AV.bare, [codeB c false, qB (R.Z 91 c).2, qB (R.sl (R.Z 91 c).1 (R.Z 91 c).2), qB (R.sl (R.Z 91 c).1 (R.Z 91 c).2)],
    szQ (R.Z 91 c).2 ++ (szQ (R.Z 91 c).2 ++ [okB c c.off c.len])) := by kernel_rfl
theorem lu43_F (R : UwR) (c : Cd) : (condsP (lu43 R c) [false, false], lfM m46 ((lu43 R c).at [false, false])) = ([!eqQ false (R.cm (R.Z 91 c).1 (R.Z 91 c).2) 0, !eqQ false (R.cm (R.Z 91 c).1 (R.Z 91 c).2) 0], true, luL46,
    (lt7 c (l46 .slnil .slnil (.i false .i64 (R.cm (R.Z 91 c).1 (R.Z 91 c).2)) (.i false .i64 (R.cm (R.Z 91 c).1 (R.Z 91 c).2)))).map AV.bare, [codeB c false, qB (R.Z 91 c).2], szQ (R.Z 91 c).2 ++ (szQ (R.Z 91 c).2 ++ [okB c c.off c.len])) := by kernel_rfl
theorem lu46_T (R : UwR) (c : Cd) (A : AB) (f : List Int) : (condsP (lu46T R c A f) [false], lfM (lm7 []) ((lu46T R c A f).at [false])) = ([!!(f == f)], true, luL48, (lt7 c []).map AV.bare, [codeB c false, A, qB f, qB f], szQ f ++ szQ f) := by kernel_rfl
theorem lu46_F (R : UwR) (c : Cd) (A : AB) (z : Int) : (condsP (lu46F R c A z) [false], lfM (lm7 []) ((lu46F R c A z).at [false])) = ([!!eqQ false z z], true, luL48, (lt7 c []).map AV.bare, [codeB c false, A], []) := by kernel_rfl
end Go.Ax
