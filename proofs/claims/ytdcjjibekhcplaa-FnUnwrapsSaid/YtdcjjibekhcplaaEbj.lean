/- impl.UnwrapFlood: from the outer head to the inner one and back, and its end. -/
import Derived.Test.YtdcjjibekhcplaaEbh
import Derived.Test.YtdcjjibekhcplaaEbi
namespace Go.Ax
open Go Go.Proofs

section
variable (A B C D Q : AB) (qs os : List Int) (off L : Nat) (n : Int) (N : Nat)
noncomputable def ugV : Res := cupto Try.prog tabUf (fun L => atLoop L || atReg 13 L) 200 ugR (ugTl n N (.sl false 4 off L 2) []) [A, B, C, D, .cells true (.ints .i64 qs)]
def qAB : AB := .cells true (.lit [.i false .i64 (qs.getD (off + 0 * 2 + 0) 0), .i false .i64 (qs.getD (off + 0 * 2 + 1) 0)])
theorem ugV_go : (condsP (ugV A B C D qs off L n N) [true], lfM w13N ((ugV A B C D qs off L n N).at [true])) = ([ltQ false 0 (L : Int)], true, u3L, (w13T n N (.sl false 4 off L 2) []).map AV.bare, q13H A B C D (qAB qs off) qs, [decide (off + 0 * 2 + 2 ≤ (Cells.ints .i64 qs).len), decide ((0 : Int) ≤ 0) && decide ((0 : Int) < (L : Int))]) := by kernel_rfl
noncomputable def u4V (m p : Nat) (s : AV) : Res := cupto Try.prog tabUf atLoop 200 (tlOf u3L) (w13T m N s []) [A, B, C, D, Q, atB m p]
theorem u4_1 (s : AV) : (List.range 1).map (fun p => (condsP (u4V A B C D Q N 1 p s) [], lfM uiM (u4V A B C D Q N 1 p s))) = (List.range 1).map fun p => ([], true, uiL ++ [], (uiTl false (1 : Nat) N p 0 s []).map AV.bare, [A, B, C, D, Q, atB 1 p], []) := by kernel_rfl
theorem u4_2 (s : AV) : (List.range 4).map (fun p => (condsP (u4V A B C D Q N 2 p s) [], lfM uiM (u4V A B C D Q N 2 p s))) = (List.range 4).map fun p => ([], true, uiL ++ [], (uiTl false (2 : Nat) N p 0 s []).map AV.bare, [A, B, C, D, Q, atB 2 p], []) := by kernel_rfl
theorem u4_4 (s : AV) : (List.range 16).map (fun p => (condsP (u4V A B C D Q N 4 p s) [], lfM uiM (u4V A B C D Q N 4 p s))) = (List.range 16).map fun p => ([], true, uiL ++ [], (uiTl false (4 : Nat) N p 0 s []).map AV.bare, [A, B, C, D, Q, atB 4 p], []) := by kernel_rfl
theorem u4_8 (s : AV) : (List.range 64).map (fun p => (condsP (u4V A B C D Q N 8 p s) [], lfM uiM (u4V A B C D Q N 8 p s))) = (List.range 64).map fun p => ([], true, uiL ++ [], (uiTl false (8 : Nat) N p 0 s []).map AV.bare, [A, B, C, D, Q, atB 8 p], []) := by kernel_rfl
/-- Out of the inner loop. -/
noncomputable def x4 (b : Bool) (p : Nat) (s : AV) (H : List AB) : Res := cupto Try.prog tabUf atLoop 200 uiR (uiTl b n N p 4 s []) H
theorem x4_ok (b : Bool) (p : Nat) (s : AV) (H : List AB) : (condsP (x4 n N b p s H) [], lfM ugM (x4 n N b p s H)) = ([], true, ugR, (ugTl n N s []).map AV.bare, H, []) := by cases b <;> kernel_rfl
/-- The end. -/
noncomputable def ugE (s : AV) : Res := cupto Try.prog tabUf atLoop 200 ugR (ugTl n N s []) [A, B, .cells true (.ints .i64 os), D, Q]
theorem ugE_sl : (condsP (ugE A B D Q os n N (.sl false 4 off L 2)) [false, false], endOf Try.prog Try.f85.results.toList ((ugE A B D Q os n N (.sl false 4 off L 2)).at [false, false])) =
    ([!ltQ false 0 (L : Int), !leQ false 0 (firstN (fun i => !inJ (-100000) 100000 os i) os.length 0)], some (some ([.sl true 2 0 N 1, .i true .i64 0], []), [A, B, .cells true (.ints .i64 os), D, Q], [true, decide (N = os.length), decide (N ≤ 5000)])) := by kernel_rfl
theorem ugE_sle : (condsP (ugE A B D Q os n N .sle) [false], endOf Try.prog Try.f85.results.toList ((ugE A B D Q os n N .sle).at [false])) =
    ([!leQ false 0 (firstN (fun i => !inJ (-100000) 100000 os i) os.length 0)], some (some ([.sl true 2 0 N 1, .i true .i64 0], []), [A, B, .cells true (.ints .i64 os), D, Q], [true, decide (N = os.length), decide (N ≤ 5000)])) := by kernel_rfl
end
end Go.Ax
