/- The law of unwrapping: the loops where the map is good. -/
import Derived.Test.YtdcjjibekhcplaaEbp
namespace Go.Ax
open Go Go.Proofs

theorem lu14_ok (R : UwR) (c : Cd) (n : Int) (xs r s w : List Int) (e : Int) (B : AB) (f : List Int) : (condsP (lu14 R c n xs r s w e B f) [false], lfM lam ((lu14 R c n xs r s w e B f).at [false])) =
    ([!cond (!eqQ false e 0) true (!(w == xs))], true, laL, (lt7 c (la n xs r s f true 0)).map AV.bare, h14 c xs r s w B f, [cond (!!eqQ false e 0) (andT (szQ w ++ szQ xs)) true]) := by kernel_rfl
theorem laU_go (R : UwR) (c : Cd) (n : Int) (xs r s w : List Int) (B : AB) (f : List Int) (b : Bool) (k : Nat) : (condsP (laU R c n xs r s w B f b k) [true], lfM lam ((laU R c n xs r s w B f b k).at [true])) =
    ([ltQ false (Int.ofNat k) (s.length : Int)], true, laR, (lt7 c (la n xs r s f (cond b (eqQ false (cmX s k) 0) false) (wrapQ false .i64 (Int.ofNat k + 1)))).map AV.bare, h14 c xs r s w B f, [cond b (andT (ixQ s k)) true]) := by kernel_rfl
theorem laU_end (R : UwR) (c : Cd) (n : Int) (xs r s w : List Int) (B : AB) (f : List Int) (b : Bool) (k : Nat) : (condsP (laU R c n xs r s w B f b k) [false], lfM lbm ((laU R c n xs r s w B f b k).at [false])) =
    ([!ltQ false (Int.ofNat k) (s.length : Int)], true, lbL, (lt7 c (lb7 n xs r f b 0)).map AV.bare, h14 c xs r s w B f, []) := by kernel_rfl
def dhE (xs : List Int) (k : Nat) (j : Int) : Bool := !eqQ false ((wrapQ false .i64 (wrapQ false .i64 (xs.getD (0 + j.toNat * 1) 0 - xs.getD (0 + k * 1) 0) - 32)).tmod 64) 0
def iyQ (xs : List Int) (j : Int) : List Bool := [decide (0 + j.toNat * 1 < (Cells.ints .i64 xs).len), decide (0 ≤ j) && decide (j < (xs.length : Int))]
def lbc2 (n : Int) (k : Nat) : Bool := ltQ false (wrapQ false .i64 (Int.ofNat k + n)) (wrapQ false .i64 (n * n))
def lb1 (n : Int) (xs : List Int) (b : Bool) (k : Nat) : Bool := cond (zqc2 n k) (cond b (dhE xs k (wrapQ false .i64 (Int.ofNat k + 1))) false) b
def lb2' (n : Int) (xs : List Int) (b : Bool) (k : Nat) : Bool := cond (lbc2 n k) (cond (lb1 n xs b k) (dhE xs k (wrapQ false .i64 (Int.ofNat k + n))) false) (lb1 n xs b k)
def lbN (n : Int) (xs : List Int) (b : Bool) (k : Nat) : List Bool := [cond (lbc2 n k) (andT (guardL (lb1 n xs b k) (ixQ xs k ++ iyQ xs (wrapQ false .i64 (Int.ofNat k + n))) ++ guardL (!lb1 n xs b k) [])) true,
  cond (zqc2 n k) (andT (guardL b (ixQ xs k ++ iyQ xs (wrapQ false .i64 (Int.ofNat k + 1))) ++ guardL (!b) [])) true, !(n == 0)]
theorem lbU_go (R : UwR) (c : Cd) (n : Int) (xs r s w : List Int) (B : AB) (f : List Int) (b : Bool) (k : Nat) : (condsP (lbU R c n xs r s w B f b k) [true], lfM lbm ((lbU R c n xs r s w B f b k).at [true])) =
    ([zqc1 n k], true, lbR, (lt7 c (lb7 n xs r f (lb2' n xs b k) (wrapQ false .i64 (Int.ofNat k + 1)))).map AV.bare, h14 c xs r s w B f, lbN n xs b k) := by kernel_rfl
theorem lbU_end (R : UwR) (c : Cd) (n : Int) (xs r s w : List Int) (B : AB) (f : List Int) (b : Bool) (k : Nat) : (condsP (lbU R c n xs r s w B f b k) [false, false, true, false], lfK 1 (lm7 []) ((lbU R c n xs r s w B f b k).at [false, false, true, false])) =
    ([!zqc1 n k, !cond b (!(f == r)) false, eqQ false (R.cm n f) 0, !!(R.wr n f == xs)], true, luL33, (lt7 c []).map AV.bare, [codeB c false], szQ (R.wr n f) ++ (szQ xs ++ (szQ f ++ [cond b (andT (szQ f ++ szQ r)) true]))) := by kernel_rfl
end Go.Ax
