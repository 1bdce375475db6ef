/- The law of gratings: its parts, evaluated. -/
import Derived.Test.YtdcjjibekhcplaaGreatAax
namespace Go.Ax
open Go Go.Proofs

def M8 : List Bool := maskOf 372 (k8 c0 0 0 0)
def M10 : List Bool := maskOf 372 (k10 c0)
def M15 : List Bool := maskOf 372 (k15 c0 0 0 0 0 0)
def M39 : List Bool := maskOf 372 (k39 0)
theorem z1_big (c : Cd) : (condsP (z1 c) [true], endV Tryz.prog Tryz.f3.results.toList ((z1 c).at [true])) = ([ltQ false 4096 (c.len : Int)], some (some ([.b true true], []), [])) := by kernel_rfl
def slE (n x w : Int) : Bool := neZ (grC n (slB n x w)) (grC n (slB n x w)) (grE n (slB n x w) (bit (slT n x w)) (zer (slT n x w)))
theorem z1_ok (c : Cd) : (condsP (z1 c) [false, false], lfK 2 M8 ((z1 c).at [false, false])) =
    ([!ltQ false 4096 (c.len : Int), !slE (d6 c).1 (d6 c).2.1 (d6 c).2.2],
     (true, lwAt 6, (tmpsOf 372 (k8 c (d6 c).1 (d6 c).2.2 (grC (d6 c).1 (slB (d6 c).1 (d6 c).2.1 (d6 c).2.2)))).map AV.bare,
      [codeB c false, wvB (grS (d6 c).1 (slB (d6 c).1 (d6 c).2.1 (d6 c).2.2)) (grX (d6 c).1 (slB (d6 c).1 (d6 c).2.1 (d6 c).2.2) (bit (slT (d6 c).1 (d6 c).2.1 (d6 c).2.2)) (zer (slT (d6 c).1 (d6 c).2.1 (d6 c).2.2)))], [okB c c.off c.len])) := by kernel_rfl
theorem z2_no (c : Cd) (n w C m : Int) (Y : Nat → Nat × Nat) : (condsP (z2 c n w C m Y) [false], lfK 1 M10 ((z2 c n w C m Y).at [false])) = ([!eqQ false C 0], (true, lwAt 7, (tmpsOf 372 (k10 c)).map AV.bare, [codeB c false], [])) := by kernel_rfl
theorem z2_ok (c : Cd) (n w C m : Int) (Y : Nat → Nat × Nat) : (condsP (z2 c n w C m Y) [true, true, false], lfK 1 M10 ((z2 c n w C m Y).at [true, true, false])) =
    ([eqQ false C 0, isMaskB m (reX Y), !!eqQ false (suA (openL m (reX Y)) (openL m (reX Y)).length) (wr (n * w))], (true, lwAt 7, (tmpsOf 372 (k10 c)).map AV.bare, [codeB c false], [true, decide (m.toNat = (openL m (reX Y)).length), decide (m.toNat ≤ 5000)])) := by kernel_rfl
def diE (n v u r : Int) : Bool := neZ (grC n (diB n v u r)) (grC n (diB n v u r)) (grE n (diB n v u r) (bit (diT n v u r)) (zer (diT n v u r)))
theorem z3_ok (c : Cd) : (condsP (z3 c) [false], lfK 2 M15 ((z3 c).at [false])) =
    ([!diE (d11 c).1 (d11 c).2.1 (d11 c).2.2.1 (d11 c).2.2.2],
     (true, lwAt 11, (tmpsOf 372 (k15 c (d11 c).1 (d11 c).2.1 (d11 c).2.2.1 (d11 c).2.2.2 (grC (d11 c).1 (diB (d11 c).1 (d11 c).2.1 (d11 c).2.2.1 (d11 c).2.2.2)))).map AV.bare,
      [codeB c false, wvB (grS (d11 c).1 (diB (d11 c).1 (d11 c).2.1 (d11 c).2.2.1 (d11 c).2.2.2)) (grX (d11 c).1 (diB (d11 c).1 (d11 c).2.1 (d11 c).2.2.1 (d11 c).2.2.2) (bit (diT (d11 c).1 (d11 c).2.1 (d11 c).2.2.1 (d11 c).2.2.2)) (zer (diT (d11 c).1 (d11 c).2.1 (d11 c).2.2.1 (d11 c).2.2.2)))], [okB c c.off c.len])) := by kernel_rfl
theorem z4_no (c : Cd) (n v u r C m : Int) (Y : Nat → Nat × Nat) : (condsP (z4 c n v u r C m Y) [false], lfK 1 M10 ((z4 c n v u r C m Y).at [false])) = ([!cond (eqQ false C 0) (ltQ false r 1000) false], (true, lwAt 12, (tmpsOf 372 (k10 c)).map AV.bare, [codeB c false], [])) := by kernel_rfl
def moX (n v u r : Int) : Nat → Nat × Nat := grX n (diB n v u r) (bit (diT n v u r)) (zer (diT n v u r))
noncomputable def boE (n v u r m : Int) (Y : Nat → Nat × Nat) : Bool :=
  cond (!eqQ false (grC n (diB n v u (wr (r + 1)))) 0) true (cond (!eqQ false (twoW (isMaskB m (reX Y)) (isMaskB (grS n (diB n v u (wr (r + 1)))) (reX (moX n v u (wr (r + 1))))) (eqQ false m (grS n (diB n v u (wr (r + 1))))) 1 2 0) 0) true
    (!eqZ (twoW (isMaskB m (reX Y)) (isMaskB (grS n (diB n v u (wr (r + 1)))) (reX (moX n v u (wr (r + 1))))) (eqQ false m (grS n (diB n v u (wr (r + 1))))) 0 0 m)
      (pairX m (isMaskB m (reX Y)) (isMaskB (grS n (diB n v u (wr (r + 1)))) (reX (moX n v u (wr (r + 1))))) (eqQ false m (grS n (diB n v u (wr (r + 1))))) (inZ (reX Y) (reX (moX n v u (wr (r + 1)))))) m Y))
theorem z4_ok (c : Cd) (n v u r C m : Int) (Y : Nat → Nat × Nat) : (condsP (z4 c n v u r C m Y) [true, false], lfK 1 M10 ((z4 c n v u r C m Y).at [true, false])) =
    ([cond (eqQ false C 0) (ltQ false r 1000) false, !boE n v u r m Y], (true, lwAt 12, (tmpsOf 372 (k10 c)).map AV.bare, [codeB c false], [])) := by kernel_rfl
def grNe (n : Int) (bad : Bool) : Bool := !eqQ false (grC n bad) (grC n bad)
def grF (n : Int) (bad : Bool) (re im : Nat → Nat) : Bool := !grE n bad re im
noncomputable def allE (c : Cd) : Bool :=
  cond (grNe (d15 c).1 (grB (d15 c).1 (d15 c).2.1 (d15 c).2.2)) true
  (cond (grF (d15 c).1 (grB (d15 c).1 (d15 c).2.1 (d15 c).2.2) (bit (grT (d15 c).1 (d15 c).2.1 (d15 c).2.2)) (zer (grT (d15 c).1 (d15 c).2.1 (d15 c).2.2))) true
  (cond (grNe (d18 c).1 (chB (d18 c).1 (d18 c).2)) true
  (cond (grF (d18 c).1 (chB (d18 c).1 (d18 c).2) (bit (chT (d18 c).1 (d18 c).2)) (zer (chT (d18 c).1 (d18 c).2))) true
  (cond (grNe (d21 c).1 (zoB (d21 c).1 (d21 c).2.1 (d21 c).2.2.1 (d21 c).2.2.2)) true
  (cond (grF (d21 c).1 (zoB (d21 c).1 (d21 c).2.1 (d21 c).2.2.1 (d21 c).2.2.2) (bit (zoT (d21 c).1 (d21 c).2.1 (d21 c).2.2.1 (d21 c).2.2.2)) (zer (zoT (d21 c).1 (d21 c).2.1 (d21 c).2.2.1 (d21 c).2.2.2))) true
  (cond (grNe (d24 c).1 (blB (d24 c).1 (d24 c).2.1 (d24 c).2.2)) true
  (cond (grF (d24 c).1 (blB (d24 c).1 (d24 c).2.1 (d24 c).2.2) (fun j => phX (blK (d24 c).1 (d24 c).2.1 (d24 c).2.2 j)) (fun j => phY (blK (d24 c).1 (d24 c).2.1 (d24 c).2.2 j))) true
  (cond (grNe (d27 c).1 (leB (d27 c).1 (d27 c).2.1 (d27 c).2.2.1 (d27 c).2.2.2)) true
  (grF (d27 c).1 (leB (d27 c).1 (d27 c).2.1 (d27 c).2.2.1 (d27 c).2.2.2) (fun j => phX (leK (d27 c).1 (d27 c).2.1 (d27 c).2.2.1 (d27 c).2.2.2 j)) (fun j => phY (leK (d27 c).1 (d27 c).2.1 (d27 c).2.2.1 (d27 c).2.2.2 j)))))))))))
theorem z5_ok (c : Cd) : (condsP (z5 c) [false], lfK 1 M10 ((z5 c).at [false])) = ([!allE c], (true, lwAt 28, (tmpsOf 372 (k10 c)).map AV.bare, [codeB c false], List.replicate 5 (okB c c.off c.len))) := by kernel_rfl
noncomputable def tuC (m : Int) (X : Nat → Nat × Nat) : Int := cond (isWaveB m (reX X)) 0 1
noncomputable def tuS (m : Int) (X : Nat → Nat × Nat) : Int := cond (isWaveB m (reX X)) m 0
noncomputable def tuY (m : Int) (X : Nat → Nat × Nat) : Nat → Nat × Nat := turnX m (reX X)
theorem z6_ok (c : Cd) : (condsP (z6 c) [false], lfK 3 M39 ((z6 c).at [false])) =
    ([!neZ (tuC (d30 c).1 (d30 c).2) (tuC (d30 c).1 (d30 c).2) (eqZ (tuS (d30 c).1 (d30 c).2) (tuY (d30 c).1 (d30 c).2) (tuS (d30 c).1 (d30 c).2) (tuY (d30 c).1 (d30 c).2))],
     (true, lwAt 32, (tmpsOf 372 (k39 (tuC (d30 c).1 (d30 c).2))).map AV.bare, [codeB c false, wvB (d30 c).1 (d30 c).2, wvB (tuS (d30 c).1 (d30 c).2) (tuY (d30 c).1 (d30 c).2)], [okB c c.off c.len])) := by kernel_rfl
theorem z7_no (c : Cd) (C m : Int) (Y : Nat → Nat × Nat) (m1 : Int) (Y1 : Nat → Nat × Nat) : (condsP (z7 c C m Y m1 Y1) [false], endV Tryz.prog Tryz.f3.results.toList ((z7 c C m Y m1 Y1).at [false])) =
    ([!eqQ false C 0], some (some ([.b false (cond (!eqQ false C 0) true (eqZ m1 Y1 m Y))], []), [])) := by kernel_rfl
noncomputable def m2 (m1 : Int) (Y1 : Nat → Nat × Nat) : Int := tuS m1 Y1
noncomputable def Y2 (m1 : Int) (Y1 : Nat → Nat × Nat) : Nat → Nat × Nat := tuY m1 Y1
noncomputable def m3 (m1 : Int) (Y1 : Nat → Nat × Nat) : Int := tuS (m2 m1 Y1) (Y2 m1 Y1)
noncomputable def Y3 (m1 : Int) (Y1 : Nat → Nat × Nat) : Nat → Nat × Nat := tuY (m2 m1 Y1) (Y2 m1 Y1)
noncomputable def m4 (m1 : Int) (Y1 : Nat → Nat × Nat) : Int := tuS (m3 m1 Y1) (Y3 m1 Y1)
noncomputable def Y4 (m1 : Int) (Y1 : Nat → Nat × Nat) : Nat → Nat × Nat := tuY (m3 m1 Y1) (Y3 m1 Y1)
theorem z7_ok (c : Cd) (C m : Int) (Y : Nat → Nat × Nat) (m1 : Int) (Y1 : Nat → Nat × Nat) : (condsP (z7 c C m Y m1 Y1) [true, false, true, false, true, false], endV Tryz.prog Tryz.f3.results.toList ((z7 c C m Y m1 Y1).at [true, false, true, false, true, false])) =
    ([eqQ false C 0, !!eqQ false (tuC m1 Y1) 0, eqQ false C 0, !!eqQ false (tuC (m2 m1 Y1) (Y2 m1 Y1)) 0, eqQ false C 0, !!eqQ false (tuC (m3 m1 Y1) (Y3 m1 Y1)) 0],
     some (some ([.b false (cond (!eqQ false C 0) true (eqZ (m4 m1 Y1) (Y4 m1 Y1) m Y))], []), [])) := by kernel_rfl
end Go.Ax
