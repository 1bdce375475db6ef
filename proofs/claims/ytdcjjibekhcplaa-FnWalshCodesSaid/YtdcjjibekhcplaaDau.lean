/- CodeWave, of both sides. -/
import Derived.Test.YtdcjjibekhcplaaDat
namespace Go.Ax
open Go Go.Proofs

noncomputable def rWv (f : FuncId) (n k : Int) : Option (AV × List Bool) := joinR 0 (tabWc f [.i true .i64 n, .i false .i64 k] [] [] fun v H nd => .ret v H nd)
noncomputable def cwV (N : Nat) (n k : Int) : AV :=
  .tup [.agg (.i false .i64 (cond (!inK (Int.ofNat N) k) 0 n) :: (List.range 64).map fun j => match Nat.ble N j with
    | true => .c true .f32 0 0
    | false => .c false .f32 (plusF (cond (!inK (Int.ofNat N) k) 0 (walF k.toNat j))) (plusF (cond (!inK (Int.ofNat N) k) 0 0))), .i false .i64 (cond (!inK (Int.ofNat N) k) 2 0)]
def cwQ (k : Int) (N : Nat) : Bool → List Bool
  | false => List.replicate N (in64 k && true)
  | true => List.replicate N true ++ [in64 k]
def CwRun (f : FuncId) (N : Nat) (n : Int) (m : Bool) : Prop := ∀ k, rWv f n k = some (cwV N n k, [cond (!!inK (Int.ofNat N) k) (andT (cwQ k N m)) true])
theorem cw1 : CwRun 70 1 1 false := fun k => by kernel_rfl
theorem cw2 : CwRun 70 4 2 false := fun k => by kernel_rfl
theorem scw1 : CwRun 71 1 1 true := fun k => by kernel_rfl
theorem scw2 : CwRun 71 4 2 true := fun k => by kernel_rfl
theorem cw4 : CwRun 70 16 4 false := fun k => by kernel_rfl
theorem cw8 : CwRun 70 64 8 false := fun k => by kernel_rfl
theorem scw4 : CwRun 71 16 4 true := fun k => by kernel_rfl
theorem scw8 : CwRun 71 64 8 true := fun k => by kernel_rfl
theorem cw3 (f : FuncId) (hf : f = 70 ∨ f = 71) (k : Int) : rWv f 3 k = some (.tup [.agg (.i true .i64 0 :: List.replicate 64 (.c true .f32 0 0)), .i true .i64 2], []) := by
  rcases hf with rfl | rfl <;> kernel_rfl
def cwOK (n k : Int) : Bool := sideB n && inK (n * n) k
def cwX (n k : Int) (j : Nat) : Nat × Nat := match cwOK n k && Nat.blt j (n.toNat * n.toNat) with
  | true => (plusF (walF k.toNat j), 0)
  | false => (0, 0)
def cwR (n k : Int) : AV := .tup [wv (cond (cwOK n k) n 0) (cwX n k), .i false .i64 (cond (cwOK n k) 0 2)]
theorem cwQ_ok {k : Int} (h : in64 k = true) (n : Nat) (m : Bool) : allT (cwQ k n m) = true := by
  cases m with
  | false => unfold cwQ; rw [h]; exact allT_rep n
  | true => unfold cwQ; rw [h, allT_append, allT_rep]; rfl
theorem cw_call {f : FuncId} {N : Nat} {n : Int} {m : Bool} (h : CwRun f N n m) (hs : sideB n = true) (hN : N = n.toNat * n.toNat) (h2 : Int.ofNat N = n * n) (h64 : N ≤ 64) (k : Int) (H : List AB) : CallOK Try.prog f [.i false .i64 n, .i false .i64 k] H (cwR n k) H := by
  have ok : cwOK n k = inK (Int.ofNat N) k := by unfold cwOK; rw [hs, h2, Bool.true_and]
  have hnd : allT [cond (!!inK (Int.ofNat N) k) (andT (cwQ k N m)) true] = true := by
    cases hk : inK (Int.ofNat N) k with
    | false => rfl
    | true =>
      have hk' : in64 k = true := by
        rw [inK_iff] at hk
        rw [in64_iff]
        simp only [Int.ofNat_eq_natCast] at hk
        omega
      simp [allT, andT_eq, cwQ_ok hk']
  refine ((call_of_join tabWc_sound (h k) hnd rfl H).bare (args' := [.i false .i64 n, .i false .i64 k]) rfl).weaken fun σ x r => tup2_weak ?_ ?_ r
  · simp only [waveL, List.map_cons, List.map_map, AV.bare, ok]
    congr 1
    · cases inK (Int.ofNat N) k <;> rfl
    · apply List.map_congr_left
      intro j hj
      simp only [Function.comp, cx, cwX, ok]
      rw [ble_blt, ← hN]
      cases hb : Nat.blt j N with
      | false => simp [AV.bare]
      | true => cases inK (Int.ofNat N) k <;> simp [AV.bare, plus_zero]
  · rw [ok]; cases inK (Int.ofNat N) k <;> rfl
theorem cw_no (f : FuncId) (hf : f = 70 ∨ f = 71) (k : Int) (H : List AB) : CallOK Try.prog f [.i false .i64 3, .i false .i64 k] H (cwR 3 k) H := by
  have ok : cwOK 3 k = false := rfl
  refine ((call_of_join tabWc_sound (cw3 f hf k) rfl rfl H).bare (args' := [.i false .i64 3, .i false .i64 k]) rfl).weaken fun σ x r => tup2_weak ?_ ?_ r
  · have : (List.range 64).map (cx (cwX 3 k)) = List.replicate 64 (.c false .f32 0 0) := by
      have : cx (cwX 3 k) = fun _ => .c false .f32 0 0 := funext fun j => by simp [cx, cwX, ok]
      rw [this]; rfl
    simp only [waveL, this, ok]
    rfl
  · rw [ok]; rfl
def ns69' : List Int := [3, 8, 4, 2, 1]
theorem cw_ok (f : FuncId) (hf : f = 70 ∨ f = 71) (n k : Int) (hn : n ∈ ns69') (H : List AB) : CallOK Try.prog f [.i false .i64 n, .i false .i64 k] H (cwR n k) H := by
  simp only [ns69', List.mem_cons, List.not_mem_nil, or_false] at hn
  rcases hn with rfl | rfl | rfl | rfl | rfl
  · exact cw_no f hf k H
  · rcases hf with rfl | rfl
    · exact cw_call cw8 rfl rfl rfl (by omega) k H
    · exact cw_call scw8 rfl rfl rfl (by omega) k H
  · rcases hf with rfl | rfl
    · exact cw_call cw4 rfl rfl rfl (by omega) k H
    · exact cw_call scw4 rfl rfl rfl (by omega) k H
  · rcases hf with rfl | rfl
    · exact cw_call cw2 rfl rfl rfl (by omega) k H
    · exact cw_call scw2 rfl rfl rfl (by omega) k H
  · rcases hf with rfl | rfl
    · exact cw_call cw1 rfl rfl rfl (by omega) k H
    · exact cw_call scw1 rfl rfl rfl (by omega) k H
noncomputable def gCw : List AV → Option (AV × List Bool)
  | [.i _ .i64 n, .i _ .i64 k] => some (cwR n k, [decide (n ∈ ns69')])
  | _ => none
theorem cw_at (f : FuncId) (hf : f = 70 ∨ f = 71) : SoundAt Try.prog f (pureT gCw) := fun args H nd K => by
  refine pureT_sound (fun args v n h hn H => ?_) args H nd K
  unfold gCw at h
  split at h <;> cases h
  simp only [allT, Bool.and_true, decide_eq_true_eq] at hn
  exact (cw_ok f hf _ _ hn H).bare rfl
end Go.Ax
