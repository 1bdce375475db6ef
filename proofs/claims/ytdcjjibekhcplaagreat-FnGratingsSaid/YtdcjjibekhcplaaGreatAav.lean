/- Quarter turns of both sides: the same. -/
import Derived.Test.YtdcjjibekhcplaaGreatAau
namespace Go.Ax
open Go Go.Proofs

def qu (g : Bool) (n : Int) (X : Nat → Nat × Nat) (j : Nat) : Nat × Nat := match g with
  | true => tuX n X j
  | false => (0, 0)
noncomputable def quR (n : Int) (X : Nat → Nat × Nat) : AV := .tup [wv (cond (isWaveB n X) n 0) (qu (isWaveB n X) n X), .i false .i64 (cond (isWaveB n X) 0 1)]
noncomputable def turnX (n : Int) (X : Nat → Nat × Nat) (j : Nat) : Nat × Nat := match isWaveB n X && Nat.blt j (n.toNat * n.toNat) with
  | true => (plusF (X (tuI n.toNat j)).1, plusF (X (tuI n.toNat j)).2)
  | false => (0, 0)
noncomputable def turnR (n : Int) (X : Nat → Nat × Nat) : AV := .tup [wv (cond (isWaveB n X) n 0) (turnX n X), .i false .i64 (cond (isWaveB n X) 0 1)]
theorem tuI_all : ([1, 2, 4, 8] : List Nat).all (fun n => (List.range (n * n)).all fun j => Nat.blt (tuI n j) (n * n)) = true := by decide +kernel
theorem tuI_lt {n j : Nat} (hn : n = 1 ∨ n = 2 ∨ n = 4 ∨ n = 8) (hj : j < n * n) : tuI n j < n * n := by
  have h := List.all_eq_true.1 (List.all_eq_true.1 tuI_all n (by rcases hn with rfl | rfl | rfl | rfl <;> simp)) j (List.mem_range.2 hj)
  exact blt_true h
theorem side_nat {n : Int} (hs : sideB n = true) : (n.toNat = 1 ∨ n.toNat = 2 ∨ n.toNat = 4 ∨ n.toNat = 8) ∧ n.toNat * n.toNat ≤ 64 := by
  rcases sideB_iff.1 hs with rfl | rfl | rfl | rfl <;> simp
theorem wave_side {n : Int} {X : Nat → Nat × Nat} (h : isWaveB n X = true) : sideB n = true := sideB_iff.2 (isWaveB_iff.1 h).1
theorem zz_whole : wholeB (0, 0) = true := by kernel_rfl
theorem zz_zero : zeroB (0, 0) = true := by kernel_rfl
theorem tu_wave {n : Int} {X : Nat → Nat × Nat} (h : isWaveB n X = true) : isWaveB n (tuX n X) = true := by
  have hs := wave_side h
  refine isWaveB_iff.2 ⟨sideB_iff.1 hs, fun j hj => ?_⟩
  obtain ⟨h1, h2⟩ := side_nat hs
  unfold tuX
  cases hb : Nat.blt j (n.toNat * n.toNat) with
  | true =>
    have := tuI_lt h1 (blt_true hb)
    exact ⟨((isWaveB_iff.1 h).2 _ (by omega)).1, fun hle => by have := blt_true hb; omega⟩
  | false => exact ⟨zz_whole, fun _ => zz_zero⟩
theorem tuX_re {n : Int} (hs : sideB n = true) (X : Nat → Nat × Nat) : tuX n (reX X) = tuX n X := funext fun j => by
  obtain ⟨h1, h2⟩ := side_nat hs
  unfold tuX
  cases hb : Nat.blt j (n.toNat * n.toNat) with
  | true =>
    have := tuI_lt h1 (blt_true hb)
    exact reX_eq (by omega)
  | false => rfl
theorem q89_no (n : Int) (X : Nat → Nat × Nat) : joinR 0 (tabKN 89 [wvT false n X] [] [] fun v H nd => .ret v H nd) = some (zeroV 1, [!sideB n]) := by kernel_rfl
theorem q31_no (n : Int) (X : Nat → Nat × Nat) : joinR 0 (tabKN 31 [wvT false n X] [] [] fun v H nd => .ret v H nd) = some (zeroV 1, [!sideB n]) := by kernel_rfl
theorem q89_call {n : Int} {X : Nat → Nat × Nat} {t : List AV} {H' : List AB} {a : List AV} {c : Int} (he : Ends Tryz.prog [.code qC] (wvT true n X :: undefs 45) [] t H') (hr : resV Tryz.prog t H' Tryz.f89.results.toList = some ([.agg a, .i true .i64 c], [])) : CallOK Tryz.prog 89 [wvT true n X] [] (.tup [.agg a, .i true .i64 c]) H' :=
  call_of_ends (args := [wvT true n X]) (m := []) Tryz.func89 (rfl : Tryz.f89.body = some qC) he hr rfl
theorem qA_low (N : Nat) (n : Int) (X : Nat → Nat × Nat) : below 0 (.tup [.agg (qA N n X), .i true .i64 0]) = true := by
  have : ∀ (f : Nat → AV) (l : List Nat), (∀ j, below 0 (f j) = true) → belowL 0 (l.map f) = true := fun f l hf => by
    induction l with
    | nil => rfl
    | cons j l ih => simp [belowL, hf, ih]
  simp only [below, belowL, qA, Bool.and_true, Bool.true_and]
  exact this _ _ fun j => by split <;> rfl
theorem q89_ok (n : Int) (X : Nat → Nat × Nat) (H : List AB) : CallOK Tryz.prog 89 [wv n X] H (quR n X) H := by
  have hlowA : belowL 0 [wvT true n X] = true := by simp [belowL, wvT_below]
  cases hs : sideB n with
  | false =>
    have h := (call_of_join tabKN_sound (q89_no n X) (by simp [allT, hs]) (by simp [belowL, wvT_below]) H).deep (args' := [wv n X]) rfl
    refine h.weaken fun σ x r => ?_
    have e : isWaveB n X = false := (noSide_mask (X := X) hs).2
    unfold quR
    rw [e]
    exact zero_wave (n := 0) (X := qu false n X) (fun j => rfl) rfl r
  | true =>
    have hd := side_cases hs
    have hm : n ∈ ([1, 2, 4, 8] : List Int) := by
      rcases sideB_iff.1 hs with rfl | rfl | rfl | rfl <;> simp
    cases hg : isWaveB n X with
    | false =>
      have hz := qZ_no n hm X
      simp only [Prod.mk.injEq] at hz
      obtain ⟨t, H', e1, e2⟩ := endV_ends (stop := atReg 3) (n := 200) (L := [.code qC]) (p := [true]) (t0 := wvT true n X :: undefs 45) (H0 := []) tabGr_sound (by
        show allT (condsP (qZ n X) [true]) = true
        rw [hz.1, isWaveB_re, hg]; rfl) hz.2 rfl
      have k := ((q89_call e1 e2).lift (by kernel_rfl) hlowA H rfl).deep (args' := [wv n X]) rfl
      refine k.weaken fun σ x r => ?_
      unfold quR
      rw [hg]
      exact zero_wave (n := 0) (X := qu false n X) (c := 1) (fun j => rfl) rfl r
    | true =>
      have hz := qZ_ok n hm X
      simp only [Prod.mk.injEq] at hz
      have r1 := way_reach (P := Tryz.prog) (T := tabGr) (stop := atReg 3) (n := 200) (L := [.code qC]) (R := [.code qC]) (p := [false]) (t0 := wvT true n X :: undefs 45) (H0 := []) tabGr_sound rfl (by
        show allT (condsP (qZ n X) [false]) = true
        rw [hz.1, isWaveB_re, hg]; rfl) hz.2 rfl
      rw [qLp_eq] at r1
      have r2 := box_way (P := Tryz.prog) (T := tabGr) (ops := qOps) tabGr_sound (by kernel_rfl) 6 5 (by decide +kernel) (by decide) (by kernel_rfl) (by kernel_rfl) (id := 3) (k := qK) (t := qT3) (H := qH n X) (M := qM4) (l := zL 0) (by kernel_rfl) (by
        have : ∀ (f : Nat → Nat × Nat) (l : List Nat), belowL 2 (l.map (cx f)) = true := fun f l => by
          induction l with
          | nil => rfl
          | cons j l ih => simp [belowL, below, cx, ih]
        simp only [qH, List.length_cons, List.length_nil, lowH, lowB, qBox, belowL, below, this, Bool.true_and, Bool.and_true]
        rfl) (qR_ok n hm X) rfl
      have he := qE_ok _ n hd X
      simp only [Prod.mk.injEq] at he
      obtain ⟨t, H', e1, e2⟩ := endV_ends (stop := atCut 99) (n := 3000) (L := qK) (p := []) (t0 := qT4 n) (H0 := qH n X ++ [.cells true (.lit (zL n))]) tabGr_sound (by
        show allT (condsP (qE n X) []) = true
        rw [he.1]; rfl) he.2 rfl
      have k := ((q89_call ((r1.trans r2).ends e1) e2).lift (qA_low _ _ _) hlowA H rfl).deep (args' := [wv n X]) rfl
      refine k.weaken fun σ x r => ?_
      unfold quR
      rw [hg]
      refine tup2_weak (l' := waveL (cond true n 0) (qu true n X)) (c' := .i false .i64 (cond true 0 1)) ?_ (by rfl) r
      simp only [cond_true, waveL, qA, List.map_cons, List.map_map]
      congr 1
      apply List.map_congr_left
      intro j _
      simp only [Function.comp, cx, qu, tuX]
      cases hb : Nat.blt j (n.toNat * n.toNat) <;> simp [AV.bare]
noncomputable def gQu : List AV → Option (AV × List Bool)
  | [.agg l] => match ofW l with
    | some (n, X) => some (quR n X, [])
    | none => none
  | _ => none
theorem qu_at : SoundAt Tryz.prog 89 (pureT gQu) := fun args H nd K => by
  refine pureT_sound (fun args v n h hn H => ?_) args H nd K
  unfold gQu at h
  split at h <;> (try (cases h; done))
  split at h <;> cases h
  rename_i n0 X0 hl
  exact (q89_ok n0 X0 H).deep (by simp only [List.map_cons, ofW_spec hl])
noncomputable def rowsQu : List (FuncId × Table) := (89, pureT gQu) :: rowsG
theorem rowsQu_at : ∀ p ∈ rowsQu, SoundAt Tryz.prog p.1 p.2 := fun p hp => by
  simp only [rowsQu, List.mem_cons] at hp
  rcases hp with rfl | hp
  · exact qu_at
  · exact rowsG_at p (by simpa [rowsG] using hp)
noncomputable def tabQu : Table := tabOf (jdeep Tryz.prog rowsQu [] 4000 10)
theorem tabQu_sound : SoundT Tryz.prog tabQu := jdeep_sound rowsQu_at 10
noncomputable def sTurnV (n : Int) (X : Nat → Nat × Nat) : AV := .tup [.agg (.i false .i64 (cond (isWaveB n X) n 0) :: (List.range 64).map fun j => .c false .f32 (plusF (qu (isWaveB n X) n X j).1) (plusF (qu (isWaveB n X) n X j).2)), .i false .i64 (cond (isWaveB n X) 0 1)]
theorem q32_run (n : Int) (X : Nat → Nat × Nat) : joinR 0 (tabQu 32 [wvT false n X] [] [] fun v H nd => .ret v H nd) = some (sTurnV n (reX X), []) := by kernel_rfl
def twoQ {α : Type} (g g' : Bool) (a b c : α) : α := cond (!g) a (cond (!g') b c)
def iTurnV (N : Nat) (n : Int) (g g' : Bool) (X : Nat → Nat × Nat) : AV := .tup [.agg (.i false .i64 (twoQ g g' 0 0 n) :: (List.range 64).map fun j => match Nat.ble N j with
    | true => .c true .f32 0 0
    | false => .c false .f32 (plusF (twoQ g g' 0 0 (X (tuI n.toNat j)).1)) (plusF (twoQ g g' 0 0 (X (tuI n.toNat j)).2))), .i false .i64 (twoQ g g' 1 3 0)]
theorem q31_run (N : Nat) (n : Int) (hn : (N, n) ∈ doNs) (X : Nat → Nat × Nat) : joinR 0 (tabGr 31 [wvT true n X] [] [] fun v H nd => .ret v H nd) = some (iTurnV N n (isWaveB n (reX X)) (isWaveB n (reX (tuX n X))) X, []) := by
  simp only [doNs, List.mem_cons, Prod.mk.injEq, List.not_mem_nil, or_false] at hn
  rcases hn with ⟨rfl, rfl⟩ | ⟨rfl, rfl⟩ | ⟨rfl, rfl⟩ | ⟨rfl, rfl⟩ <;> kernel_rfl
theorem turn_ok (f : FuncId) (hf : f = 31 ∨ f = 32) (n : Int) (X : Nat → Nat × Nat) (H : List AB) : CallOK Tryz.prog f [wv n X] H (turnR n X) H := by
  rcases hf with rfl | rfl
  · cases hs : sideB n with
    | false =>
      have h := (call_of_join tabKN_sound (q31_no n X) (by simp [allT, hs]) (by simp [belowL, wvT_below]) H).deep (args' := [wv n X]) rfl
      refine h.weaken fun σ x r => ?_
      have e : isWaveB n X = false := (noSide_mask (X := X) hs).2
      unfold turnR
      rw [e]
      exact zero_wave (n := 0) (X := turnX n X) (fun j => by simp [turnX, e]) rfl r
    | true =>
      have h := (call_of_join tabGr_sound (q31_run _ n (side_cases hs) X) rfl (by simp [belowL, wvT_below]) H).deep (args' := [wv n X]) rfl
      refine h.weaken fun σ x r => ?_
      rw [isWaveB_re, isWaveB_re] at r
      have e : isWaveB n X = true → isWaveB n (tuX n X) = true := tu_wave
      unfold turnR
      refine tup2_weak (l' := waveL (cond (isWaveB n X) n 0) (turnX n X)) (c' := .i false .i64 (cond (isWaveB n X) 0 1)) ?_ ?_ r
      · simp only [waveL, List.map_cons, List.map_map, AV.bare]
        congr 1
        · cases hg : isWaveB n X with
          | false => rfl
          | true => rw [e hg]; rfl
        · apply List.map_congr_left
          intro j _
          simp only [Function.comp, cx, turnX]
          rw [ble_blt]
          cases hb : Nat.blt j (n.toNat * n.toNat) with
          | false => simp [AV.bare]
          | true =>
            cases hg : isWaveB n X with
            | false => simp [AV.bare, twoQ, plus_zero]
            | true => rw [e hg]; simp [AV.bare, twoQ]
      · cases hg : isWaveB n X with
        | false => rfl
        | true => rw [e hg]; rfl
  · have h := (call_of_join tabQu_sound (q32_run n X) rfl (by simp [belowL, wvT_below]) H).deep (args' := [wv n X]) rfl
    refine h.weaken fun σ x r => ?_
    unfold sTurnV at r
    rw [isWaveB_re] at r
    unfold turnR
    refine tup2_weak (l' := waveL (cond (isWaveB n X) n 0) (turnX n X)) (c' := .i false .i64 (cond (isWaveB n X) 0 1)) ?_ rfl r
    simp only [waveL, List.map_cons, List.map_map]
    congr 1
    apply List.map_congr_left
    intro j _
    simp only [Function.comp, cx, turnX, qu]
    cases hg : isWaveB n X with
    | false => simp [AV.bare, plus_zero]
    | true =>
      rw [tuX_re (wave_side hg)]
      unfold tuX
      cases hb : Nat.blt j (n.toNat * n.toNat) <;> simp [AV.bare, plus_zero]
noncomputable def gTurn : List AV → Option (AV × List Bool)
  | [.agg l] => match ofW l with
    | some (n, X) => some (turnR n X, [])
    | none => none
  | _ => none
theorem turn_at (f : FuncId) (hf : f = 31 ∨ f = 32) : SoundAt Tryz.prog f (pureT gTurn) := fun args H nd K => by
  refine pureT_sound (fun args v n h hn H => ?_) args H nd K
  unfold gTurn at h
  split at h <;> (try (cases h; done))
  split at h <;> cases h
  rename_i n0 X0 hl
  exact (turn_ok f hf n0 X0 H).deep (by simp only [List.map_cons, ofW_spec hl])
end Go.Ax
