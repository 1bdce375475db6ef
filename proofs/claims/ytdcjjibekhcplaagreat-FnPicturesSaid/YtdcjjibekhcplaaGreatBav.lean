/- Masks in this seat: IsMask, IntersectionOf, OpenCells of impl. -/
import Derived.Test.YtdcjjibekhcplaaGreatBau
namespace Go.Ax
open Go Go.Proofs

theorem implIs_run (n : Int) (X : Nat → Nat × Nat) : joinR 0 (tabX 71 [wvT false n X] [] [] fun v H nd => .ret v H nd) = some (.b false (cond (isWaveB n (reX X)) (!leQ false 0 (idxF X 64 0)) false), []) := by kernel_rfl
theorem implIs_ok (n : Int) (X : Nat → Nat × Nat) (H : List AB) : CallOK Tryz.prog 71 [wv n X] H (.b false (isMaskB n X)) H := by
  have h := (call_of_join tabX_sound (implIs_run n X) rfl (by simp [belowL, wvT_below]) H).deep (args' := [wv n X]) rfl
  refine h.weaken fun σ x r => ?_
  have e : cond (isWaveB n (reX X)) (!leQ false 0 (idxF X 64 0)) false = isMaskB n X := by
    rw [leQ_eq, idxF_neg, isWaveB_re]
    unfold isMaskB
    cases isWaveB n X <;> simp
  rwa [e] at r
theorem isMask_at : SoundAt Tryz.prog 71 (pureT gIsMask) := fun args H nd K => by
  refine pureT_sound (fun args v n h hn H => ?_) args H nd K
  unfold gIsMask at h
  split at h <;> (try (cases h; done))
  split at h <;> cases h
  rename_i hl
  exact (implIs_ok _ _ H).deep (by simp only [List.map_cons, ofW_spec hl])
noncomputable def rowsK : List (FuncId × Table) := (71, pureT gIsMask) :: rowsW
theorem rowsK_at : ∀ p ∈ rowsK, SoundAt Tryz.prog p.1 p.2 := fun p hp => by
  simp only [rowsK, List.mem_cons] at hp
  rcases hp with rfl | hp
  · exact isMask_at
  · exact rowsW_at p hp
noncomputable def tabK : Table := tabOf (cdeep Tryz.prog rowsK [] 3000 8)
theorem tabK_sound : SoundT Tryz.prog tabK := cdeep_sound rowsK_at 8
theorem noMask_at : SoundAt Tryz.prog 71 (pureT gNoMask) := fun args H nd K => by
  refine pureT_sound (fun args v n h hn H => ?_) args H nd K
  unfold gNoMask at h
  split at h <;> (try (cases h; done))
  split at h <;> cases h
  rename_i n0 X0 hl
  have hs := hn
  simp only [allT, Bool.and_true, Bool.not_eq_true'] at hs
  refine ((implIs_ok n0 X0 H).deep (by simp only [List.map_cons, ofW_spec hl])).weaken fun σ x r => ?_
  rw [(noSide_mask hs).1] at r
  cases r; exact .b _
theorem noWave_at (f : FuncId) (hf : f = 137 ∨ f = 162) : SoundAt Tryz.prog f (pureT gNoMask) := fun args H nd K => by
  refine pureT_sound (fun args v n h hn H => ?_) args H nd K
  unfold gNoMask at h
  split at h <;> (try (cases h; done))
  split at h <;> cases h
  rename_i n0 X0 hl
  have hs := hn
  simp only [allT, Bool.and_true, Bool.not_eq_true'] at hs
  refine ((is_ok f hf n0 X0 H).deep (by simp only [List.map_cons, ofW_spec hl])).weaken fun σ x r => ?_
  rw [(noSide_mask hs).2] at r
  cases r; exact .b _
noncomputable def rowsKN : List (FuncId × Table) := [(71, pureT gNoMask), (137, pureT gNoMask), (162, pureT gNoMask)]
theorem rowsKN_at : ∀ p ∈ rowsKN, SoundAt Tryz.prog p.1 p.2 := fun p hp => by
  simp only [rowsKN, List.mem_cons, List.not_mem_nil, or_false] at hp
  rcases hp with rfl | rfl | rfl
  · exact noMask_at
  · exact noWave_at 137 (.inl rfl)
  · exact noWave_at 162 (.inr rfl)
noncomputable def tabKN : Table := tabOf (cdeep Tryz.prog rowsKN [] 3000 8)
theorem tabKN_sound : SoundT Tryz.prog tabKN := cdeep_sound rowsKN_at 8
/-! ### IntersectionOf -/
theorem inter_run (N : Nat) (n m : Int) (hn : (N, n) ∈ doNs) (X Y : Nat → Nat × Nat) : joinR 0 (tabK 14 [wvT true n X, wvT false m Y] [] [] fun v H nd => .ret v H nd) = some (pairV N n (isMaskB n (reX X)) (isMaskB m (reX Y)) (eqQ false n m) (inZ X Y), []) := by
  simp only [doNs, List.mem_cons, Prod.mk.injEq, List.not_mem_nil, or_false] at hn
  rcases hn with ⟨rfl, rfl⟩ | ⟨rfl, rfl⟩ | ⟨rfl, rfl⟩ | ⟨rfl, rfl⟩ <;> kernel_rfl
theorem inter_no (n m : Int) (X Y : Nat → Nat × Nat) : joinR 0 (tabKN 14 [wvT false n X, wvT false m Y] [] [] fun v H nd => .ret v H nd) = some (zeroV 1, [!sideB n]) := by kernel_rfl
theorem inter_ok (n m : Int) (X Y : Nat → Nat × Nat) (H : List AB) : CallOK Tryz.prog 14 [wv n X, wv m Y] H (pairR n (isMaskB n X) (isMaskB m Y) (eqQ false n m) (inZ X Y)) H := by
  by_cases hs : sideB n = true
  · have h := (call_of_join tabK_sound (inter_run _ n m (side_cases hs) X Y) rfl (by simp [belowL, wvT_below]) H).deep (args' := [wv n X, wv m Y]) rfl
    rw [isMaskB_re, isMaskB_re] at h
    exact h.weaken fun σ x r => pair_rel r
  · have hs : sideB n = false := by simpa using hs
    have h := (call_of_join tabKN_sound (inter_no n m X Y) (by simp [allT, hs]) (by simp [belowL, wvT_below]) H).deep (args' := [wv n X, wv m Y]) rfl
    rw [(noSide_mask (X := X) hs).1]
    exact h.weaken fun σ x r => pair_zero r
noncomputable def gInter : List AV → Option (AV × List Bool)
  | [.agg l, .agg l'] => match ofW l, ofW l' with
    | some (n, X), some (m, Y) => some (pairR n (isMaskB n X) (isMaskB m Y) (eqQ false n m) (inZ X Y), [])
    | _, _ => none
  | _ => none
theorem inter_at : SoundAt Tryz.prog 14 (pureT gInter) := fun args H nd K => by
  refine pureT_sound (fun args v n h hn H => ?_) args H nd K
  unfold gInter at h
  split at h <;> (try (cases h; done))
  split at h <;> cases h
  rename_i n0 X0 m0 Y0 hl hl'
  exact (inter_ok n0 m0 X0 Y0 H).deep (by simp only [List.map_cons, ofW_spec hl, ofW_spec hl'])
/-! ### OpenCells -/
noncomputable def tabJ : Table := tabOf (jdeep Tryz.prog rowsK [9] 3000 8)
theorem tabJ_sound : SoundT Tryz.prog tabJ := jdeep_sound rowsK_at 8
def cntW (p : Nat → Bool) (s : Nat) : Nat → Int
  | 0 => 0
  | k + 1 => cond (p (s + k)) (wrapQ false .i64 (cntW p s k + 1)) (cntW p s k)
def openO (X : Nat → Nat × Nat) (N j : Nat) : Bool := match Nat.blt j N with
  | true => cond (oC (X j)) true true
  | false => !oC (X j)
def openN (N : Nat) (X : Nat → Nat × Nat) : List Bool := (List.range 64).map fun k => openO X N (63 - k)
noncomputable def openR (f : FuncId) (n : Int) (X : Nat → Nat × Nat) : Res := tabJ f [wvT true n X] [] [] fun v H nd => .ret v H nd
theorem open_run (f : FuncId) (hf : f = 9) (N : Nat) (n : Int) (hn : (N, n) ∈ doNs) (X : Nat → Nat × Nat) :
    ((condsP (openR f n X) [true], leafD 0 [0] ((openR f n X).at [true])), (condsP (openR f n X) [false], leafD 0 [0] ((openR f n X).at [false]))) =
    (([!isMaskB n (reX X)], some (.tup [.slnil, .i true .i64 1], [], [])), ([!!isMaskB n (reX X)], some (.tup [.sl true 0 0 n.toNat 1, .i true .i64 0], [.cells true (.ints .i64 ((List.range n.toNat).map fun r => cntW (fun j => oC (X j)) (n.toNat * r) n.toNat))], openN N X))) := by
  subst hf
  simp only [doNs, List.mem_cons, Prod.mk.injEq, List.not_mem_nil, or_false] at hn
  rcases hn with ⟨rfl, rfl⟩ | ⟨rfl, rfl⟩ | ⟨rfl, rfl⟩ | ⟨rfl, rfl⟩ <;> kernel_rfl
def cntN (p : Nat → Bool) (s : Nat) : Nat → Nat
  | 0 => 0
  | k + 1 => cntN p s k + (p (s + k)).toNat
theorem cntN_le (p : Nat → Bool) (s : Nat) : ∀ k, cntN p s k ≤ k
  | 0 => Nat.le_refl _
  | k + 1 => by
    have := cntN_le p s k
    rw [cntN]
    cases p (s + k) <;> simp <;> omega
theorem cntW_eq (p : Nat → Bool) (s : Nat) : ∀ k, k ≤ 5000 → cntW p s k = Int.ofNat (cntN p s k)
  | 0, _ => rfl
  | k + 1, h => by
    have hl := cntN_le p s k
    rw [cntW, cntN, cntW_eq p s k (by omega), ofNat_next (by omega)]
    cases p (s + k) <;> simp
theorem cntN_congr {p q : Nat → Bool} {s : Nat} : ∀ {k : Nat}, (∀ i, i < k → p (s + i) = q (s + i)) → cntN p s k = cntN q s k
  | 0, _ => rfl
  | k + 1, h => by
    rw [cntN, cntN, cntN_congr (k := k) fun i hi => h i (by omega), h k (by omega)]
def openL (n : Int) (X : Nat → Nat × Nat) : List Int := (List.range n.toNat).map fun r => Int.ofNat (cntN (fun j => oC (X j)) (n.toNat * r) n.toNat)
theorem cell_lt {n : Int} (hs : sideB n = true) {r k : Nat} (hr : r < n.toNat) (hk : k < n.toNat) : n.toNat * r + k < n.toNat * n.toNat ∧ n.toNat * n.toNat ≤ 64 := by
  rcases sideB_iff.1 hs with rfl | rfl | rfl | rfl <;> simp at hr hk ⊢ <;> omega
theorem open_cells {n : Int} {X : Nat → Nat × Nat} (hs : sideB n = true) : ((List.range n.toNat).map fun r => cntW (fun j => oC (X j)) (n.toNat * r) n.toNat) = openL n X := by
  refine List.map_congr_left fun r hr => ?_
  rw [cntW_eq _ _ _ (by rcases sideB_iff.1 hs with rfl | rfl | rfl | rfl <;> decide)]
theorem openN_ok {n : Int} {X : Nat → Nat × Nat} (h : isMaskB n X = true) : allT (openN (n.toNat * n.toNat) X) = true := by
  refine allT_of fun b hb => ?_
  obtain ⟨k, hk, rfl⟩ := List.mem_map.1 hb
  have hk : k < 64 := by simpa using hk
  unfold openO
  cases hb : Nat.blt (63 - k) (n.toNat * n.toNat) with
  | true => cases oC (X (63 - k)) <;> rfl
  | false =>
    have := (mask_open h (j := 63 - k) (by omega)).2.1 (by have := blt_false hb; omega)
    rw [this]; rfl
noncomputable def tabJKN : Table := tabOf (jdeep Tryz.prog rowsKN [] 3000 8)
theorem tabJKN_sound : SoundT Tryz.prog tabJKN := jdeep_sound rowsKN_at 8
theorem open_no (f : FuncId) (hf : f = 9) (n : Int) (X : Nat → Nat × Nat) : joinR 0 (tabJKN f [wvT false n X] [] [] fun v H nd => .ret v H nd) = some (.tup [.slnil, .i true .i64 1], [!sideB n]) := by
  subst hf
  kernel_rfl
theorem open_ok (f : FuncId) (hf : f = 9) {n : Int} {X : Nat → Nat × Nat} (h : isMaskB n X = true) (H : List AB) : CallOK Tryz.prog f [wv n X] H (.tup [.sl false H.length 0 n.toNat 1, .i true .i64 0]) (H ++ [.cells true (.ints .i64 (openL n X))]) := by
  have hs : sideB n = true := by
    cases hs : sideB n with
    | true => rfl
    | false => rw [(noSide_mask hs).1] at h; cases h
  have hr := open_run f hf _ n (side_cases hs) X
  simp only [Prod.mk.injEq] at hr
  obtain ⟨_, h1, h2⟩ := hr
  have k := call_of_leaf (H0 := []) (ks := [0]) (dirs := [false]) tabJ_sound (Prod.ext h1 h2) (by rw [isMaskB_re, h]; rfl) (openN_ok h)
  rw [open_cells hs] at k
  have k2 := ((CallOK.fresh k (fun g => rfl) (by simp [belowL, wvT_below]) H).deep (args' := [wv n X]) rfl)
  refine k2.weaken fun σ x r => ?_
  have e : mapV (pickI 0 H.length []) (.tup [.sl true 0 0 n.toNat 1, .i true .i64 0]) = .tup [.sl true (0 - 0 + H.length) 0 n.toNat 1, .i true .i64 0] := by
    simp [mapV, mapL, pickI]
  rw [e] at r
  refine tup_bare ?_ r
  simp [AV.bare]
theorem open_bad (f : FuncId) (hf : f = 9) {n : Int} {X : Nat → Nat × Nat} (h : isMaskB n X = false) (H : List AB) : CallOK Tryz.prog f [wv n X] H (.tup [.slnil, .i true .i64 1]) H := by
  cases hs : sideB n with
  | true =>
    have hr := open_run f hf _ n (side_cases hs) X
    simp only [Prod.mk.injEq] at hr
    obtain ⟨⟨h1, h2⟩, _⟩ := hr
    have k := call_of_leaf (H0 := []) (ks := [0]) (dirs := [true]) tabJ_sound (Prod.ext h1 h2) (by rw [isMaskB_re, h]; rfl) rfl
    exact ((k.lift rfl (by simp [belowL, wvT_below]) H rfl).deep (args' := [wv n X]) rfl)
  | false => exact ((call_of_join tabJKN_sound (open_no f hf n X) (by simp [allT, hs]) (by simp [belowL, wvT_below]) H).deep (args' := [wv n X]) rfl)
noncomputable def openT : Table := fun _ args H nd K =>
  match args with
  | [.agg l] => match ofW l with
    | some (n, X) => .ite (isMaskB n X) (K (.tup [.sl false H.length 0 n.toNat 1, .i true .i64 0]) (H ++ [.cells true (.ints .i64 (openL n X))]) nd) (K (.tup [.slnil, .i true .i64 1]) H nd)
    | none => .fail
  | _ => .fail
theorem open_at : SoundAt Tryz.prog 9 openT := fun args H nd K => by
  unfold openT
  split
  case h_2 => exact .inl rfl
  split
  case h_2 => exact .inl rfl
  rename_i l _ n X hl
  cases h : isMaskB n X with
  | true => exact .inr ⟨_, _, _, rfl, fun hn => ⟨hn, (open_ok 9 rfl h H).deep (by simp only [List.map_cons, ofW_spec hl])⟩⟩
  | false => exact .inr ⟨_, _, _, rfl, fun hn => ⟨hn, (open_bad 9 rfl h H).deep (by simp only [List.map_cons, ofW_spec hl])⟩⟩
end Go.Ax
