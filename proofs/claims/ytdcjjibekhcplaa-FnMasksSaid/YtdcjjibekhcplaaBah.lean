/- FlatWave and CellOf, of both sides. -/
import Derived.Test.YtdcjjibekhcplaaBag
namespace Go.Ax
open Go Go.Proofs

/-! ### FlatWave -/
noncomputable def flatV (N : Nat) (n : Int) (z : Nat × Nat) : AV :=
  .tup [.agg (.i false .i64 (cond (!wholeB z) 0 n) :: (List.range 64).map fun j => match Nat.ble N j with
    | true => .c true .f32 0 0
    | false => .c false .f32 (plusF (cond (!wholeB z) 0 z.1)) (plusF (cond (!wholeB z) 0 z.2))), .i false .i64 (cond (!wholeB z) 1 0)]
theorem flat_run (f : FuncId) (hf : f = 20 ∨ f = 21) (N : Nat) (n : Int) (hn : (N, n) ∈ doNs) (z : Nat × Nat) : joinR 0 (tabW f [.i true .i64 n, .c false .f32 z.1 z.2] [] [] fun v H nd => .ret v H nd) = some (flatV N n z, []) := by
  simp only [doNs, List.mem_cons, Prod.mk.injEq, List.not_mem_nil, or_false] at hn
  rcases hf with rfl | rfl <;> rcases hn with ⟨rfl, rfl⟩ | ⟨rfl, rfl⟩ | ⟨rfl, rfl⟩ | ⟨rfl, rfl⟩ <;> kernel_rfl
noncomputable def flatOK (n : Int) (z : Nat × Nat) : Bool := sideB n && wholeB z
noncomputable def flatX (n : Int) (z : Nat × Nat) (j : Nat) : Nat × Nat := match flatOK n z && Nat.blt j (n.toNat * n.toNat) with
  | true => (plusF z.1, plusF z.2)
  | false => (0, 0)
noncomputable def flatC (n : Int) (z : Nat × Nat) : Int := cond (wholeB z) (cond (sideB n) 0 2) 1
noncomputable def flatWR (n : Int) (z : Nat × Nat) : AV := .tup [wv (cond (flatOK n z) n 0) (flatX n z), .i false .i64 (flatC n z)]
def zeroV2 (c : Int) : AV := .tup [.agg (.i true .i64 0 :: List.replicate 64 (.c true .f32 0 0)), .i false .i64 c]
theorem flat_no (f : FuncId) (hf : f = 20 ∨ f = 21) (n : Int) (z : Nat × Nat) : joinR 0 (tabN f [.i false .i64 n, .c false .f32 z.1 z.2] [] [] fun v H nd => .ret v H nd) = some (zeroV2 (cond (!wholeB z) 1 2), [cond (!!wholeB z) (!sideB n) true]) := by
  rcases hf with rfl | rfl <;> kernel_rfl
theorem flat_ok (f : FuncId) (hf : f = 20 ∨ f = 21) (n : Int) (z : Nat × Nat) (H : List AB) : CallOK Try.prog f [.i false .i64 n, .c false .f32 z.1 z.2] H (flatWR n z) H := by
  by_cases hs : sideB n = true
  · obtain ⟨N, hN, hNn⟩ : ∃ N, (N, n) ∈ doNs ∧ N = n.toNat * n.toNat := by
      rcases sideB_iff.1 hs with rfl | rfl | rfl | rfl
      · exact ⟨1, by simp [doNs], rfl⟩
      · exact ⟨4, by simp [doNs], rfl⟩
      · exact ⟨16, by simp [doNs], rfl⟩
      · exact ⟨64, by simp [doNs], rfl⟩
    subst hNn
    refine ((call_of_join tabW_sound (flat_run f hf _ n hN z) rfl rfl H).bare (args' := [.i false .i64 n, .c false .f32 z.1 z.2]) rfl).weaken fun σ x r => tup2_weak ?_ ?_ r
    · have e1 : cond (!wholeB z) 0 n = cond (flatOK n z) n 0 := by
        unfold flatOK; rw [hs]; cases wholeB z <;> rfl
      simp only [waveL, List.map_cons, List.map_map, AV.bare, e1, List.cons.injEq, true_and]
      apply List.map_congr_left
      intro j hj
      simp only [Function.comp, cx, flatX]
      rw [ble_blt]
      cases hb : Nat.blt j (n.toNat * n.toNat) with
      | false => simp [AV.bare]
      | true =>
        unfold flatOK
        rw [hs]
        cases wholeB z <;> simp [AV.bare, plus_zero]
    · unfold flatC
      rw [hs]
      cases wholeB z <;> rfl
  · have hs : sideB n = false := by simpa using hs
    refine (call_of_join tabN_sound (flat_no f hf n z) (by rw [hs]; cases wholeB z <;> rfl) rfl H).weaken fun σ x r => tup2_weak ?_ ?_ r
    · have e : flatOK n z = false := by simp [flatOK, hs]
      have e2 : ∀ j, flatX n z j = (0, 0) := fun j => by simp [flatX, e]
      have : (List.range 64).map (cx (flatX n z)) = List.replicate 64 (.c false .f32 0 0) := by
        have : cx (flatX n z) = fun _ => .c false .f32 0 0 := funext fun j => by simp [cx, e2]
        rw [this]; rfl
      simp only [waveL, this, e]
      rfl
    · unfold flatC
      rw [hs]
      cases wholeB z <;> rfl

/-! ### CellOf -/
def gIn : List AV → Option (AV × List Bool)
  | [.i l .i64 a, .i m .i64 lo, .i k .i64 hi] => match l && m && k with
    | true => some (.b true (decide (lo ≤ a) && decide (a ≤ hi)), [])
    | false => some (.b true false, [!(decide (lo ≤ a) && decide (a ≤ hi))])
  | _ => none
theorem in_run (f : FuncId) (hf : f = 180 ∨ f = 151) (a lo hi : Int) : joinR 0 (tabW f [.i false .i64 a, .i false .i64 lo, .i false .i64 hi] [] [] fun v H nd => .ret v H nd) = some (.b false (cond (decide (lo ≤ a)) (decide (a ≤ hi)) false), []) := by
  rcases hf with rfl | rfl <;> kernel_rfl
theorem in_at (f : FuncId) (hf : f = 180 ∨ f = 151) : SoundAt Try.prog f (pureT gIn) := fun args H nd K => by
  refine pureT_sound (fun args v n h hn H => ?_) args H nd K
  unfold gIn at h
  split at h <;> (try (cases h; done))
  rename_i l a m lo k hi
  have base := (call_of_join tabW_sound (in_run f hf a lo hi) rfl rfl H).bare (args' := [.i l .i64 a, .i m .i64 lo, .i k .i64 hi]) rfl
  have e : cond (decide (lo ≤ a)) (decide (a ≤ hi)) false = (decide (lo ≤ a) && decide (a ≤ hi)) := by cases decide (lo ≤ a) <;> rfl
  rw [e] at base
  split at h <;> cases h
  · exact base.weaken fun σ x r => by cases r; exact .b _
  · have hn : (decide (lo ≤ a) && decide (a ≤ hi)) = false := by
      simp only [allT, Bool.and_true, Bool.not_eq_true'] at hn
      exact hn
    rw [hn] at base
    exact base.weaken fun σ x r => by cases r; exact .b _
noncomputable def rowsO : List (FuncId × Table) := (180, pureT gIn) :: (151, pureT gIn) :: rowsW
theorem rowsO_at : ∀ p ∈ rowsO, SoundAt Try.prog p.1 p.2 := fun p hp => by
  simp only [rowsO, List.mem_cons] at hp
  rcases hp with rfl | rfl | hp
  · exact in_at 180 (.inl rfl)
  · exact in_at 151 (.inr rfl)
  · exact rowsW_at p hp
noncomputable def tabO : Table := tabOf (cdeep Try.prog rowsO [] 3000 8)
theorem tabO_sound : SoundT Try.prog tabO := cdeep_sound rowsO_at 8
def inB (a hi : Int) : Bool := decide (0 ≤ a) && decide (a ≤ hi)
theorem cell_out1 (f : FuncId) (hf : f = 17 ∨ f = 23) (N : Nat) (n : Int) (hn : (N, n) ∈ doNs) (X : Nat → Nat × Nat) (y x : Int) : joinR 0 (tabO f [wvT true n X, .i false .i64 y, .i false .i64 x] [] [] fun v H nd => .ret v H nd) =
    some (.tup [.c true .f32 0 0, .i false .i64 (cond (!isWaveB n X) 1 2)], [cond (!!isWaveB n X) (!inB y (n - 1)) true]) := by
  simp only [doNs, List.mem_cons, Prod.mk.injEq, List.not_mem_nil, or_false] at hn
  rcases hf with rfl | rfl <;> rcases hn with ⟨rfl, rfl⟩ | ⟨rfl, rfl⟩ | ⟨rfl, rfl⟩ | ⟨rfl, rfl⟩ <;> kernel_rfl
def ysOf (n : Int) : List Int := (List.range n.toNat).map Int.ofNat
theorem cell_out2 (f : FuncId) (hf : f = 17 ∨ f = 23) (N : Nat) (n : Int) (hn : (N, n) ∈ doNs) (X : Nat → Nat × Nat) (x : Int) : ((ysOf n).map fun y => joinR 0 (tabO f [wvT true n X, .i true .i64 y, .i false .i64 x] [] [] fun v H nd => .ret v H nd)) =
    (ysOf n).map fun _ => some (.tup [.c true .f32 0 0, .i false .i64 (cond (!isWaveB n X) 1 2)], [cond (!!isWaveB n X) (!inB x (n - 1)) true]) := by
  simp only [doNs, List.mem_cons, Prod.mk.injEq, List.not_mem_nil, or_false] at hn
  rcases hf with rfl | rfl <;> rcases hn with ⟨rfl, rfl⟩ | ⟨rfl, rfl⟩ | ⟨rfl, rfl⟩ | ⟨rfl, rfl⟩ <;> kernel_rfl
theorem cell_in (f : FuncId) (hf : f = 17 ∨ f = 23) (N : Nat) (n : Int) (hn : (N, n) ∈ doNs) (X : Nat → Nat × Nat) : ((List.range N).map fun k => joinR 0 (tabO f [wvT true n X, .i true .i64 ((Int.ofNat k).tdiv n), .i true .i64 ((Int.ofNat k).tmod n)] [] [] fun v H nd => .ret v H nd)) =
    (List.range N).map fun k => some (.tup [.c false .f32 (plusF (cond (!isWaveB n X) 0 (X k).1)) (plusF (cond (!isWaveB n X) 0 (X k).2)), .i false .i64 (cond (!isWaveB n X) 1 0)], []) := by
  simp only [doNs, List.mem_cons, Prod.mk.injEq, List.not_mem_nil, or_false] at hn
  rcases hf with rfl | rfl <;> rcases hn with ⟨rfl, rfl⟩ | ⟨rfl, rfl⟩ | ⟨rfl, rfl⟩ | ⟨rfl, rfl⟩ <;> kernel_rfl
end Go.Ax

/- CellOf, of both sides: one answer. -/
namespace Go.Ax
open Go Go.Proofs

theorem tup_bare {l l' : List AV} (h : l.map AV.bare = l'.map AV.bare) {σ : List (Nat × Nat)} {v : Value} (r : Rel σ (.tup l) v) : Rel σ (.tup l') v := by
  cases r with | tup r => exact .tup (RelL.unbare (h ▸ r.bare))
noncomputable def cellOK (n : Int) (X : Nat → Nat × Nat) (y x : Int) : Bool := isWaveB n X && (inB y (n - 1) && inB x (n - 1))
noncomputable def cellZ (n : Int) (X : Nat → Nat × Nat) (y x : Int) : Nat × Nat := match cellOK n X y x with
  | true => (plusF (X (n * y + x).toNat).1, plusF (X (n * y + x).toNat).2)
  | false => (0, 0)
noncomputable def cellC (n : Int) (X : Nat → Nat × Nat) (y x : Int) : Int := cond (isWaveB n X) (cond (inB y (n - 1) && inB x (n - 1)) 0 2) 1
noncomputable def cellR (n : Int) (X : Nat → Nat × Nat) (y x : Int) : AV := .tup [.c false .f32 (cellZ n X y x).1 (cellZ n X y x).2, .i false .i64 (cellC n X y x)]
theorem cell_no (f : FuncId) (hf : f = 17 ∨ f = 23) (n : Int) (X : Nat → Nat × Nat) (y x : Int) : joinR 0 (tabN f [wvT false n X, .i false .i64 y, .i false .i64 x] [] [] fun v H nd => .ret v H nd) = some (.tup [.c true .f32 0 0, .i true .i64 1], [!sideB n]) := by
  rcases hf with rfl | rfl <;> kernel_rfl
theorem inB_iff {a hi : Int} : inB a hi = true ↔ 0 ≤ a ∧ a ≤ hi := by simp [inB]
theorem wvT_low (l : Bool) (n : Int) (X : Nat → Nat × Nat) : below 0 (wvT l n X) = true := by
  have := wv_low n X
  simpa [wv, wvT, waveL, below, belowL] using this
theorem cell_ok (f : FuncId) (hf : f = 17 ∨ f = 23) (n : Int) (X : Nat → Nat × Nat) (y x : Int) (H : List AB) : CallOK Try.prog f [wv n X, .i false .i64 y, .i false .i64 x] H (cellR n X y x) H := by
  by_cases hs : sideB n = true
  · obtain ⟨N, hN, hNn⟩ : ∃ N, (N, n) ∈ doNs ∧ N = n.toNat * n.toNat := by
      rcases sideB_iff.1 hs with rfl | rfl | rfl | rfl
      · exact ⟨1, by simp [doNs], rfl⟩
      · exact ⟨4, by simp [doNs], rfl⟩
      · exact ⟨16, by simp [doNs], rfl⟩
      · exact ⟨64, by simp [doNs], rfl⟩
    have hn := sideB_iff.1 hs
    have hlow : ∀ a b, belowL 0 [wvT true n X, .i a .i64 y, .i b .i64 x] = true := fun a b => by simp [belowL, below, wvT_low]
    by_cases hy : inB y (n - 1) = true
    · have hy' := inB_iff.1 hy
      by_cases hx : inB x (n - 1) = true
      · have hx' := inB_iff.1 hx
        have hk : (n * y + x).toNat < N := by
          rcases hn with rfl | rfl | rfl | rfl <;> (rw [hNn]; simp; omega)
        have e1 : (Int.ofNat (n * y + x).toNat).tdiv n = y ∧ (Int.ofNat (n * y + x).toNat).tmod n = x := by
          have e : Int.ofNat (n * y + x).toNat = n * y + x := by
            have : 0 ≤ n * y + x := by rcases hn with rfl | rfl | rfl | rfl <;> omega
            simp; omega
          rw [e]
          rw [Int.tdiv_eq_ediv_of_nonneg (by rcases hn with rfl | rfl | rfl | rfl <;> omega), Int.tmod_eq_emod_of_nonneg (by rcases hn with rfl | rfl | rfl | rfl <;> omega)]
          rcases hn with rfl | rfl | rfl | rfl <;> constructor <;> omega
        have h1 := map_mem (cell_in f hf N n hN X) (x := (n * y + x).toNat) (by simpa using hk)
        rw [e1.1, e1.2] at h1
        refine ((call_of_join tabO_sound h1 rfl (hlow _ _) H).deep (args' := [wv n X, .i false .i64 y, .i false .i64 x]) rfl).weaken fun σ z r => tup_bare ?_ r
        unfold cellZ cellC cellOK
        rw [hy, hx]
        cases isWaveB n X <;> simp [AV.bare, plus_zero]
      · have hx : inB x (n - 1) = false := by simpa using hx
        have hmem : y ∈ ysOf n := by
          unfold ysOf
          refine List.mem_map.2 ⟨y.toNat, by simp; omega, by simp; omega⟩
        have h1 := map_mem (cell_out2 f hf N n hN X x) hmem
        refine ((call_of_join tabO_sound h1 (by rw [hx]; cases isWaveB n X <;> rfl) (hlow _ _) H).deep (args' := [wv n X, .i false .i64 y, .i false .i64 x]) rfl).weaken fun σ z r => tup_bare ?_ r
        unfold cellZ cellC cellOK
        rw [hx]
        cases isWaveB n X <;> simp [AV.bare]
    · have hy : inB y (n - 1) = false := by simpa using hy
      refine ((call_of_join tabO_sound (cell_out1 f hf N n hN X y x) (by rw [hy]; cases isWaveB n X <;> rfl) (hlow _ _) H).deep (args' := [wv n X, .i false .i64 y, .i false .i64 x]) rfl).weaken fun σ z r => tup_bare ?_ r
      unfold cellZ cellC cellOK
      rw [hy]
      cases isWaveB n X <;> simp [AV.bare]
  · have hs : sideB n = false := by simpa using hs
    have hw : isWaveB n X = false := by simp [isWaveB, hs]
    refine ((call_of_join tabN_sound (cell_no f hf n X y x) (by simp [allT, hs]) (by simp [belowL, below, wvT_low]) H).deep (args' := [wv n X, .i false .i64 y, .i false .i64 x]) rfl).weaken fun σ z r => tup_bare ?_ r
    unfold cellZ cellC cellOK
    rw [hw]
    rfl
end Go.Ax

/- Table rows for the laws: what a drawing function gives, the plane waves, flat waves, cells. -/
namespace Go.Ax
open Go Go.Proofs

noncomputable def drawV {α : Type} [Inhabited α] (F : Form α) (f : FuncId) (c : Cd) : α := open Classical in if hx : ∃ x, DrawOK Try.prog f c (F.val x) then hx.choose else default
theorem drawV_ok {α : Type} [Inhabited α] {F : Form α} {f : FuncId} {c : Cd} (h : ∃ x, DrawOK Try.prog f c (F.val x)) : DrawOK Try.prog f c (F.val (drawV F f c)) := by
  unfold drawV
  rw [dif_pos h]
  exact h.choose_spec
noncomputable def drawT {α : Type} [Inhabited α] (F : Form α) : Table := fun f args H nd K =>
  match args, H with
  | [s], B :: _ => match readSl s, readCode B with
    | some (o, n), some (o', b) => K (F.val (drawV F f ⟨b, o', n⟩)) H (okB ⟨b, o', n⟩ o n :: nd)
    | _, _ => .fail
  | _, _ => .fail
theorem drawT_at {α : Type} [Inhabited α] {F : Form α} {f : FuncId} (h : ∀ c, goodB c = true → ∃ x, DrawOK Try.prog f c (F.val x)) : SoundAt Try.prog f (drawT F) := fun args H nd K => by
  unfold drawT
  split
  case h_2 => exact .inl rfl
  rename_i s B Hr
  split
  case h_2 => exact .inl rfl
  rename_i o n o' b hs hb
  refine .inr ⟨_, _, _, rfl, fun hn => ?_⟩
  simp only [allT, Bool.and_eq_true, okB] at hn
  obtain ⟨⟨⟨hg, ho⟩, _⟩, hnd⟩ := hn
  have ho : o = o' := of_decide_eq_true ho
  subst ho
  refine ⟨hnd, ?_⟩
  obtain ⟨l, rfl⟩ := readSl_spec hs
  have hB := readCode_spec hb
  subst hB
  exact (drawV_ok (h _ hg) Hr).bare (args' := [.sl l 0 o n 0]) rfl
noncomputable def gPlane : List AV → Option (AV × List Bool)
  | [.i _ .i64 n, .i _ .i64 u, .i _ .i64 v] => some (planeR n u v, [])
  | _ => none
theorem plane_at (f : FuncId) (hf : f = 13 ∨ f = 14) : SoundAt Try.prog f (pureT gPlane) := fun args H nd K => by
  refine pureT_sound (fun args v n h hn H => ?_) args H nd K
  unfold gPlane at h
  split at h <;> cases h
  exact (plane_ok f hf _ _ _ H).bare rfl
noncomputable def gFlat : List AV → Option (AV × List Bool)
  | [.i _ .i64 n, .c _ .f32 x y] => some (flatWR n (x, y), [])
  | _ => none
theorem flatw_at (f : FuncId) (hf : f = 20 ∨ f = 21) : SoundAt Try.prog f (pureT gFlat) := fun args H nd K => by
  refine pureT_sound (fun args v n h hn H => ?_) args H nd K
  unfold gFlat at h
  split at h <;> cases h
  exact (flat_ok f hf _ (_, _) H).bare rfl
noncomputable def gCell : List AV → Option (AV × List Bool)
  | [.agg l, .i _ .i64 y, .i _ .i64 x] => match ofW l with
    | some (n, X) => some (cellR n X y x, [])
    | none => none
  | _ => none
theorem cell_at (f : FuncId) (hf : f = 17 ∨ f = 23) : SoundAt Try.prog f (pureT gCell) := fun args H nd K => by
  refine pureT_sound (fun args v n h hn H => ?_) args H nd K
  unfold gCell at h
  split at h <;> (try (cases h; done))
  split at h <;> cases h
  rename_i hl
  exact (cell_ok f hf _ _ _ _ H).deep (by simp only [List.map_cons, ofW_spec hl]; rfl)
instance : Inhabited (Int × (Nat → Nat × Nat)) := ⟨(0, fun _ => (0, 0))⟩
noncomputable def rowsL3 : List (FuncId × Table) :=
  [(9, drawT formI), (12, drawT formI3), (19, drawT formIC), (22, drawT formWII), (10, pureT gPhase), (11, pureT gPhase), (13, pureT gPlane), (14, pureT gPlane), (15, rollT), (16, belowT),
   (17, pureT gCell), (18, pureT gIsWave), (20, pureT gFlat), (21, pureT gFlat), (23, pureT gCell)]
theorem rowsL3_at : ∀ p ∈ rowsL3, SoundAt Try.prog p.1 p.2 := fun p hp => by
  simp only [rowsL3, List.mem_cons, List.not_mem_nil, or_false] at hp
  rcases hp with rfl | rfl | rfl | rfl | rfl | rfl | rfl | rfl | rfl | rfl | rfl | rfl | rfl | rfl | rfl
  · exact drawT_at fun c hc => drawPhase_ok hc
  · exact drawT_at fun c hc => drawPlane_ok hc
  · exact drawT_at fun c hc => drawFlat_ok hc
  · exact drawT_at fun c hc => drawCell_ok hc
  · exact phase_at
  · exact specPhase_at
  · exact plane_at 13 (.inl rfl)
  · exact plane_at 14 (.inr rfl)
  · exact roll_at
  · exact below_at
  · exact cell_at 17 (.inl rfl)
  · exact isWave_at 18 (.inl rfl)
  · exact flatw_at 20 (.inl rfl)
  · exact flatw_at 21 (.inr rfl)
  · exact cell_at 23 (.inr rfl)
end Go.Ax

/- A call's answer along one way through its tests; numbers that equal themselves. -/
namespace Go.Ax
open Go Go.Proofs

/-- What must hold along a way. -/
def condsP : Res → List Bool → List Bool
  | .ite b x y, d :: l => match d with
    | true => b :: condsP x l
    | false => (!b) :: condsP y l
  | _, _ => []
def leafP : Res → Option (AV × List Bool)
  | .ret v _ nd => some (v, nd)
  | _ => none
theorem sel_of_conds : ∀ (r : Res) (l : List Bool), allT (condsP r l) = true → r.sel = (r.at l).sel
  | .ite b x y, d :: l, h => by
    cases d with
    | true =>
      simp only [condsP, allT, Bool.and_eq_true] at h
      simp only [Res.sel, Res.at, h.1, if_true]
      exact sel_of_conds x l h.2
    | false =>
      simp only [condsP, allT, Bool.and_eq_true, Bool.not_eq_true'] at h
      simp only [Res.sel, Res.at, h.1]
      exact sel_of_conds y l h.2
  | .ite _ _ _, [], _ => rfl
  | .ret _ _ _, _, _ => by simp [Res.at]
  | .stop _ _ _ _, _, _ => by simp [Res.at]
  | .fail, _, _ => by simp [Res.at]
theorem call_of_path {P : Program} {T : Table} {f : FuncId} {args : List AV} {H : List AB} {dirs conds nd : List Bool} {v : AV} (hT : SoundT P T)
    (h : (condsP (T f args H [] fun v H nd => .ret v H nd) dirs, leafP ((T f args H [] fun v H nd => .ret v H nd).at dirs)) = (conds, some (v, nd))) (hc : allT conds = true) (hn : allT nd = true) : ∃ H', CallOK P f args H v H' := by
  simp only [Prod.mk.injEq] at h
  obtain ⟨h1, h2⟩ := h
  have e := sel_of_conds _ dirs (by rw [h1]; exact hc)
  generalize hl : (T f args H [] fun v H nd => .ret v H nd).at dirs = r at h2 e
  unfold leafP at h2
  split at h2 <;> cases h2
  exact ⟨_, call_of_sel hT e hn⟩

theorem feq_self {x : Nat} (h : finB x = true) : feq .f32 x x = true := by
  unfold finB fsub at h
  unfold feq Ieee.Format.order
  cases hx : (FloatKind.f32.format.read x) with
  | nan s p =>
    exfalso
    unfold Ieee.Format.sub at h
    rw [hx] at h
    have : (((Ieee.Datum.nan s p).sum (Ieee.Datum.nan s p).opposite).map FloatKind.f32.format.write).getD (qnan .f32) = qnan .f32 := rfl
    rw [this] at h
    have e : feq .f32 (qnan .f32) 0 = false := by kernel_rfl
    rw [e] at h; cases h
  | infinity s => simp [Ieee.Datum.order]
  | number s m i => simp [Ieee.Datum.order]
theorem feq_zz : feq .f32 0 0 = true := by kernel_rfl
theorem feq_plus {x : Nat} (h : finB x = true) : feq .f32 (plusF x) (plusF x) = true := by
  unfold plusF
  cases feq .f32 x 0 with
  | true => exact feq_zz
  | false => exact feq_self h
theorem wholeB_iff {z : Nat × Nat} : wholeB z = true ↔ finB z.1 = true ∧ finB z.2 = true := by
  unfold wholeB
  cases finB z.1 <;> simp

/-! ### Waves read from their values -/
def reX (X : Nat → Nat × Nat) : Nat → Nat × Nat := fun j => ((List.range 64).map fun i => ((X i).1, (X i).2)).getD j (0, 0)
theorem reX_eq {X : Nat → Nat × Nat} {j : Nat} (h : j < 64) : reX X j = X j := by
  simp [reX, List.getD_eq_getElem?_getD, List.getElem?_range h]
theorem isWaveB_re {n : Int} {X : Nat → Nat × Nat} : isWaveB n (reX X) = isWaveB n X := by
  rw [Bool.eq_iff_iff, isWaveB_iff, isWaveB_iff]
  constructor
  · rintro ⟨h1, h2⟩
    exact ⟨h1, fun j hj => by have := h2 j hj; rwa [reX_eq hj] at this⟩
  · rintro ⟨h1, h2⟩
    exact ⟨h1, fun j hj => by rw [reX_eq hj]; exact h2 j hj⟩
def pEq (a b c d : Nat) : Bool := feq .f32 a b && feq .f32 c d
/-- Whether two waves have the same cells. -/
def eqX (X Y : Nat → Nat × Nat) : Nat → Nat → Bool
  | 0, _ => true
  | m + 1, j => pEq (X j).1 (Y j).1 (X j).2 (Y j).2 && eqX X Y m (Nat.succ j)
theorem eqX_self {X : Nat → Nat × Nat} (h : ∀ j, feq .f32 (X j).1 (X j).1 = true ∧ feq .f32 (X j).2 (X j).2 = true) : ∀ m j, eqX X X m j = true
  | 0, _ => rfl
  | m + 1, j => by
    simp only [eqX, pEq, h j, Bool.and_self, eqX_self h m]
def eqW (n : Int) (X : Nat → Nat × Nat) (n' : Int) (X' : Nat → Nat × Nat) : Bool := (n == n') && (eqX X X' 64 0 && true)
theorem eqW_self {n : Int} {X : Nat → Nat × Nat} (h : ∀ j, feq .f32 (X j).1 (X j).1 = true ∧ feq .f32 (X j).2 (X j).2 = true) : eqW n X n X = true := by
  simp [eqW, eqX_self h]

/-! ### The table of phases -/
theorem tmod64 (k : Int) : k.tmod 64 = k % 64 ∨ k.tmod 64 = k % 64 - 64 := by
  rcases Int.lt_or_le k 0 with h | h
  · rw [Int.tmod_eq_emod]
    split <;> simp
  · left; exact Int.tmod_eq_emod_of_nonneg h
/-- What is told of the phases, by cases. -/
noncomputable def phAll (j : Nat) : Bool :=
  let x := phXs.getD j 0
  let y := phYs.getD j 0
  finB x && (finB y && (pEq (phXs.getD ((j + 32) % 64) 0) (fneg .f32 x) (phYs.getD ((j + 32) % 64) 0) (fneg .f32 y) && (pEq (phXs.getD ((j + 16) % 64) 0) (fneg .f32 y) (phYs.getD ((j + 16) % 64) 0) x && (!(Nat.beq (j % 16) 0) || (feq .f32 x 0 || feq .f32 y 0)))))
theorem ph_all : ((List.range 64).all phAll) = true := by kernel_rfl
theorem phX_tab (k : Int) : phX k = phXs.getD (k % 64).toNat 0 ∧ phY k = phYs.getD (k % 64).toNat 0 := by
  have hk : k % 64 = ((k % 64).toNat : Int) := by omega
  have hj : (k % 64).toNat < 64 := by omega
  unfold phX phY
  generalize (k % 64).toNat = j at hk hj
  rw [hk, chain_get _ _ 63 (by omega), chain_get _ _ 63 (by omega)]
  exact ⟨rfl, rfl⟩
theorem ph_facts (k : Int) : finB (phX k) = true ∧ finB (phY k) = true ∧ pEq (phX (k + 32)) (fneg .f32 (phX k)) (phY (k + 32)) (fneg .f32 (phY k)) = true ∧ pEq (phX (k + 16)) (fneg .f32 (phY k)) (phY (k + 16)) (phX k) = true ∧ (k % 16 = 0 → feq .f32 (phX k) 0 = true ∨ feq .f32 (phY k) 0 = true) := by
  have hj : (k % 64).toNat < 64 := by omega
  have h := List.all_eq_true.1 ph_all (k % 64).toNat (by simpa using hj)
  unfold phAll at h
  simp only [Bool.and_eq_true] at h
  obtain ⟨h1, h2, h3, h4, h5⟩ := h
  rw [(phX_tab k).1, (phX_tab k).2, (phX_tab (k + 32)).1, (phX_tab (k + 32)).2, (phX_tab (k + 16)).1, (phX_tab (k + 16)).2]
  have e1 : ((k + 32) % 64).toNat = ((k % 64).toNat + 32) % 64 := by omega
  have e2 : ((k + 16) % 64).toNat = ((k % 64).toNat + 16) % 64 := by omega
  rw [e1, e2]
  refine ⟨h1, h2, h3, h4, fun h16 => ?_⟩
  have e3 : Nat.beq ((k % 64).toNat % 16) 0 = true := by
    have : (k % 64).toNat % 16 = 0 := by omega
    rw [this]; rfl
  rw [e3] at h5
  simpa using h5
theorem ph_per {k k' : Int} (h : k % 64 = k' % 64) : phX k = phX k' ∧ phY k = phY k' := by
  unfold phX phY; rw [h]; exact ⟨rfl, rfl⟩
end Go.Ax

/- IsMask, of both sides. -/
namespace Go.Ax
open Go Go.Proofs

def zC (z : Nat × Nat) : Bool := pEq z.1 0 z.2 0
def oC (z : Nat × Nat) : Bool := pEq z.1 1065353216 z.2 0
/-- Whether the cells from j on are 0 or 1. -/
def maskF (X : Nat → Nat × Nat) : Nat → Nat → Bool
  | 0, _ => true
  | m + 1, j => (zC (X j) || oC (X j)) && maskF X m (j + 1)
theorem maskF_iff (X : Nat → Nat × Nat) : ∀ m j, maskF X m j = true ↔ ∀ i, i < m → zC (X (j + i)) = true ∨ oC (X (j + i)) = true
  | 0, j => by simp [maskF]
  | m + 1, j => by
    rw [maskF, Bool.and_eq_true, Bool.or_eq_true, maskF_iff X m (j + 1)]
    constructor
    · rintro ⟨h0, h⟩ i hi
      cases i with
      | zero => exact h0
      | succ i => have := h i (by omega); rwa [show j + 1 + i = j + (i + 1) by omega] at this
    · intro h
      refine ⟨h 0 (by omega), fun i hi => ?_⟩
      have := h (i + 1) (by omega)
      rwa [show j + (i + 1) = j + 1 + i by omega] at this
noncomputable def isMaskB (n : Int) (X : Nat → Nat × Nat) : Bool := maskF X 64 0 && isWaveB n X

noncomputable def isC : Code := Try.f121.body.getD .skip
noncomputable def is0 (n : Int) (X : Nat → Nat × Nat) : Res := cupto Try.prog tabX atLoop 100 [.code isC] (wv n X :: undefs 21) []
noncomputable def isL : List Item := (is0 0 (fun _ => (0, 0))).todo
noncomputable def isR : List Item := toLp isL
theorem isR_eq : toLp isR = isR := by kernel_rfl
def isH (n : Int) (X : Nat → Nat × Nat) : List AB := [.cells true (.lit (waveL n X))]
def isT (j : Nat) : List AV := [.any, .p true 0 0, .b true false, .i true .i64 (Int.ofNat j)] ++ List.replicate 18 .any
def isM : List Bool := [true, false, false, false] ++ List.replicate 18 true
noncomputable def isU (n : Int) (X : Nat → Nat × Nat) (j : Nat) : Res := cupto Try.prog tabX atLoop 100 isR (isT j) (isH n X)
noncomputable def lfM (M : List Bool) (r : Res) : Bool × List Item × List AV × List AB × List Bool := (r.isStop, r.todo, bareBlur M r.tOf, r.HOf, r.nds)
theorem is0_ok (n : Int) (X : Nat → Nat × Nat) : lfM isM (is0 n X) = (true, isL, (isT 0).map AV.bare, isH n X, []) := by kernel_rfl
theorem is_step (n : Int) (X : Nat → Nat × Nat) : ((List.range 64).map fun j => (condsP (isU n X j) [false], lfM isM ((isU n X j).at [false]), condsP (isU n X j) [true, false], lfM isM ((isU n X j).at [true, false]), condsP (isU n X j) [true, true], endOf Try.prog Try.f121.results.toList ((isU n X j).at [true, true]))) =
    (List.range 64).map fun j => ([!!zC (X j)], (true, isR, (isT (j + 1)).map AV.bare, isH n X, []), [!zC (X j), !!oC (X j)], (true, isR, (isT (j + 1)).map AV.bare, isH n X, []), [!zC (X j), !oC (X j)], some (some ([.b true false], []), isH n X, [])) := by kernel_rfl
theorem is_end (n : Int) (X : Nat → Nat × Nat) : endOf Try.prog Try.f121.results.toList (isU n X 64) = some (some ([.b false (isWaveB n (reX X))], []), isH n X, []) := by kernel_rfl
theorem isStop_at {r : Res} {L : List Bool} (h : (r.at L).isStop = true) (hc : allT (condsP r L) = true) : r.sel = .stop (r.at L).todo (r.at L).tOf (r.at L).HOf (r.at L).nds := by
  rw [sel_of_conds r L hc]
  conv => lhs; rw [Res.isStop_eq h]
  rfl
theorem is_go (n : Int) (X : Nat → Nat × Nat) : ∀ (m j : Nat), j + m = 64 → ∀ L, toLp L = isR → ∃ t H, Ends Try.prog L (isT j) (isH n X) t H ∧ ∃ b, resV Try.prog t H Try.f121.results.toList = some ([.b b (maskF X m j && isWaveB n X)], [])
  | 0, j, hj, L, hL => by
    have : j = 64 := by omega
    subst this
    have hU : cupto Try.prog tabX atLoop 100 L (isT 64) (isH n X) = isU n X 64 := by unfold isU; rw [← hL, cupto_toLp]
    obtain ⟨t, e1, e2⟩ := endOf_ends (T := tabX) (stop := atLoop) (n := 100) (todo := L) (t0 := isT 64) (H0 := isH n X) tabX_sound (is_end n X) (by rw [hU]) rfl
    refine ⟨t, _, e1, false, ?_⟩
    rw [e2, isWaveB_re]
    rfl
  | m + 1, j, hj, L, hL => by
    have hU : cupto Try.prog tabX atLoop 100 L (isT j) (isH n X) = isU n X j := by unfold isU; rw [← hL, cupto_toLp]
    have h := map_mem (is_step n X) (x := j) (by simp; omega)
    simp only [Prod.mk.injEq] at h
    obtain ⟨c1, l1, c2, l2, c3, l3⟩ := h
    have ih := is_go n X m (j + 1) (by omega) isR isR_eq
    have next : ∀ p : List Bool, allT (condsP (isU n X j) p) = true → lfM isM ((isU n X j).at p) = (true, isR, (isT (j + 1)).map AV.bare, isH n X, []) → Reach Try.prog L (isT j) (isH n X) isR (isT (j + 1)) (isH n X) := fun p hc hl => by
      simp only [lfM, Prod.mk.injEq] at hl
      obtain ⟨a1, a2, a3, a4, a5⟩ := hl
      have hs := isStop_at a1 hc
      rw [← hU] at hs
      have hr := cupto_reach tabX_sound hs (by rw [hU, a5]; rfl)
      rw [hU, a2, a4] at hr
      exact (hr.weak (blur_eqv isM _)).weak (eqv_of_bare a3)
    cases hz : zC (X j) with
    | true =>
      obtain ⟨t, H, e1, b, e2⟩ := ih
      refine ⟨t, H, (next [false] (by rw [c1, hz]; rfl) l1).ends e1, b, ?_⟩
      rw [e2, maskF, hz]; rfl
    | false => cases ho : oC (X j) with
      | true =>
        obtain ⟨t, H, e1, b, e2⟩ := ih
        refine ⟨t, H, (next [true, false] (by rw [c2, hz, ho]; rfl) l2).ends e1, b, ?_⟩
        rw [e2, maskF, hz, ho]; rfl
      | false =>
        obtain ⟨t, e1, e2⟩ := endOf_ends (T := tabX) (stop := atLoop) (n := 100) (todo := L) (t0 := isT j) (H0 := isH n X) tabX_sound l3 (by rw [hU]; exact sel_of_conds _ _ (by rw [c3, hz, ho]; rfl)) rfl
        refine ⟨t, _, e1, true, ?_⟩
        rw [e2, maskF, hz, ho]; rfl
theorem specIs_ok (n : Int) (X : Nat → Nat × Nat) (H : List AB) : CallOK Try.prog 121 [wv n X] H (.b false (isMaskB n X)) H := by
  have h := is0_ok n X
  simp only [lfM, Prod.mk.injEq] at h
  obtain ⟨a1, a2, a3, a4, a5⟩ := h
  have hr := one_reach (stop := atLoop) (n := 100) (todo := [.code isC]) (t0 := wv n X :: undefs 21) (H0 := []) (r := is0 n X) tabX_sound rfl a1 (by rw [a5]; rfl)
  rw [a2, a4] at hr
  have hr := (hr.weak (blur_eqv isM _)).weak (eqv_of_bare (t' := isT 0) a3)
  obtain ⟨t, H', e1, b, e2⟩ := is_go n X 64 0 rfl isL rfl
  have hb : Try.f121.body = some isC := rfl
  have hcall := call_of_ends (args := [wv n X]) (m := []) Try.func121 hb (hr.ends e1) e2 rfl
  have hcall : CallOK Try.prog 121 [wv n X] [] (.b b (isMaskB n X)) H' := hcall
  exact (hcall.lift rfl (by simp [belowL, wv_low]) H rfl).weaken fun σ x r => by cases r; exact .b _

/-! ### impl.IsMask -/
def idxF (X : Nat → Nat × Nat) : Nat → Nat → Int
  | 0, _ => -1
  | m + 1, j => cond (cond (!zC (X j)) (!oC (X j)) false) (Int.ofNat j) (idxF X m (Nat.succ j))
theorem idxF_neg (X : Nat → Nat × Nat) : ∀ m j, (!decide (0 ≤ idxF X m j)) = maskF X m j
  | 0, j => by simp [idxF, maskF]
  | m + 1, j => by
    rw [idxF, maskF, ← idxF_neg X m (j + 1)]
    cases zC (X j) <;> cases oC (X j) <;> simp
theorem implIs_run (n : Int) (X : Nat → Nat × Nat) : joinR 0 (tabX 29 [wvT false n X] [] [] fun v H nd => .ret v H nd) = some (.b false (cond (isWaveB n (reX X)) (!leQ false 0 (idxF X 64 0)) false), []) := by kernel_rfl
theorem wvT_below (l : Bool) (n : Int) (X : Nat → Nat × Nat) : below 0 (wvT l n X) = true := by
  have := wv_low n X
  simpa [wv, wvT, waveL, below, belowL] using this
theorem implIs_ok (n : Int) (X : Nat → Nat × Nat) (H : List AB) : CallOK Try.prog 29 [wv n X] H (.b false (isMaskB n X)) H := by
  have h := (call_of_join tabX_sound (implIs_run n X) rfl (by simp [belowL, wvT_below]) H).deep (args' := [wv n X]) rfl
  refine h.weaken fun σ x r => ?_
  have e : cond (isWaveB n (reX X)) (!leQ false 0 (idxF X 64 0)) false = isMaskB n X := by
    rw [leQ_eq, idxF_neg, isWaveB_re]
    unfold isMaskB
    cases isWaveB n X <;> simp
  rwa [e] at r
noncomputable def gIsMask : List AV → Option (AV × List Bool)
  | [.agg l] => match ofW l with
    | some (n, X) => some (.b false (isMaskB n X), [])
    | none => none
  | _ => none
theorem isMask_at (f : FuncId) (hf : f = 29 ∨ f = 121) : SoundAt Try.prog f (pureT gIsMask) := fun args H nd K => by
  refine pureT_sound (fun args v n h hn H => ?_) args H nd K
  unfold gIsMask at h
  split at h <;> (try (cases h; done))
  split at h <;> cases h
  rename_i hl
  rcases hf with rfl | rfl
  · exact (implIs_ok _ _ H).deep (by simp only [List.map_cons, ofW_spec hl])
  · exact (specIs_ok _ _ H).deep (by simp only [List.map_cons, ofW_spec hl])
noncomputable def rowsK : List (FuncId × Table) := (29, pureT gIsMask) :: (121, pureT gIsMask) :: rowsW
theorem rowsK_at : ∀ p ∈ rowsK, SoundAt Try.prog p.1 p.2 := fun p hp => by
  simp only [rowsK, List.mem_cons] at hp
  rcases hp with rfl | rfl | hp
  · exact isMask_at 29 (.inl rfl)
  · exact isMask_at 121 (.inr rfl)
  · exact rowsW_at p hp
noncomputable def tabK : Table := tabOf (cdeep Try.prog rowsK [] 3000 8)
theorem tabK_sound : SoundT Try.prog tabK := cdeep_sound rowsK_at 8
end Go.Ax

/- ComplementOf, of both sides. -/
namespace Go.Ax
open Go Go.Proofs

/-! ### Waves that are no masks because of their side -/
def gNoMask : List AV → Option (AV × List Bool)
  | [.agg l] => match ofW l with
    | some (n, _) => some (.b true false, [!sideB n])
    | none => none
  | _ => none
theorem noSide_mask {n : Int} {X : Nat → Nat × Nat} (h : sideB n = false) : isMaskB n X = false ∧ isWaveB n X = false := by
  have : isWaveB n X = false := by simp [isWaveB, h]
  exact ⟨by simp [isMaskB, this], this⟩
theorem noMask_at (f : FuncId) (hf : f = 29 ∨ f = 121) : SoundAt Try.prog f (pureT gNoMask) := fun args H nd K => by
  refine pureT_sound (fun args v n h hn H => ?_) args H nd K
  unfold gNoMask at h
  split at h <;> (try (cases h; done))
  split at h <;> cases h
  rename_i n0 X0 hl
  have hs := hn
  simp only [allT, Bool.and_true, Bool.not_eq_true'] at hs
  rcases hf with rfl | rfl
  · refine ((implIs_ok n0 X0 H).deep (by simp only [List.map_cons, ofW_spec hl])).weaken fun σ x r => ?_
    rw [(noSide_mask hs).1] at r
    cases r; exact .b _
  · refine ((specIs_ok n0 X0 H).deep (by simp only [List.map_cons, ofW_spec hl])).weaken fun σ x r => ?_
    rw [(noSide_mask hs).1] at r
    cases r; exact .b _
def gNoWave : List AV → Option (AV × List Bool) := gNoMask
theorem noWave_at (f : FuncId) (hf : f = 18 ∨ f = 208) : SoundAt Try.prog f (pureT gNoMask) := fun args H nd K => by
  refine pureT_sound (fun args v n h hn H => ?_) args H nd K
  unfold gNoMask at h
  split at h <;> (try (cases h; done))
  split at h <;> cases h
  rename_i n0 X0 hl
  have hs := hn
  simp only [allT, Bool.and_true, Bool.not_eq_true'] at hs
  refine ((is_ok f hf n0 X0 H).deep (by simp only [List.map_cons, ofW_spec hl])).weaken fun σ x r => ?_
  rw [(noSide_mask hs).2] at r
  cases r; exact .b _
noncomputable def rowsKN : List (FuncId × Table) := [(29, pureT gNoMask), (121, pureT gNoMask), (18, pureT gNoMask), (208, pureT gNoMask)]
theorem rowsKN_at : ∀ p ∈ rowsKN, SoundAt Try.prog p.1 p.2 := fun p hp => by
  simp only [rowsKN, List.mem_cons, List.not_mem_nil, or_false] at hp
  rcases hp with rfl | rfl | rfl | rfl
  · exact noMask_at 29 (.inl rfl)
  · exact noMask_at 121 (.inr rfl)
  · exact noWave_at 18 (.inl rfl)
  · exact noWave_at 208 (.inr rfl)
noncomputable def tabKN : Table := tabOf (cdeep Try.prog rowsKN [] 3000 8)
theorem tabKN_sound : SoundT Try.prog tabKN := cdeep_sound rowsKN_at 8

/-! ### ComplementOf -/
def oneF : Nat := 1065353216
noncomputable def complV (N : Nat) (n : Int) (X : Nat → Nat × Nat) (sp : Bool) : AV :=
  .tup [.agg (.i false .i64 (cond (!isMaskB n (reX X)) 0 n) :: (List.range 64).map fun j => match Nat.ble N j with
    | true => match sp with
      | true => .c false .f32 (plusF (cond (!isMaskB n (reX X)) 0 (X j).1)) (plusF (cond (!isMaskB n (reX X)) 0 (X j).2))
      | false => .c true .f32 0 0
    | false => .c false .f32 (plusF (cond (!isMaskB n (reX X)) 0 (fsub .f32 oneF (X j).1))) (plusF (cond (!isMaskB n (reX X)) 0 (fsub .f32 0 (X j).2)))), .i false .i64 (cond (!isMaskB n (reX X)) 1 0)]
theorem compl_run (f : FuncId) (sp : Bool) (hf : (f, sp) ∈ ([(32, false), (39, true)] : List (FuncId × Bool))) (N : Nat) (n : Int) (hn : (N, n) ∈ doNs) (X : Nat → Nat × Nat) : joinR 0 (tabK f [wvT true n X] [] [] fun v H nd => .ret v H nd) = some (complV N n X sp, []) := by
  simp only [doNs, List.mem_cons, Prod.mk.injEq, List.not_mem_nil, or_false] at hn hf
  rcases hf with ⟨rfl, rfl⟩ | ⟨rfl, rfl⟩ <;> rcases hn with ⟨rfl, rfl⟩ | ⟨rfl, rfl⟩ | ⟨rfl, rfl⟩ | ⟨rfl, rfl⟩ <;> kernel_rfl
theorem compl_no (f : FuncId) (hf : f = 32 ∨ f = 39) (n : Int) (X : Nat → Nat × Nat) : joinR 0 (tabKN f [wvT false n X] [] [] fun v H nd => .ret v H nd) = some (zeroV 1, [!sideB n]) := by
  rcases hf with rfl | rfl <;> kernel_rfl
noncomputable def complX (n : Int) (X : Nat → Nat × Nat) (j : Nat) : Nat × Nat := match isMaskB n X && Nat.blt j (n.toNat * n.toNat) with
  | true => (plusF (fsub .f32 oneF (X j).1), plusF (fsub .f32 0 (X j).2))
  | false => (0, 0)
noncomputable def complR (n : Int) (X : Nat → Nat × Nat) : AV := .tup [wv (cond (isMaskB n X) n 0) (complX n X), .i false .i64 (cond (isMaskB n X) 0 1)]
end Go.Ax

/- ComplementOf, of both sides: one answer. -/
namespace Go.Ax
open Go Go.Proofs

theorem plusF_zero {x : Nat} (h : feq .f32 x 0 = true) : plusF x = 0 := by unfold plusF; rw [h]; rfl
theorem wave_tail {n : Int} {X : Nat → Nat × Nat} (h : isWaveB n X = true) {j : Nat} (hj : j < 64) (hb : Nat.blt j (n.toNat * n.toNat) = false) : plusF (X j).1 = 0 ∧ plusF (X j).2 = 0 := by
  have h2 := ((isWaveB_iff.1 h).2 j hj).2 (by have := blt_false hb; omega)
  unfold zeroB at h2
  rw [Bool.and_eq_true] at h2
  exact ⟨plusF_zero h2.1, plusF_zero h2.2⟩
theorem isMaskB_re {n : Int} {X : Nat → Nat × Nat} : isMaskB n (reX X) = isMaskB n X := by
  unfold isMaskB
  rw [isWaveB_re]
  congr 1
theorem isMaskB_wave {n : Int} {X : Nat → Nat × Nat} (h : isMaskB n X = true) : isWaveB n X = true := by
  unfold isMaskB at h
  rw [Bool.and_eq_true] at h
  exact h.2
theorem side_cases {n : Int} (hs : sideB n = true) : (n.toNat * n.toNat, n) ∈ doNs := by
  rcases sideB_iff.1 hs with rfl | rfl | rfl | rfl <;> simp [doNs]
theorem zero_wave {n : Int} {X : Nat → Nat × Nat} {c : Int} (hX : ∀ j, X j = (0, 0)) (hn : n = 0) {σ : List (Nat × Nat)} {x : Value} (r : Rel σ (zeroV c) x) : Rel σ (.tup [wv n X, .i false .i64 c]) x := by
  unfold zeroV at r
  refine tup2_weak (l' := waveL n X) (c' := .i false .i64 c) ?_ ?_ r
  · have : (List.range 64).map (cx X) = List.replicate 64 (.c false .f32 0 0) := by
      have : cx X = fun _ => .c false .f32 0 0 := funext fun j => by simp [cx, hX]
      rw [this]; rfl
    simp only [waveL, this, hn]
    rfl
  · rfl
theorem compl_ok (f : FuncId) (hf : f = 32 ∨ f = 39) (n : Int) (X : Nat → Nat × Nat) (H : List AB) : CallOK Try.prog f [wv n X] H (complR n X) H := by
  by_cases hs : sideB n = true
  · obtain ⟨sp, hsp⟩ : ∃ sp, (f, sp) ∈ ([(32, false), (39, true)] : List (FuncId × Bool)) := by
      rcases hf with rfl | rfl
      · exact ⟨false, by simp⟩
      · exact ⟨true, by simp⟩
    refine ((call_of_join tabK_sound (compl_run f sp hsp _ n (side_cases hs) X) rfl (by simp [belowL, wvT_below]) H).deep (args' := [wv n X]) rfl).weaken fun σ x r => tup2_weak ?_ ?_ r
    · rw [isMaskB_re]
      simp only [waveL, List.map_cons, List.map_map, AV.bare]
      congr 1
      · cases isMaskB n X <;> rfl
      · apply List.map_congr_left
        intro j hj
        simp only [List.mem_range] at hj
        simp only [Function.comp, cx, complX]
        rw [ble_blt]
        cases hb : Nat.blt j (n.toNat * n.toNat) with
        | false =>
          cases hm : isMaskB n X with
          | false => cases sp <;> simp [AV.bare, plus_zero]
          | true =>
            have := wave_tail (isMaskB_wave hm) hj hb
            cases sp <;> simp [AV.bare, this]
        | true => cases hm : isMaskB n X <;> simp [AV.bare, plus_zero]
    · rw [isMaskB_re]
      cases isMaskB n X <;> rfl
  · have hs : sideB n = false := by simpa using hs
    have hm := (noSide_mask (X := X) hs).1
    refine ((call_of_join tabKN_sound (compl_no f hf n X) (by simp [allT, hs]) (by simp [belowL, wvT_below]) H).deep (args' := [wv n X]) rfl).weaken fun σ x r => ?_
    unfold complR
    rw [hm]
    exact zero_wave (fun j => by simp [complX, hm]) rfl r
end Go.Ax

/- spec.l03Behind: what of a wave is behind a mask. -/
namespace Go.Ax
open Go Go.Proofs

/-- Memory's cells, tags aside. -/
def hbL : List AB → Option (List (Bool × List AV))
  | [] => some []
  | .cells r (.lit l) :: H => match hbL H with
    | some x => some ((r, l.map AV.bare) :: x)
    | none => none
  | _ :: _ => none
theorem hbL_heq : ∀ {H G : List AB} {x : List (Bool × List AV)}, hbL H = some x → hbL G = some x → HEq H G
  | [], [], x, _, _ => HEq.refl []
  | [], .cells r (.lit l) :: G, x, h, g => by
    simp only [hbL] at h g
    cases h
    split at g <;> cases g
  | .cells r (.lit l) :: H, [], x, h, g => by
    simp only [hbL] at h g
    cases g
    split at h <;> cases h
  | .cells r (.lit l) :: H, .cells r' (.lit l') :: G, x, h, g => by
    simp only [hbL] at h g
    split at h <;> cases h
    rename_i y hy
    split at g <;> simp only [Option.some.injEq, List.cons.injEq, Prod.mk.injEq, reduceCtorEq] at g
    rename_i y' hy'
    obtain ⟨⟨rfl, hl⟩, rfl⟩ := g
    exact HEq.cons (blk_bare hl.symm) (hbL_heq hy hy')
  | .dead :: _, _, x, h, _ => by cases h
  | .code _ _ :: _, _, x, h, _ => by cases h
  | .cells _ (.f32 _) :: _, _, x, h, _ => by cases h
  | .cells _ (.c64 _) :: _, _, x, h, _ => by cases h
  | .cells _ (.ints _ _) :: _, _, x, h, _ => by cases h
  | .cells _ (.strs _) :: _, _, x, h, _ => by cases h
  | _, .dead :: _, x, _, h => by cases h
  | _, .code _ _ :: _, x, _, h => by cases h
  | _, .cells _ (.f32 _) :: _, x, _, h => by cases h
  | _, .cells _ (.c64 _) :: _, x, _, h => by cases h
  | _, .cells _ (.ints _ _) :: _, x, _, h => by cases h
  | _, .cells _ (.strs _) :: _, x, _, h => by cases h
noncomputable def lfB (M : List Bool) (r : Res) : Bool × List Item × List AV × Option (List (Bool × List AV)) × List Bool := (r.isStop, r.todo, bareBlur M r.tOf, hbL r.HOf, r.nds)

def bX (X Y : Nat → Nat × Nat) (j i : Nat) : Nat × Nat := cond (Nat.blt i j && zC (Y i)) (0, 0) (X i)
def bXc (X Y : Nat → Nat × Nat) (j : Nat) (b : Bool) (i : Nat) : Nat × Nat := match Nat.beq i j with
  | true => cond b (0, 0) (X i)
  | false => bX X Y j i
theorem bXc_eq (X Y : Nat → Nat × Nat) (j : Nat) : bXc X Y j (zC (Y j)) = bX X Y (j + 1) := funext fun i => by
  unfold bXc
  split
  · rename_i h
    have := Nat.eq_of_beq_eq_true h
    subst this
    have hb : Nat.blt i (i + 1) = true := by
      cases h : Nat.blt i (i + 1) with
      | true => rfl
      | false => have := blt_false h; omega
    unfold bX
    rw [hb]; rfl
  · rename_i h
    have hne : i ≠ j := fun e => by subst e; simp at h
    have hb : Nat.blt i (j + 1) = Nat.blt i j := by
      cases h1 : Nat.blt i (j + 1) with
      | true => cases h2 : Nat.blt i j with
        | true => rfl
        | false => have := blt_true h1; have := blt_false h2; omega
      | false => cases h2 : Nat.blt i j with
        | true => have := blt_false h1; have := blt_true h2; omega
        | false => rfl
    unfold bX
    rw [hb]
noncomputable def bhC : Code := Try.f213.body.getD .skip
noncomputable def bh0 (n m : Int) (X Y : Nat → Nat × Nat) : Res := cupto Try.prog tabX atLoop 100 [.code bhC] (wv n X :: wv m Y :: undefs 17) []
noncomputable def bhL : List Item := (bh0 0 0 (fun _ => (0, 0)) (fun _ => (0, 0))).todo
noncomputable def bhR : List Item := toLp bhL
theorem bhR_eq : toLp bhR = bhR := by kernel_rfl
def zB0 : AB := .cells true (.lit (.i true .i64 0 :: List.replicate 64 (.c true .f32 0 0)))
def bhH (n m : Int) (X Y : Nat → Nat × Nat) : List AB := [.cells true (.lit (waveL n X)), .cells true (.lit (waveL m Y)), zB0]
def bhT (j : Nat) : List AV := [.any, .any, .p true 0 0, .p true 1 0, .p true 2 0, .i true .i64 (Int.ofNat j)] ++ List.replicate 13 .any
def bhM : List Bool := [true, true, false, false, false, false] ++ List.replicate 13 true
noncomputable def bhU (n m : Int) (X Y : Nat → Nat × Nat) (j : Nat) : Res := cupto Try.prog tabX atLoop 100 bhR (bhT j) (bhH n m (bX X Y j) Y)
theorem bh0_ok (n m : Int) (X Y : Nat → Nat × Nat) : lfB bhM (bh0 n m X Y) = (true, bhL, (bhT 0).map AV.bare, hbL (bhH n m (bX X Y 0) Y), []) := by kernel_rfl
theorem bh_step (n m : Int) (X Y : Nat → Nat × Nat) : ((List.range 64).map fun j => (condsP (bhU n m X Y j) [true], lfB bhM ((bhU n m X Y j).at [true]), condsP (bhU n m X Y j) [false], lfB bhM ((bhU n m X Y j).at [false]))) =
    (List.range 64).map fun j => ([zC (Y j)], (true, bhR, (bhT (j + 1)).map AV.bare, hbL (bhH n m (bXc X Y j true) Y), []), [!zC (Y j)], (true, bhR, (bhT (j + 1)).map AV.bare, hbL (bhH n m (bXc X Y j false) Y), [])) := by kernel_rfl
theorem bh_end (n m : Int) (X Y : Nat → Nat × Nat) : (endOf Try.prog Try.f213.results.toList (bhU n m X Y 64)).map (fun r => (r.1, r.2.2)) = some (some ([wv n (bX X Y 64)], []), []) := by kernel_rfl
theorem bh_go (n m : Int) (X Y : Nat → Nat × Nat) : ∀ (k j : Nat), j + k = 64 → ∀ L, toLp L = bhR → ∃ t H, Ends Try.prog L (bhT j) (bhH n m (bX X Y j) Y) t H ∧ resV Try.prog t H Try.f213.results.toList = some ([wv n (bX X Y 64)], [])
  | 0, j, hj, L, hL => by
    have : j = 64 := by omega
    subst this
    have hU : cupto Try.prog tabX atLoop 100 L (bhT 64) (bhH n m (bX X Y 64) Y) = bhU n m X Y 64 := by unfold bhU; rw [← hL, cupto_toLp]
    have he := bh_end n m X Y
    cases hr : endOf Try.prog Try.f213.results.toList (bhU n m X Y 64) with
    | none => rw [hr] at he; cases he
    | some z =>
      obtain ⟨x, H, nd⟩ := z
      rw [hr] at he
      simp only [Option.map_some, Option.some.injEq, Prod.mk.injEq] at he
      obtain ⟨rfl, rfl⟩ := he
      obtain ⟨t, e1, e2⟩ := endOf_ends (T := tabX) (stop := atLoop) (n := 100) (todo := L) (t0 := bhT 64) (H0 := bhH n m (bX X Y 64) Y) tabX_sound hr (by rw [hU]) rfl
      exact ⟨t, H, e1, e2⟩
  | k + 1, j, hj, L, hL => by
    have hU : cupto Try.prog tabX atLoop 100 L (bhT j) (bhH n m (bX X Y j) Y) = bhU n m X Y j := by unfold bhU; rw [← hL, cupto_toLp]
    have h := map_mem (bh_step n m X Y) (x := j) (by simp; omega)
    simp only [Prod.mk.injEq] at h
    obtain ⟨c1, l1, c2, l2⟩ := h
    obtain ⟨t, H, e1, e2⟩ := bh_go n m X Y k (j + 1) (by omega) bhR bhR_eq
    have next : ∀ b : Bool, allT (condsP (bhU n m X Y j) [b]) = true → zC (Y j) = b → lfB bhM ((bhU n m X Y j).at [b]) = (true, bhR, (bhT (j + 1)).map AV.bare, hbL (bhH n m (bXc X Y j b) Y), []) → Reach Try.prog L (bhT j) (bhH n m (bX X Y j) Y) bhR (bhT (j + 1)) (bhH n m (bX X Y (j + 1)) Y) := fun b hc hz hl => by
      simp only [lfB, Prod.mk.injEq] at hl
      obtain ⟨a1, a2, a3, a4, a5⟩ := hl
      have hs := isStop_at a1 hc
      rw [← hU] at hs
      have hr := cupto_reach tabX_sound hs (by rw [hU, a5]; rfl)
      rw [hU, a2] at hr
      have hr := (hr.weak (blur_eqv bhM _)).weak (eqv_of_bare (t' := bhT (j + 1)) a3)
      rw [← bXc_eq, hz]
      exact hr.post (hbL_heq a4 rfl)
    cases hz : zC (Y j) with
    | true => exact ⟨t, H, (next true (by rw [c1, hz]; rfl) hz l1).ends e1, e2⟩
    | false => exact ⟨t, H, (next false (by rw [c2, hz]; rfl) hz l2).ends e1, e2⟩
def behX (X Y : Nat → Nat × Nat) (i : Nat) : Nat × Nat := cond (zC (Y i)) (0, 0) (X i)
theorem bX_end (X Y : Nat → Nat × Nat) (n : Int) : wv n (bX X Y 64) = wv n (behX X Y) := by
  unfold wv waveL
  congr 2
theorem behind_ok (n m : Int) (X Y : Nat → Nat × Nat) (H : List AB) : CallOK Try.prog 213 [wv n X, wv m Y] H (wv n (behX X Y)) H := by
  have h := bh0_ok n m X Y
  simp only [lfB, Prod.mk.injEq] at h
  obtain ⟨a1, a2, a3, a4, a5⟩ := h
  have hr := one_reach (stop := atLoop) (n := 100) (todo := [.code bhC]) (t0 := wv n X :: wv m Y :: undefs 17) (H0 := []) (r := bh0 n m X Y) tabX_sound rfl a1 (by rw [a5]; rfl)
  rw [a2] at hr
  have hr := ((hr.weak (blur_eqv bhM _)).weak (eqv_of_bare (t' := bhT 0) a3)).post (hbL_heq (G := bhH n m (bX X Y 0) Y) a4 rfl)
  obtain ⟨t, H', e1, e2⟩ := bh_go n m X Y 64 0 rfl bhL rfl
  have hb : Try.f213.body = some bhC := rfl
  have hcall : CallOK Try.prog 213 [wv n X, wv m Y] [] (wv n (bX X Y 64)) H' := call_of_ends (args := [wv n X, wv m Y]) (m := []) Try.func213 hb (hr.ends e1) e2 rfl
  rw [bX_end] at hcall
  exact hcall.lift (wv_low _ _) (by simp [belowL, wv_low]) H rfl
noncomputable def gBehind : List AV → Option (AV × List Bool)
  | [.agg l, .agg l'] => match ofW l, ofW l' with
    | some (n, X), some (_, Y) => match l with
      | .i t _ _ :: _ => some (.agg (.i t .i64 n :: (List.range 64).map (cx (behX X Y))), [])
      | _ => none
    | _, _ => none
  | _ => none
theorem wv_tag {t : Bool} {n : Int} {X : Nat → Nat × Nat} {σ : List (Nat × Nat)} {x : Value} (r : Rel σ (wv n X) x) : Rel σ (.agg (.i t .i64 n :: (List.range 64).map (cx X))) x :=
  agg_bare (l := waveL n X) (l' := .i t .i64 n :: (List.range 64).map (cx X)) rfl r
theorem behind_at : SoundAt Try.prog 213 (pureT gBehind) := fun args H nd K => by
  refine pureT_sound (fun args v n h hn H => ?_) args H nd K
  unfold gBehind at h
  split at h <;> (try (cases h; done))
  rename_i l l'
  split at h <;> (try (cases h; done))
  rename_i n0 X0 n1 Y0 h1 h2
  split at h <;> cases h
  exact ((behind_ok n0 n1 X0 Y0 H).deep (by simp only [List.map_cons, ofW_spec h1, ofW_spec h2])).weaken fun σ x r => wv_tag r
/-- Waves with a side that is told, or with none that is a side. -/
noncomputable def gMask2 (g : Int → (Nat → Nat × Nat) → Bool) : List AV → Option (AV × List Bool)
  | [.agg (.i t k n :: l)] => match ofW (.i t k n :: l) with
    | some (n, X) => match t with
      | true => some (.b false (g n X), [])
      | false => some (.b true false, [!sideB n])
    | none => none
  | _ => none
theorem mask2_at {f : FuncId} {g : Int → (Nat → Nat × Nat) → Bool} (hg : ∀ n X, sideB n = false → g n X = false) (h0 : ∀ n X H, CallOK Try.prog f [wv n X] H (.b false (g n X)) H) : SoundAt Try.prog f (pureT (gMask2 g)) := fun args H nd K => by
  refine pureT_sound (fun args v n h hn H => ?_) args H nd K
  unfold gMask2 at h
  split at h <;> (try (cases h; done))
  split at h <;> (try (cases h; done))
  rename_i t k n1 l _ n0 X0 hl
  have hc := (h0 n0 X0 H).deep (args' := [.agg (.i t k n1 :: l)]) (by simp only [List.map_cons, ofW_spec hl])
  split at h <;> cases h
  · exact hc
  · simp only [allT, Bool.and_true, Bool.not_eq_true'] at hn
    rw [hg n0 X0 hn] at hc
    exact hc.weaken fun σ x r => by cases r; exact .b _
noncomputable def rowsV : List (FuncId × Table) := [(213, pureT gBehind), (29, pureT (gMask2 isMaskB)), (121, pureT (gMask2 isMaskB)), (18, pureT (gMask2 isWaveB)), (208, pureT (gMask2 isWaveB))]
theorem rowsV_at : ∀ p ∈ rowsV, SoundAt Try.prog p.1 p.2 := fun p hp => by
  simp only [rowsV, List.mem_cons, List.not_mem_nil, or_false] at hp
  rcases hp with rfl | rfl | rfl | rfl | rfl
  · exact behind_at
  · exact mask2_at (fun n X h => (noSide_mask h).1) implIs_ok
  · exact mask2_at (fun n X h => (noSide_mask h).1) specIs_ok
  · exact mask2_at (fun n X h => (noSide_mask (X := X) h).2) (is_ok 18 (.inl rfl))
  · exact mask2_at (fun n X h => (noSide_mask (X := X) h).2) (is_ok 208 (.inr rfl))
noncomputable def tabV : Table := tabOf (cdeep Try.prog rowsV [] 3000 8)
theorem tabV_sound : SoundT Try.prog tabV := cdeep_sound rowsV_at 8
end Go.Ax

/- impl.UnionOf, IntersectionOf, BehindMask: what they come to. -/
namespace Go.Ax
open Go Go.Proofs

/-- By the tests of two waves. -/
def twoW {α : Type} (g : Bool) (g' : Bool) (e : Bool) (bad mix ok : α) : α := cond (!g) bad (cond (!g') bad (cond (!e) mix ok))
def pairV (N : Nat) (n : Int) (g g' e : Bool) (Z : Nat → Nat × Nat) : AV :=
  .tup [.agg (.i false .i64 (twoW g g' e 0 0 n) :: (List.range 64).map fun j => match Nat.ble N j with
    | true => .c true .f32 0 0
    | false => .c false .f32 (plusF (twoW g g' e 0 0 (Z j).1)) (plusF (twoW g g' e 0 0 (Z j).2))), .i false .i64 (twoW g g' e 1 2 0)]
def unZ (X Y : Nat → Nat × Nat) (j : Nat) : Nat × Nat := (cond (cond (oC (X j)) true (oC (Y j))) oneF 0, cond (cond (oC (X j)) true (oC (Y j))) 0 0)
def inZ (X Y : Nat → Nat × Nat) (j : Nat) : Nat × Nat := (cond (cond (oC (X j)) (oC (Y j)) false) oneF 0, cond (cond (oC (X j)) (oC (Y j)) false) 0 0)
def beZ (X Y : Nat → Nat × Nat) (j : Nat) : Nat × Nat := (cond (zC (Y j)) 0 (X j).1, cond (zC (Y j)) 0 (X j).2)
theorem union_run (N : Nat) (n m : Int) (hn : (N, n) ∈ doNs) (X Y : Nat → Nat × Nat) : joinR 0 (tabK 25 [wvT true n X, wvT false m Y] [] [] fun v H nd => .ret v H nd) = some (pairV N n (isMaskB n (reX X)) (isMaskB m (reX Y)) (eqQ false n m) (unZ X Y), []) := by
  simp only [doNs, List.mem_cons, Prod.mk.injEq, List.not_mem_nil, or_false] at hn
  rcases hn with ⟨rfl, rfl⟩ | ⟨rfl, rfl⟩ | ⟨rfl, rfl⟩ | ⟨rfl, rfl⟩ <;> kernel_rfl
theorem inter_run (N : Nat) (n m : Int) (hn : (N, n) ∈ doNs) (X Y : Nat → Nat × Nat) : joinR 0 (tabK 27 [wvT true n X, wvT false m Y] [] [] fun v H nd => .ret v H nd) = some (pairV N n (isMaskB n (reX X)) (isMaskB m (reX Y)) (eqQ false n m) (inZ X Y), []) := by
  simp only [doNs, List.mem_cons, Prod.mk.injEq, List.not_mem_nil, or_false] at hn
  rcases hn with ⟨rfl, rfl⟩ | ⟨rfl, rfl⟩ | ⟨rfl, rfl⟩ | ⟨rfl, rfl⟩ <;> kernel_rfl
theorem beh_run (N : Nat) (n m : Int) (hn : (N, n) ∈ doNs) (X Y : Nat → Nat × Nat) : joinR 0 (tabK 35 [wvT true n X, wvT false m Y] [] [] fun v H nd => .ret v H nd) = some (pairV N n (isWaveB n (reX X)) (isMaskB m (reX Y)) (eqQ false n m) (beZ X Y), []) := by
  simp only [doNs, List.mem_cons, Prod.mk.injEq, List.not_mem_nil, or_false] at hn
  rcases hn with ⟨rfl, rfl⟩ | ⟨rfl, rfl⟩ | ⟨rfl, rfl⟩ | ⟨rfl, rfl⟩ <;> kernel_rfl
theorem two_no (f : FuncId) (hf : f = 25 ∨ f = 26 ∨ f = 27 ∨ f = 28 ∨ f = 35 ∨ f = 36) (n m : Int) (X Y : Nat → Nat × Nat) : joinR 0 (tabV f [wvT false n X, wvT false m Y] [] [] fun v H nd => .ret v H nd) = some (zeroV 1, [!sideB n]) := by
  rcases hf with rfl | rfl | rfl | rfl | rfl | rfl <;> kernel_rfl
end Go.Ax

/- impl.UnionOf, IntersectionOf, BehindMask: contracts. -/
namespace Go.Ax
open Go Go.Proofs

def pairX (n : Int) (g g' e : Bool) (Z : Nat → Nat × Nat) (j : Nat) : Nat × Nat := match (g && (g' && e)) && Nat.blt j (n.toNat * n.toNat) with
  | true => (plusF (Z j).1, plusF (Z j).2)
  | false => (0, 0)
def pairR (n : Int) (g g' e : Bool) (Z : Nat → Nat × Nat) : AV := .tup [wv (twoW g g' e 0 0 n) (pairX n g g' e Z), .i false .i64 (twoW g g' e 1 2 0)]
theorem pair_rel {n : Int} {g g' e : Bool} {Z : Nat → Nat × Nat} {σ : List (Nat × Nat)} {x : Value} (r : Rel σ (pairV (n.toNat * n.toNat) n g g' e Z) x) : Rel σ (pairR n g g' e Z) x := by
  unfold pairV at r
  refine tup2_weak (l' := waveL (twoW g g' e 0 0 n) (pairX n g g' e Z)) (c' := .i false .i64 (twoW g g' e 1 2 0)) ?_ rfl r
  simp only [waveL, List.map_cons, List.map_map, AV.bare]
  congr 1
  apply List.map_congr_left
  intro j _
  simp only [Function.comp, cx, pairX]
  rw [ble_blt]
  cases hb : Nat.blt j (n.toNat * n.toNat) with
  | false => simp [AV.bare]
  | true => cases g <;> cases g' <;> cases e <;> simp [AV.bare, twoW, plus_zero]
theorem pair_zero {n : Int} {g' e : Bool} {Z : Nat → Nat × Nat} {σ : List (Nat × Nat)} {x : Value} (r : Rel σ (zeroV 1) x) : Rel σ (pairR n false g' e Z) x :=
  zero_wave (n := 0) (fun j => by simp [pairX]) rfl r
theorem pair_call {f : FuncId} {g : Int → (Nat → Nat × Nat) → Bool} (hg : ∀ n X, g n (reX X) = g n X) (hg0 : ∀ n X, sideB n = false → g n X = false) (hf : f = 25 ∨ f = 26 ∨ f = 27 ∨ f = 28 ∨ f = 35 ∨ f = 36) {Z : (Nat → Nat × Nat) → (Nat → Nat × Nat) → Nat → Nat × Nat}
    (hr : ∀ (N : Nat) (n m : Int), (N, n) ∈ doNs → ∀ (X Y : Nat → Nat × Nat), joinR 0 (tabK f [wvT true n X, wvT false m Y] [] [] fun v H nd => .ret v H nd) = some (pairV N n (g n (reX X)) (isMaskB m (reX Y)) (eqQ false n m) (Z X Y), []))
    (n m : Int) (X Y : Nat → Nat × Nat) (H : List AB) : CallOK Try.prog f [wv n X, wv m Y] H (pairR n (g n X) (isMaskB m Y) (eqQ false n m) (Z X Y)) H := by
  by_cases hs : sideB n = true
  · have h := (call_of_join tabK_sound (hr _ n m (side_cases hs) X Y) rfl (by simp [belowL, wvT_below]) H).deep (args' := [wv n X, wv m Y]) rfl
    rw [hg, isMaskB_re] at h
    exact h.weaken fun σ x r => pair_rel r
  · have hs : sideB n = false := by simpa using hs
    have h := (call_of_join tabV_sound (two_no f hf n m X Y) (by simp [allT, hs]) (by simp [belowL, wvT_below]) H).deep (args' := [wv n X, wv m Y]) rfl
    rw [hg0 n X hs]
    exact h.weaken fun σ x r => pair_zero r
theorem union_ok (n m : Int) (X Y : Nat → Nat × Nat) (H : List AB) : CallOK Try.prog 25 [wv n X, wv m Y] H (pairR n (isMaskB n X) (isMaskB m Y) (eqQ false n m) (unZ X Y)) H :=
  pair_call (g := isMaskB) (fun _ _ => isMaskB_re) (fun _ _ h => (noSide_mask h).1) (.inl rfl) (fun N n m hn X Y => union_run N n m hn X Y) n m X Y H
theorem inter_ok (n m : Int) (X Y : Nat → Nat × Nat) (H : List AB) : CallOK Try.prog 27 [wv n X, wv m Y] H (pairR n (isMaskB n X) (isMaskB m Y) (eqQ false n m) (inZ X Y)) H :=
  pair_call (g := isMaskB) (fun _ _ => isMaskB_re) (fun _ _ h => (noSide_mask h).1) (.inr (.inr (.inl rfl))) (fun N n m hn X Y => inter_run N n m hn X Y) n m X Y H
theorem behindMask_ok (n m : Int) (X Y : Nat → Nat × Nat) (H : List AB) : CallOK Try.prog 35 [wv n X, wv m Y] H (pairR n (isWaveB n X) (isMaskB m Y) (eqQ false n m) (beZ X Y)) H :=
  pair_call (g := isWaveB) (fun _ _ => isWaveB_re) (fun n X h => (noSide_mask (X := X) h).2) (.inr (.inr (.inr (.inr (.inl rfl))))) (fun N n m hn X Y => beh_run N n m hn X Y) n m X Y H
end Go.Ax

/- spec.UnionOf, IntersectionOf, BehindMask: what they come to. -/
namespace Go.Ax
open Go Go.Proofs

def twoI (g g' : Bool) (c : Int) : Int := cond (!g) 1 (cond (!g') 1 c)
def specV (n : Int) (g g' : Bool) (c : Int) (Z : Nat → Nat × Nat) : AV :=
  .tup [.agg (.i false .i64 (cond (!eqQ false (twoI g g' c) 0) 0 n) :: (List.range 64).map fun j => .c false .f32 (plusF (cond (!eqQ false (twoI g g' c) 0) 0 (Z j).1)) (plusF (cond (!eqQ false (twoI g g' c) 0) 0 (Z j).2))), .i false .i64 (cond (!eqQ false (twoI g g' c) 0) (twoI g g' c) 0)]
def comX (N : Nat) (X : Nat → Nat × Nat) (j : Nat) : Nat × Nat := match Nat.ble N j with
  | true => X j
  | false => (fsub .f32 oneF (X j).1, fsub .f32 0 (X j).2)
theorem sinter_run (N N' : Nat) (n m : Int) (hn : (N, n) ∈ doNs) (hm : (N', m) ∈ doNs) (X Y : Nat → Nat × Nat) : joinR 0 (tabV 28 [wvT true n X, wvT true m Y] [] [] fun v H nd => .ret v H nd) = some (specV n (isMaskB n (reX X)) (isMaskB m (reX Y)) (cond (n == m) 0 2) (behX (reX X) (reX Y)), []) := by
  simp only [doNs, List.mem_cons, Prod.mk.injEq, List.not_mem_nil, or_false] at hn hm
  rcases hn with ⟨rfl, rfl⟩ | ⟨rfl, rfl⟩ | ⟨rfl, rfl⟩ | ⟨rfl, rfl⟩ <;> rcases hm with ⟨rfl, rfl⟩ | ⟨rfl, rfl⟩ | ⟨rfl, rfl⟩ | ⟨rfl, rfl⟩ <;> kernel_rfl
theorem sunion_run (N N' : Nat) (n m : Int) (hn : (N, n) ∈ doNs) (hm : (N', m) ∈ doNs) (X Y : Nat → Nat × Nat) : joinR 0 (tabV 26 [wvT true n X, wvT true m Y] [] [] fun v H nd => .ret v H nd) = some (specV n (isMaskB n (reX X)) (isMaskB m (reX Y)) (cond (n == m) 0 2) (comX N (behX (reX (comX N X)) (reX (comX N' Y)))), []) := by
  simp only [doNs, List.mem_cons, Prod.mk.injEq, List.not_mem_nil, or_false] at hn hm
  rcases hn with ⟨rfl, rfl⟩ | ⟨rfl, rfl⟩ | ⟨rfl, rfl⟩ | ⟨rfl, rfl⟩ <;> rcases hm with ⟨rfl, rfl⟩ | ⟨rfl, rfl⟩ | ⟨rfl, rfl⟩ | ⟨rfl, rfl⟩ <;> kernel_rfl
def sbehV (n : Int) (g g' : Bool) (Z : Nat → Nat × Nat) : AV :=
  .tup [.agg (.i false .i64 (cond (!g) 0 (cond (!g') 0 n)) :: (List.range 64).map fun j => .c false .f32 (plusF (cond (!g) 0 (cond (!g') 0 (Z j).1))) (plusF (cond (!g) 0 (cond (!g') 0 (Z j).2)))), .i false .i64 (twoI g g' 0)]
theorem sbeh_run (N : Nat) (n : Int) (hn : (N, n) ∈ doNs) (X Y : Nat → Nat × Nat) : joinR 0 (tabV 36 [wvT true n X, wvT true n Y] [] [] fun v H nd => .ret v H nd) = some (sbehV n (isWaveB n (reX X)) (isMaskB n (reX Y)) (behX (reX X) (reX Y)), []) := by
  simp only [doNs, List.mem_cons, Prod.mk.injEq, List.not_mem_nil, or_false] at hn
  rcases hn with ⟨rfl, rfl⟩ | ⟨rfl, rfl⟩ | ⟨rfl, rfl⟩ | ⟨rfl, rfl⟩ <;> kernel_rfl
end Go.Ax

/- spec.UnionOf, IntersectionOf, BehindMask, where the second side is none, or another one. -/
namespace Go.Ax
open Go Go.Proofs

theorem half_no (f : FuncId) (g : Int → (Nat → Nat × Nat) → Bool) (hf : f = 36 ∧ g = isWaveB) (N : Nat) (n m : Int) (hn : (N, n) ∈ doNs) (X Y : Nat → Nat × Nat) : joinR 0 (tabV f [wvT true n X, wvT false m Y] [] [] fun v H nd => .ret v H nd) = some (zeroV 1, [cond (!!g n (reX X)) (!sideB m) true]) := by
  simp only [doNs, List.mem_cons, Prod.mk.injEq, List.not_mem_nil, or_false] at hn
  obtain ⟨rfl, rfl⟩ := hf
  rcases hn with ⟨rfl, rfl⟩ | ⟨rfl, rfl⟩ | ⟨rfl, rfl⟩ | ⟨rfl, rfl⟩ <;> kernel_rfl
theorem half_no2 (f : FuncId) (hf : f = 26 ∨ f = 28) (N : Nat) (n m : Int) (hn : (N, n) ∈ doNs) (X Y : Nat → Nat × Nat) : joinR 0 (tabV f [wvT true n X, wvT false m Y] [] [] fun v H nd => .ret v H nd) = some (zeroV 1, [cond (!!isMaskB n (reX X)) (!sideB m) true]) := by
  simp only [doNs, List.mem_cons, Prod.mk.injEq, List.not_mem_nil, or_false] at hn
  rcases hf with rfl | rfl <;> rcases hn with ⟨rfl, rfl⟩ | ⟨rfl, rfl⟩ | ⟨rfl, rfl⟩ | ⟨rfl, rfl⟩ <;> kernel_rfl
theorem sbeh_off (N N' : Nat) (n m : Int) (hn : (N, n) ∈ doNs) (hm : (N', m) ∈ doNs) (hne : (n == m) = false) (X Y : Nat → Nat × Nat) : joinR 0 (tabV 36 [wvT true n X, wvT true m Y] [] [] fun v H nd => .ret v H nd) = some (.tup [.agg (.i true .i64 0 :: List.replicate 64 (.c true .f32 0 0)), .i false .i64 (twoI (isWaveB n (reX X)) (isMaskB m (reX Y)) 2)], []) := by
  simp only [doNs, List.mem_cons, Prod.mk.injEq, List.not_mem_nil, or_false] at hn hm
  rcases hn with ⟨rfl, rfl⟩ | ⟨rfl, rfl⟩ | ⟨rfl, rfl⟩ | ⟨rfl, rfl⟩ <;> rcases hm with ⟨rfl, rfl⟩ | ⟨rfl, rfl⟩ | ⟨rfl, rfl⟩ | ⟨rfl, rfl⟩ <;> first | (exfalso; revert hne; decide) | kernel_rfl
end Go.Ax

/- spec.UnionOf, IntersectionOf, BehindMask: contracts. -/
namespace Go.Ax
open Go Go.Proofs

theorem spec_rel {n : Int} {g g' e : Bool} {Z Z' : Nat → Nat × Nat} {σ : List (Nat × Nat)} {x : Value} (hZ : g = true → g' = true → e = true → ∀ j, j < 64 → Nat.blt j (n.toNat * n.toNat) = true → Z j = Z' j)
    (ht : g = true → g' = true → e = true → ∀ j, j < 64 → Nat.blt j (n.toNat * n.toNat) = false → plusF (Z j).1 = 0 ∧ plusF (Z j).2 = 0) (r : Rel σ (specV n g g' (cond e 0 2) Z) x) : Rel σ (pairR n g g' e Z') x := by
  unfold specV at r
  refine tup2_weak (l' := waveL (twoW g g' e 0 0 n) (pairX n g g' e Z')) (c' := .i false .i64 (twoW g g' e 1 2 0)) ?_ ?_ r
  · have e1 : cond (!eqQ false (twoI g g' (cond e 0 2)) 0) 0 n = twoW g g' e 0 0 n := by cases g <;> cases g' <;> cases e <;> rfl
    simp only [waveL, List.map_cons, List.map_map, AV.bare, e1]
    congr 1
    apply List.map_congr_left
    intro j hj
    have hj : j < 64 := by simpa using hj
    simp only [Function.comp, cx, pairX, AV.bare]
    have bad : ∀ b : Bool, (g && (g' && e)) = false → cond (!eqQ false (twoI g g' (cond e 0 2)) 0) 0 (Z j).1 = 0 ∧ cond (!eqQ false (twoI g g' (cond e 0 2)) 0) 0 (Z j).2 = 0 := fun _ hb => by
      cases g <;> cases g' <;> cases e <;> first | (cases hb; done) | exact ⟨rfl, rfl⟩
    cases hgg : (g && (g' && e)) with
    | false =>
      obtain ⟨b1, b2⟩ := bad true hgg
      rw [b1, b2]
      simp [plus_zero]
    | true =>
      simp only [Bool.and_eq_true] at hgg
      obtain ⟨rfl, rfl, rfl⟩ := hgg
      have c1 : ∀ z : Nat, cond (!eqQ false (twoI true true (cond true 0 2)) 0) 0 z = z := fun _ => rfl
      rw [c1, c1]
      cases hb : Nat.blt j (n.toNat * n.toNat) with
      | true => rw [hZ rfl rfl rfl j hj hb]; rfl
      | false =>
        obtain ⟨t1, t2⟩ := ht rfl rfl rfl j hj hb
        rw [t1, t2]; rfl
  · cases g <;> cases g' <;> cases e <;> rfl
theorem pair_zero2 {n : Int} {g e : Bool} {Z : Nat → Nat × Nat} {σ : List (Nat × Nat)} {x : Value} (r : Rel σ (zeroV 1) x) : Rel σ (pairR n g false e Z) x := by
  have := zero_wave (n := 0) (X := pairX n g false e Z) (c := 1) (fun j => by simp [pairX]) rfl r
  cases g <;> exact this
theorem eqQ_beq (n m : Int) : eqQ false n m = (n == m) := rfl
def sunZ (n : Int) (X Y : Nat → Nat × Nat) (j : Nat) : Nat × Nat := comX (n.toNat * n.toNat) (behX (comX (n.toNat * n.toNat) X) (comX (n.toNat * n.toNat) Y)) j
theorem behX_tail {n : Int} {X Y : Nat → Nat × Nat} (h : isWaveB n X = true) {j : Nat} (hj : j < 64) (hb : Nat.blt j (n.toNat * n.toNat) = false) : plusF (behX (reX X) (reX Y) j).1 = 0 ∧ plusF (behX (reX X) (reX Y) j).2 = 0 := by
  unfold behX
  cases zC (reX Y j) with
  | true => exact ⟨plus_zero, plus_zero⟩
  | false =>
    simp only [cond_false]
    rw [reX_eq hj]
    exact wave_tail h hj hb
theorem comX_big {N j : Nat} {X : Nat → Nat × Nat} (h : Nat.blt j N = false) : comX N X j = X j := by
  unfold comX
  rw [ble_blt, h]; rfl
theorem sinter_ok (n m : Int) (X Y : Nat → Nat × Nat) (H : List AB) : CallOK Try.prog 28 [wv n X, wv m Y] H (pairR n (isMaskB n X) (isMaskB m Y) (eqQ false n m) (behX X Y)) H := by
  by_cases hs : sideB n = true
  · by_cases hs' : sideB m = true
    · have h := (call_of_join tabV_sound (sinter_run _ _ n m (side_cases hs) (side_cases hs') X Y) rfl (by simp [belowL, wvT_below]) H).deep (args' := [wv n X, wv m Y]) rfl
      rw [isMaskB_re, isMaskB_re] at h
      refine h.weaken fun σ x r => spec_rel (fun _ _ _ j hj hb => ?_) (fun hg _ _ j hj hb => behX_tail (isMaskB_wave hg) hj hb) r
      unfold behX
      rw [reX_eq hj, reX_eq hj]
    · have hs' : sideB m = false := by simpa using hs'
      have h := (call_of_join tabV_sound (half_no2 28 (.inr rfl) _ n m (side_cases hs) X Y) (by rw [hs']; cases isMaskB n (reX X) <;> rfl) (by simp [belowL, wvT_below]) H).deep (args' := [wv n X, wv m Y]) rfl
      rw [(noSide_mask (X := Y) hs').1]
      exact h.weaken fun σ x r => pair_zero2 r
  · have hs : sideB n = false := by simpa using hs
    have h := (call_of_join tabV_sound (two_no 28 (by simp) n m X Y) (by simp [allT, hs]) (by simp [belowL, wvT_below]) H).deep (args' := [wv n X, wv m Y]) rfl
    rw [(noSide_mask (X := X) hs).1]
    exact h.weaken fun σ x r => pair_zero r
theorem sunion_ok (n m : Int) (X Y : Nat → Nat × Nat) (H : List AB) : CallOK Try.prog 26 [wv n X, wv m Y] H (pairR n (isMaskB n X) (isMaskB m Y) (eqQ false n m) (sunZ n X Y)) H := by
  by_cases hs : sideB n = true
  · by_cases hs' : sideB m = true
    · have h := (call_of_join tabV_sound (sunion_run _ _ n m (side_cases hs) (side_cases hs') X Y) rfl (by simp [belowL, wvT_below]) H).deep (args' := [wv n X, wv m Y]) rfl
      rw [isMaskB_re, isMaskB_re] at h
      refine h.weaken fun σ x r => spec_rel (fun _ _ he j hj hb => ?_) (fun hg _ _ j hj hb => ?_) r
      · rw [eqQ_beq, beq_iff_eq] at he
        subst he
        unfold sunZ comX behX
        rw [reX_eq hj, reX_eq hj]
      · rw [comX_big hb]
        unfold behX
        rw [reX_eq hj, reX_eq hj]
        cases zC (comX (m.toNat * m.toNat) Y j) with
        | true => exact ⟨plus_zero, plus_zero⟩
        | false =>
          simp only [cond_false]
          rw [comX_big hb]
          exact wave_tail (isMaskB_wave hg) hj hb
    · have hs' : sideB m = false := by simpa using hs'
      have h := (call_of_join tabV_sound (half_no2 26 (.inl rfl) _ n m (side_cases hs) X Y) (by rw [hs']; cases isMaskB n (reX X) <;> rfl) (by simp [belowL, wvT_below]) H).deep (args' := [wv n X, wv m Y]) rfl
      rw [(noSide_mask (X := Y) hs').1]
      exact h.weaken fun σ x r => pair_zero2 r
  · have hs : sideB n = false := by simpa using hs
    have h := (call_of_join tabV_sound (two_no 26 (by simp) n m X Y) (by simp [allT, hs]) (by simp [belowL, wvT_below]) H).deep (args' := [wv n X, wv m Y]) rfl
    rw [(noSide_mask (X := X) hs).1]
    exact h.weaken fun σ x r => pair_zero r
theorem sbeh_rel {n : Int} {g g' : Bool} {Z Z' : Nat → Nat × Nat} {σ : List (Nat × Nat)} {x : Value} (hZ : g = true → g' = true → ∀ j, j < 64 → Nat.blt j (n.toNat * n.toNat) = true → Z j = Z' j)
    (ht : g = true → g' = true → ∀ j, j < 64 → Nat.blt j (n.toNat * n.toNat) = false → plusF (Z j).1 = 0 ∧ plusF (Z j).2 = 0) (r : Rel σ (sbehV n g g' Z) x) : Rel σ (pairR n g g' true Z') x := by
  refine spec_rel (Z := Z) (fun h1 h2 _ => hZ h1 h2) (fun h1 h2 _ => ht h1 h2) ?_
  cases g <;> cases g' <;> exact r
theorem sbehMask_ok (n m : Int) (X Y : Nat → Nat × Nat) (H : List AB) : CallOK Try.prog 36 [wv n X, wv m Y] H (pairR n (isWaveB n X) (isMaskB m Y) (eqQ false n m) (behX X Y)) H := by
  by_cases hs : sideB n = true
  · by_cases hs' : sideB m = true
    · by_cases hnm : n = m
      · subst hnm
        have h := (call_of_join tabV_sound (sbeh_run _ n (side_cases hs) X Y) rfl (by simp [belowL, wvT_below]) H).deep (args' := [wv n X, wv n Y]) rfl
        rw [isMaskB_re, isWaveB_re] at h
        have he : eqQ false n n = true := by rw [eqQ_beq]; simp
        rw [he]
        refine h.weaken fun σ x r => sbeh_rel (fun _ _ j hj hb => ?_) (fun hg _ j hj hb => behX_tail hg hj hb) r
        unfold behX
        rw [reX_eq hj, reX_eq hj]
      · have hne : (n == m) = false := by simpa using hnm
        have h := (call_of_join tabV_sound (sbeh_off _ _ n m (side_cases hs) (side_cases hs') hne X Y) rfl (by simp [belowL, wvT_below]) H).deep (args' := [wv n X, wv m Y]) rfl
        rw [isMaskB_re, isWaveB_re] at h
        rw [eqQ_beq, hne]
        refine h.weaken fun σ x r => ?_
        have := zero_wave (n := 0) (X := pairX n (isWaveB n X) (isMaskB m Y) false (behX X Y)) (c := twoI (isWaveB n X) (isMaskB m Y) 2) (fun j => by simp [pairX]) rfl (σ := σ) (x := x) (by
          unfold zeroV
          refine tup2_weak rfl ?_ r
          rfl)
        generalize isWaveB n X = g at this ⊢
        generalize isMaskB m Y = g' at this ⊢
        cases g <;> cases g' <;> exact this
    · have hs' : sideB m = false := by simpa using hs'
      have h := (call_of_join tabV_sound (half_no 36 isWaveB ⟨rfl, rfl⟩ _ n m (side_cases hs) X Y) (by rw [hs']; cases isWaveB n (reX X) <;> rfl) (by simp [belowL, wvT_below]) H).deep (args' := [wv n X, wv m Y]) rfl
      rw [(noSide_mask (X := Y) hs').1]
      exact h.weaken fun σ x r => pair_zero2 r
  · have hs : sideB n = false := by simpa using hs
    have h := (call_of_join tabV_sound (two_no 36 (by simp) n m X Y) (by simp [allT, hs]) (by simp [belowL, wvT_below]) H).deep (args' := [wv n X, wv m Y]) rfl
    rw [(noSide_mask (X := X) hs).2]
    exact h.weaken fun σ x r => pair_zero r
end Go.Ax

/- What is known of a call that reads some blocks holds in every memory that has these blocks somewhere. -/
namespace Go.Ax
open Go

mutual
/-- Names turned. -/
def mapV (g : Nat → Nat) : AV → AV
  | .p l id off => .p l (g id) off
  | .sl l id off len z => .sl l (g id) off len z
  | .fn h f c => .fn h (mapL g f) (mapL g c)
  | .ifc t v => .ifc t (mapV g v)
  | .agg l => .agg (mapL g l)
  | .tup l => .tup (mapL g l)
  | v => v
def mapL (g : Nat → Nat) : List AV → List AV
  | [] => []
  | a :: l => mapV g a :: mapL g l
end
def mapB (g : Nat → Nat) : AB → AB
  | .cells rw (.lit l) => .cells rw (.lit (mapL g l))
  | b => b
theorem mapL_map (g : Nat → Nat) : ∀ (l : List AV), mapL g l = l.map (mapV g)
  | [] => rfl
  | a :: l => by simp [mapL, mapL_map g l]
theorem mapB_rw (g : Nat → Nat) (B : AB) : (mapB g B).rw = B.rw ∧ (mapB g B).live = B.live := by
  cases B with
  | dead => exact ⟨rfl, rfl⟩
  | cells r A => cases A <;> exact ⟨rfl, rfl⟩
  | code _ _ => exact ⟨rfl, rfl⟩
section
variable {σ τ : List (Nat × Nat)} {g : Nat → Nat}
def Via (g : Nat → Nat) (σ τ : List (Nat × Nat)) : Prop := ∀ (i : Nat) (b : Nat × Nat), σ[i]? = some b → τ[g i]? = some b
mutual
theorem mapV_rel (u : Via g σ τ) : ∀ {a : AV} {v : Value}, Rel σ a v → Rel τ (mapV g a) v
  | _, _, .b x => .b x
  | _, _, .i k n => .i k n
  | _, _, .f h => .f h
  | _, _, .c h h' => .c h h'
  | _, _, .s l => .s l
  | _, _, .p h => .p (u _ _ h)
  | _, _, .pnil => .pnil
  | _, _, .sl h hc hz => .sl (u _ _ h) hc hz
  | _, _, .slz => .slz
  | _, _, .slnil => .slnil
  | _, _, .sle => .sle
  | _, _, .fn h h' => .fn (mapL_rel u h) (mapL_rel u h')
  | _, _, .fnil => .fnil
  | _, _, .ifc h => .ifc (mapV_rel u h)
  | _, _, .inil => .inil
  | _, _, .agg h => .agg (mapL_rel u h)
  | _, _, .tup h => .tup (mapL_rel u h)
  | _, _, .any => .any
theorem mapL_rel (u : Via g σ τ) : ∀ {a : List AV} {v : List Value}, RelL σ a v → RelL τ (mapL g a) v
  | _, _, .nil => .nil
  | _, _, .cons h hs => .cons (mapV_rel u h) (mapL_rel u hs)
end
/-- Values that name no block, pointers and slices: read back. -/
def plainV (n : Nat) : AV → Bool
  | .p _ id _ => decide (id < n)
  | .sl _ id _ _ _ => decide (id < n)
  | a => below 0 a
theorem below_free {σ τ : List (Nat × Nat)} {a : AV} {v : Value} (h : below 0 a = true) (r : Rel τ a v) : Rel σ a v := (below_rel (σ := []) (n := 0) (τ := τ) (fun i b hb => by simp at hb) rfl h r).mono fun i b hb => by simp at hb
mutual
theorem mapV_low (g : Nat → Nat) : ∀ {a : AV}, below 0 a = true → mapV g a = a
  | .b _ _, _ => rfl
  | .i _ _ _, _ => rfl
  | .f _ _ _, _ => rfl
  | .c _ _ _ _, _ => rfl
  | .s _ _, _ => rfl
  | .p _ id _, h => by simp [below] at h
  | .pnil, _ => rfl
  | .sl _ id _ _ _, h => by simp [below] at h
  | .slnil, _ => rfl
  | .sle, _ => rfl
  | .fn _ f c, h => by
    simp only [below, Bool.and_eq_true] at h
    simp only [mapV, mapL_low g h.1, mapL_low g h.2]
  | .fnil, _ => rfl
  | .ifc _ v, h => by
    simp only [below] at h
    simp only [mapV, mapV_low g h]
  | .inil, _ => rfl
  | .agg l, h => by
    simp only [below] at h
    simp only [mapV, mapL_low g h]
  | .tup l, h => by
    simp only [below] at h
    simp only [mapV, mapL_low g h]
  | .any, _ => rfl
theorem mapL_low (g : Nat → Nat) : ∀ {l : List AV}, belowL 0 l = true → mapL g l = l
  | [], _ => rfl
  | a :: l, h => by
    simp only [belowL, Bool.and_eq_true] at h
    simp only [mapL, mapV_low g h.1, mapL_low g h.2]
end
theorem mapV_back {n : Nat} (u : ∀ i, i < n → σ[i]? = τ[g i]?) {a : AV} {v : Value} (h : plainV n a = true) (r : Rel τ (mapV g a) v) : Rel σ a v := by
  cases a
  case p l id off =>
    simp only [plainV, decide_eq_true_eq] at h
    cases r with | p hr => exact .p (by rw [u id h]; exact hr)
  case sl l id off len z =>
    simp only [plainV, decide_eq_true_eq] at h
    cases r with
    | sl hr hc hz => exact .sl (by rw [u id h]; exact hr) hc hz
    | slz => exact .slz
  all_goals
    rw [mapV_low g h] at r
    exact below_free h r
theorem mapL_back {n : Nat} (u : ∀ i, i < n → σ[i]? = τ[g i]?) : ∀ {a : List AV} {v : List Value}, a.all (plainV n) = true → RelL τ (mapL g a) v → RelL σ a v
  | [], _, _, r => by cases r; exact .nil
  | a :: l, _, h, r => by
    simp only [List.all_cons, Bool.and_eq_true] at h
    simp only [mapL] at r
    cases r with | cons h1 h2 => exact .cons (mapV_back u h.1 h1) (mapL_back u h.2 h2)
theorem mapB_blk (u : Via g σ τ) {z : Nat} {B : AB} {o : Option Obj} (h : BlkRel σ z B o) : BlkRel τ z (mapB g B) o := by
  cases B with
  | dead => trivial
  | code _ _ => exact h
  | cells r A =>
    obtain ⟨c, e, fr, h1, h2, h3⟩ := h
    have key : RelA τ (match A with | .lit l => mapL g l | A => A.toL) c := by
      cases A
      case lit l =>
        intro j a ha
        dsimp only at ha
        rw [mapL_map, List.getElem?_map, Option.map_eq_some_iff] at ha
        obtain ⟨x, hx, rfl⟩ := ha
        obtain ⟨v, hv, hr⟩ := h2 j x hx
        exact ⟨v, hv, mapV_rel u hr⟩
      all_goals
        intro j a ha
        obtain ⟨v, hv, hr⟩ := h2 j a ha
        refine ⟨v, hv, below_free ?_ hr⟩
        simp only [Cells.toL, List.getElem?_map, Option.map_eq_some_iff] at ha
        obtain ⟨y, _, rfl⟩ := ha
        rfl
    cases A <;> exact ⟨c, e, fr, h1, key, h3⟩
end
/-- The name of a block among others: the ones that are read, and new ones. -/
def pickI (k r : Nat) (ids : List Nat) (i : Nat) : Nat :=
  match decide (i < k) with
  | true => ids.getD i 0
  | false => i - k + r
theorem pickI_lt {k r i : Nat} {ids : List Nat} (h : i < k) : pickI k r ids i = ids.getD i 0 := by simp [pickI, h]
theorem pickI_ge {k r i : Nat} {ids : List Nat} (h : k ≤ i) : pickI k r ids i = i - k + r := by simp [pickI, Nat.not_lt.2 h]
theorem getB_map (f : AB → AB) (hf : f .dead = .dead) : ∀ (l : List AB) (i : Nat), getB (l.map f) i = f (getB l i)
  | [], _ => hf.symm
  | _ :: _, 0 => rfl
  | _ :: l, i + 1 => getB_map f hf l i
variable {P : Program}
theorem CallOK.pick {f : FuncId} {args : List AV} {v : AV} {H0 H1 : List AB} (h : CallOK P f args H0 v H1) (hro : ∀ i, (getB H0 i).rw = false) (ha : args.all (plainV H0.length) = true) (ids : List Nat) (hid : ids.length = H0.length) (H : List AB)
    (hb : ∀ i, i < H0.length → ids.getD i 0 < H.length ∧ ∀ (σ τ : List (Nat × Nat)) (z : Nat) (o : Option Obj), BlkRel σ z (getB H (ids.getD i 0)) o → BlkRel τ z (getB H0 i) o) :
    CallOK P f (mapL (pickI H0.length H.length ids) args) H (mapV (pickI H0.length H.length ids) v) (H ++ (H1.drop H0.length).map (mapB (pickI H0.length H.length ids))) := fun σ w rargs s hra => by
  have hσl := s.len
  let σ0 := ids.map fun j => σ.getD j (0, 0)
  have hσ0 : σ0.length = H0.length := by simp [σ0, hid]
  have u0 : ∀ i, i < H0.length → σ0[i]? = σ[pickI H0.length H.length ids i]? := fun i hi => by
    rw [pickI_lt hi]
    have hlt := (hb i hi).1
    have hi' : i < ids.length := by omega
    simp only [σ0, List.getElem?_map, List.getElem?_eq_getElem hi', Option.map_some, List.getD_eq_getElem?_getD, Option.getD_some]
    rw [List.getD_eq_getElem?_getD, List.getElem?_eq_getElem hi', Option.getD_some] at hlt
    rw [List.getElem?_eq_getElem (by omega), Option.getD_some]
  have s0 : Sim σ0 H0 w := by
    refine ⟨hσ0, fun i b z hbz => ?_, fun i j b z z' hi hj hr _ => by rw [hro] at hr; cases hr⟩
    have hi : i < H0.length := by have := isSome_lt hbz; omega
    rw [u0 i hi, pickI_lt hi] at hbz
    exact (hb i hi).2 _ _ _ _ (s.blk _ _ _ hbz)
  refine (h σ0 w rargs s0 (mapL_back u0 ha hra)).mono ?_
  rintro e w' ⟨rv, rfl, σ1, r1, s1, F⟩
  have hold : ∀ b, b < w.heap.size → w'.heap[b]? = w.heap[b]? := fun b hb => F.old b hb fun i z hr => by rw [hro] at hr; cases hr
  have hk1 : H0.length ≤ σ1.length := by have := F.ext.length; omega
  have hl1 := s1.len
  have x1 : ∀ i, i < H0.length → σ1[i]? = σ0[i]? := fun i hi => by
    have hi' : i < σ0.length := by omega
    rw [F.ext i _ (List.getElem?_eq_getElem hi'), List.getElem?_eq_getElem hi']
  have tl : ∀ i, i < σ.length → (σ ++ σ1.drop H0.length)[i]? = σ[i]? := fun i hi => List.getElem?_append_left hi
  have tr : ∀ i, σ.length ≤ i → (σ ++ σ1.drop H0.length)[i]? = σ1[H0.length + (i - σ.length)]? := fun i hi => by
    rw [List.getElem?_append_right hi, List.getElem?_drop]
  have u : Via (pickI H0.length H.length ids) σ1 (σ ++ σ1.drop H0.length) := fun i b hbz => by
    by_cases hi : i < H0.length
    · have hlt := (hb i hi).1
      have e1 := u0 i hi
      rw [pickI_lt hi] at e1 ⊢
      rw [tl _ (by omega), ← e1, ← x1 i hi]; exact hbz
    · rw [pickI_ge (by omega), tr _ (by omega)]
      have : H0.length + (i - H0.length + H.length - σ.length) = i := by omega
      rw [this]; exact hbz
  have ge : ∀ i b z, H0.length ≤ i → σ1[i]? = some (b, z) → w.heap.size ≤ b := fun i b z hi hbz => by
    rcases F.new i b z hbz (List.getElem?_eq_none (by omega)) with h' | ⟨j, z', hj, _⟩
    · exact h'
    · rw [hro] at hj; cases hj
  have gl : ∀ i, i < H.length → getB (H ++ (H1.drop H0.length).map (mapB (pickI H0.length H.length ids))) i = getB H i := fun i hi => getB_append_left hi
  have gr : ∀ i, H.length ≤ i → getB (H ++ (H1.drop H0.length).map (mapB (pickI H0.length H.length ids))) i = mapB (pickI H0.length H.length ids) (getB H1 (H0.length + (i - σ.length))) := fun i hi => by
    rw [getB_append_right hi, getB_map _ rfl, getB_drop, hσl]
  refine ⟨_, rfl, σ ++ σ1.drop H0.length, mapV_rel u r1, ⟨?_, fun i b z hbz => ?_, fun i j b z z' hi hj hri hlj => ?_⟩, ⟨F.os, F.tape, F.output, F.size, fun b hlt _ => hold b hlt, Ext.append _ _, fun i b z hbz hn => ?_, fun i hi hr => ?_⟩⟩
  · simp; omega
  · by_cases hi : i < σ.length
    · rw [tl i hi] at hbz
      rw [gl i (by omega)]
      have hbl := (s.blk i b z hbz).mono (Ext.append σ (σ1.drop H0.length))
      cases hg : getB H i with
      | dead => trivial
      | cells r A =>
        rw [hold b (s.lt hbz (by rw [hg]; rfl)), ← hg]; exact hbl
      | code o xs =>
        rw [hold b (s.lt hbz (by rw [hg]; rfl)), ← hg]; exact hbl
    · rw [tr i (by omega)] at hbz
      rw [gr i (by omega)]
      exact mapB_blk u (s1.blk _ b z hbz)
  · by_cases hi' : i < σ.length
    · rw [tl i hi'] at hi
      rw [gl i (by omega)] at hri
      by_cases hj' : j < σ.length
      · rw [tl j hj'] at hj
        rw [gl j (by omega)] at hlj
        exact s.inj i j b z z' hi hj hri hlj
      · rw [tr j (by omega)] at hj
        have h1 := s.lt hi (rw_live hri)
        have h2 := ge _ _ _ (by omega) hj
        omega
    · rw [tr i (by omega)] at hi
      by_cases hj' : j < σ.length
      · rw [tl j hj'] at hj
        rw [gl j (by omega)] at hlj
        have h1 := s.lt hj hlj
        have h2 := ge _ _ _ (by omega) hi
        omega
      · rw [tr j (by omega)] at hj
        rw [gr i (by omega), (mapB_rw _ _).1] at hri
        rw [gr j (by omega), (mapB_rw _ _).2] at hlj
        have := s1.inj _ _ b z z' hi hj hri hlj
        omega
  · have hi : ¬ i < σ.length := fun hi => by
      rw [List.getElem?_eq_getElem hi] at hn; cases hn
    rw [tr i (by omega)] at hbz
    exact .inl (ge _ _ _ (by omega) hbz)
  · rwa [gl i (by omega)] at hr
end Go.Ax

/- Ways of straight code joined into one state. -/
namespace Go.Ax
open Go

/-! ### Values -/
def mergeA (b : Bool) (x y : AV) : AV :=
  match mergeV b x y with
  | some z => z
  | none => .any
theorem mergeA_left {σ : List (Nat × Nat)} {x y : AV} {v : Value} (r : Rel σ x v) : Rel σ (mergeA true x y) v := by
  unfold mergeA
  split
  · rename_i z hz; exact mergeV_left hz r
  · exact .any
theorem mergeA_right {σ : List (Nat × Nat)} {x y : AV} {v : Value} (r : Rel σ y v) : Rel σ (mergeA false x y) v := by
  unfold mergeA
  split
  · rename_i z hz; exact mergeV_right hz r
  · exact .any
def mergeAs (b : Bool) : List AV → List AV → List AV
  | x :: xs, y :: ys => mergeA b x y :: mergeAs b xs ys
  | _, _ => []
theorem mergeAs_len (b : Bool) : ∀ (xs ys : List AV), (mergeAs b xs ys).length ≤ xs.length ∧ (mergeAs b xs ys).length ≤ ys.length
  | [], _ => by simp [mergeAs]
  | _ :: _, [] => by simp [mergeAs]
  | x :: xs, y :: ys => by
    have := mergeAs_len b xs ys
    simp [mergeAs]; omega
theorem mergeAs_get (b : Bool) : ∀ (xs ys : List AV) (n : Nat), n < (mergeAs b xs ys).length → getL (mergeAs b xs ys) n = mergeA b (getL xs n) (getL ys n)
  | [], _, n, h => by simp [mergeAs] at h
  | _ :: _, [], n, h => by simp [mergeAs] at h
  | x :: xs, y :: ys, 0, _ => rfl
  | x :: xs, y :: ys, n + 1, h => by
    simp only [mergeAs, List.length_cons] at h
    exact mergeAs_get b xs ys n (by omega)
/-- The values that all ways of operations come to. -/
def joinD : Res → Option (List AV × List Bool)
  | .ret v _ nd => match v with
    | .tup vs => some (vs, nd)
    | _ => none
  | .ite b x y => match joinD x, joinD y with
    | some (vs, nd), some (vs', nd') => some (mergeAs b vs vs', guardL b nd ++ guardL (!b) nd')
    | some (vs, nd), none => some (vs, b :: nd)
    | none, some (vs, nd) => some (vs, (!b) :: nd)
    | none, none => none
  | .stop _ _ _ _ => none
  | .fail => none
theorem joinD_spec : ∀ {r : Res} {vs : List AV} {nd : List Bool}, joinD r = some (vs, nd) → allT nd = true →
    ∃ vs' H' nd', r.sel = .ret (.tup vs') H' nd' ∧ allT nd' = true ∧ vs.length ≤ vs'.length ∧ ∀ (n : Nat), n < vs.length → ∀ (σ : List (Nat × Nat)) (v : Value), Rel σ (getL vs' n) v → Rel σ (getL vs n) v
  | .ret v H0 nd0, vs, nd, h, hn => by
    simp only [joinD] at h
    split at h <;> cases h
    exact ⟨_, H0, _, rfl, hn, Nat.le_refl _, fun _ _ _ _ r => r⟩
  | .stop _ _ _ _, vs, nd, h, hn => by cases h
  | .fail, vs, nd, h, hn => by cases h
  | .ite b x y, vs, nd, h, hn => by
    simp only [joinD] at h
    split at h
    · rename_i v1 nd1 v2 nd2 h1 h2
      cases h
      rw [allT_append, Bool.and_eq_true] at hn
      have hl := mergeAs_len b v1 v2
      cases b with
      | true =>
        obtain ⟨vs', H', nd', e1, e2, e3, e4⟩ := joinD_spec h1 (guardL_true hn.1)
        exact ⟨vs', H', nd', e1, e2, by omega, fun n hlt σ v r => by rw [mergeAs_get _ _ _ _ hlt]; exact mergeA_left (e4 n (by omega) σ v r)⟩
      | false =>
        obtain ⟨vs', H', nd', e1, e2, e3, e4⟩ := joinD_spec h2 (guardL_true hn.2)
        exact ⟨vs', H', nd', e1, e2, by omega, fun n hlt σ v r => by rw [mergeAs_get _ _ _ _ hlt]; exact mergeA_right (e4 n (by omega) σ v r)⟩
    · rename_i v1 nd1 h1 h2
      cases h
      simp only [allT, Bool.and_eq_true] at hn
      obtain ⟨rfl, hn⟩ := hn
      exact joinD_spec (r := x) h1 hn
    · rename_i v1 nd1 h1 h2
      cases h
      simp only [allT, Bool.and_eq_true] at hn
      obtain ⟨hb, hn⟩ := hn
      have : b = false := by simpa using hb
      subst this
      exact joinD_spec (r := y) h2 hn
    · cases h

/-! ### Temporaries written -/
noncomputable def putDs : List Nat → List AV → Tm → Tm
  | d :: ds, v :: vs, t => putDs ds vs (st t d v)
  | [], _, t => t
  | _ :: _, [], t => t
def putDsL : List Nat → List AV → List AV → List AV
  | d :: ds, v :: vs, t => putDsL ds vs (setL t d v)
  | [], _, t => t
  | _ :: _, [], t => t
theorem putDs_R : ∀ (ds : List Nat) (vs : List AV) {τ : Tm} {t : List AV}, R τ t → R (putDs ds vs τ) (putDsL ds vs t)
  | [], _, _, _, h => h
  | _ :: _, [], _, _, h => h
  | d :: ds, v :: vs, _, _, h => putDs_R ds vs (h.set d v)
theorem putDsL_len : ∀ (ds : List Nat) (vs t : List AV), (putDsL ds vs t).length = t.length
  | [], _, _ => rfl
  | _ :: _, [], _ => rfl
  | d :: ds, v :: vs, t => by rw [putDsL, putDsL_len ds vs, setL_length]
theorem putDsL_out : ∀ (ds : List Nat) (vs t : List AV) (n : Nat), n ∉ ds → getL (putDsL ds vs t) n = getL t n
  | [], _, _, _, _ => rfl
  | _ :: _, [], _, _, _ => rfl
  | d :: ds, v :: vs, t, n, h => by
    simp only [List.mem_cons, not_or] at h
    rw [putDsL, putDsL_out ds vs _ n h.2, getL_setL_ne (Ne.symm h.1)]
theorem putDsL_in : ∀ (ds : List Nat) (vs t : List AV) (n : Nat), vs.length = ds.length → n ∈ ds → n < t.length → ∃ i, ds[i]? = some n ∧ getL (putDsL ds vs t) n = getL vs i
  | [], _, _, _, _, h, _ => by cases h
  | _ :: _, [], _, _, h, _, _ => by cases h
  | d :: ds, v :: vs, t, n, hl, h, ht => by
    by_cases hn : n ∈ ds
    · obtain ⟨i, h1, h2⟩ := putDsL_in ds vs (setL t d v) n (by simpa using hl) hn (by rw [setL_length]; exact ht)
      exact ⟨i + 1, by simpa using h1, h2⟩
    · have : n = d := by
        rcases List.mem_cons.1 h with h | h
        · exact h
        · exact absurd h hn
      subst this
      refine ⟨0, rfl, ?_⟩
      rw [putDsL, putDsL_out ds vs _ n hn, getL_setL_same ht]; rfl

/-! ### Memory -/
/-- G is H but for cells named in W. -/
def Pt (H G : List AB) (W : List (Nat × Nat)) : Prop := H.length = G.length ∧ ∀ i, (∃ C D, getB H i = .cells true C ∧ getB G i = .cells true D ∧ D.toL.length = C.toL.length ∧ ∀ j, (i, j) ∉ W → D.toL[j]? = C.toL[j]?) ∨ ((∀ C, getB H i ≠ .cells true C) ∧ getB G i = getB H i)
theorem Pt.refl (H : List AB) (W : List (Nat × Nat)) : Pt H H W := ⟨rfl, fun i => by
  by_cases h : ∃ C, getB H i = .cells true C
  · obtain ⟨C, h⟩ := h
    exact .inl ⟨C, C, h, h, rfl, fun _ _ => rfl⟩
  · exact .inr ⟨fun C hc => h ⟨C, hc⟩, rfl⟩⟩
theorem Pt.trans {H G K : List AB} {W V : List (Nat × Nat)} (h : Pt H G W) (k : Pt G K V) : Pt H K (W ++ V) := ⟨h.1.trans k.1, fun i => by
  rcases h.2 i with ⟨C, D, h1, h2, h3, h4⟩ | ⟨h1, h2⟩
  · rcases k.2 i with ⟨C', D', k1, k2, k3, k4⟩ | ⟨k1, k2⟩
    · rw [h2] at k1; cases k1
      refine .inl ⟨C, D', h1, k2, k3.trans h3, fun j hj => ?_⟩
      simp only [List.mem_append, not_or] at hj
      rw [k4 j hj.2, h4 j hj.1]
    · exact absurd h2 (k1 D)
  · rcases k.2 i with ⟨C', D', k1, k2, k3, k4⟩ | ⟨k1, k2⟩
    · rw [h2] at k1; exact absurd k1 (h1 C')
    · exact .inr ⟨h1, k2.trans h2⟩⟩
theorem Pt.mono {H G : List AB} {W V : List (Nat × Nat)} (h : Pt H G W) (hs : ∀ p ∈ W, p ∈ V) : Pt H G V := ⟨h.1, fun i => by
  rcases h.2 i with ⟨C, D, h1, h2, h3, h4⟩ | h
  · exact .inl ⟨C, D, h1, h2, h3, fun j hj => h4 j fun hw => hj (hs _ hw)⟩
  · exact .inr h⟩
theorem Pt.set {H : List AB} {id off : Nat} {A B : Cells} {v : AV} (hg : getB H id = .cells true A) (hs : A.set off v = some B) : Pt H (setB H id (.cells true B)) [(id, off)] := by
  have hlt : id < H.length := by
    rcases Nat.lt_or_ge id H.length with h | h
    · exact h
    · rw [getB_none h] at hg; cases hg
  refine ⟨(setB_length _ _ _).symm, fun i => ?_⟩
  by_cases hi : id = i
  · subst hi
    rw [getB_setB_same hlt]
    have hb := Cells.set_toL hs
    refine .inl ⟨A, B, hg, rfl, ?_, fun j hj => ?_⟩
    · rcases hb with h | h <;> rw [h, List.length_set]
    · have hne : off ≠ j := fun e => hj (by subst e; simp)
      rcases hb with h | h <;> rw [h, List.getElem?_set_ne hne]
  · rw [getB_setB_ne hi]
    by_cases h : ∃ C, getB H i = .cells true C
    · obtain ⟨C, h⟩ := h
      exact .inl ⟨C, C, h, h, rfl, fun _ _ => rfl⟩
    · exact .inr ⟨fun C hc => h ⟨C, hc⟩, rfl⟩

/-- The cells that were written on one way or the other, joined. -/
def mergeH (b : Bool) (Ha Hb : List AB) : List (Nat × Nat) → List AB → Option (List AB)
  | [], H => some H
  | (id, off) :: ws, H => match getB Ha id with
    | .cells true A => match getB Hb id with
      | .cells true B => match getB H id with
        | .cells true C => match mergeV b (A.get off) (B.get off) with
          | some z => match C.set off z with
            | some D => mergeH b Ha Hb ws (setB H id (.cells true D))
            | none => none
          | none => none
        | _ => none
      | _ => none
    | _ => none
/-- What a joined cell holds. -/
def Met (b : Bool) (Ha Hb G : List AB) (i j : Nat) : Prop := ∃ A B D z, getB Ha i = .cells true A ∧ getB Hb i = .cells true B ∧ getB G i = .cells true D ∧ mergeV b (A.get j) (B.get j) = some z ∧ (j < D.toL.length → D.toL[j]? = some z ∨ D.toL[j]? = some z.bare)
theorem mergeH_spec (b : Bool) (Ha Hb : List AB) : ∀ (ws : List (Nat × Nat)) (H G : List AB), mergeH b Ha Hb ws H = some G → Pt H G ws ∧ ∀ i j, (i, j) ∈ ws → Met b Ha Hb G i j
  | [], H, G, h => by
    cases h
    exact ⟨Pt.refl _ _, fun i j hj => by cases hj⟩
  | (id, off) :: ws, H, G, h => by
    simp only [mergeH] at h
    split at h <;> (try (cases h; done))
    rename_i A hA
    split at h <;> (try (cases h; done))
    rename_i B hB
    split at h <;> (try (cases h; done))
    rename_i C hC
    split at h <;> (try (cases h; done))
    rename_i z hz
    split at h <;> (try (cases h; done))
    rename_i D hD
    obtain ⟨p, m⟩ := mergeH_spec b Ha Hb ws _ G h
    have p0 := Pt.set hC hD
    have hlt : id < H.length := by
      rcases Nat.lt_or_ge id H.length with h | h
      · exact h
      · rw [getB_none h] at hC; cases hC
    refine ⟨p0.trans p, fun i j hj => ?_⟩
    by_cases hm : (i, j) ∈ ws
    · exact m i j hm
    · have e : (i, j) = (id, off) := by
        rcases List.mem_cons.1 hj with h | h
        · exact h
        · exact absurd h hm
      cases e
      rcases p.2 id with ⟨C', D', k1, k2, k3, k4⟩ | ⟨k1, k2⟩
      · rw [getB_setB_same hlt] at k1
        cases k1
        refine ⟨A, B, D', z, hA, hB, k2, hz, fun hl => ?_⟩
        rw [k4 off hm]
        rw [k3] at hl
        rcases Cells.set_toL hD with h | h
        · left; rw [h, List.length_set] at hl; rw [h, List.getElem?_set_self hl]
        · right; rw [h, List.length_set] at hl; rw [h, List.getElem?_set_self hl]
      · rw [getB_setB_same hlt] at k1
        exact absurd rfl (k1 D)
theorem mergeH_left {H Ha Hb G : List AB} {W : List (Nat × Nat)} (ha : Pt H Ha W) (h : mergeH true Ha Hb W H = some G) : HEq Ha G := by
  obtain ⟨p, m⟩ := mergeH_spec true Ha Hb W H G h
  refine ⟨ha.1.symm.trans p.1, fun i => ?_⟩
  rcases ha.2 i with ⟨C, A, a1, a2, a3, a4⟩ | ⟨a1, a2⟩
  · rcases p.2 i with ⟨C', D, p1, p2, p3, p4⟩ | ⟨p1, p2⟩
    · rw [a1] at p1; cases p1
      rw [a2, p2]
      refine ⟨rfl, rfl, fun σ z o hb => ?_⟩
      obtain ⟨c, e, fr, h1, h2, h3⟩ := hb
      refine ⟨c, e, fr, h1, fun j a hj => ?_, h3⟩
      by_cases hw : (i, j) ∈ W
      · obtain ⟨A', B', D', z', m1, m2, m3, m4, m5⟩ := m i j hw
        rw [a2] at m1; cases m1
        rw [p2] at m3; cases m3
        have hjl : j < D.toL.length := (List.getElem?_eq_some_iff.1 hj).1
        have hA : A.toL[j]? = some (A.get j) := Cells.get_some (by rw [← Cells.len_eq, a3, ← p3]; exact hjl)
        obtain ⟨v, hv, hr⟩ := h2 j _ hA
        have hr := mergeV_left m4 hr
        rcases m5 hjl with h | h <;> rw [h] at hj <;> cases hj
        · exact ⟨v, hv, hr⟩
        · exact ⟨v, hv, hr.bare⟩
      · rw [p4 j hw, ← a4 j hw] at hj
        exact h2 j a hj
    · exact absurd a1 (p1 C)
  · rcases p.2 i with ⟨C', D, p1, p2, p3, p4⟩ | ⟨p1, p2⟩
    · exact absurd p1 (a1 C')
    · rw [a2, p2]; exact ⟨rfl, rfl, fun _ _ _ h => h⟩
theorem mergeH_right {H Ha Hb G : List AB} {W : List (Nat × Nat)} (hb : Pt H Hb W) (h : mergeH false Ha Hb W H = some G) : HEq Hb G := by
  obtain ⟨p, m⟩ := mergeH_spec false Ha Hb W H G h
  refine ⟨hb.1.symm.trans p.1, fun i => ?_⟩
  rcases hb.2 i with ⟨C, A, a1, a2, a3, a4⟩ | ⟨a1, a2⟩
  · rcases p.2 i with ⟨C', D, p1, p2, p3, p4⟩ | ⟨p1, p2⟩
    · rw [a1] at p1; cases p1
      rw [a2, p2]
      refine ⟨rfl, rfl, fun σ z o hb => ?_⟩
      obtain ⟨c, e, fr, h1, h2, h3⟩ := hb
      refine ⟨c, e, fr, h1, fun j a hj => ?_, h3⟩
      by_cases hw : (i, j) ∈ W
      · obtain ⟨A', B', D', z', m1, m2, m3, m4, m5⟩ := m i j hw
        rw [a2] at m2; cases m2
        rw [p2] at m3; cases m3
        have hjl : j < D.toL.length := (List.getElem?_eq_some_iff.1 hj).1
        have hA : A.toL[j]? = some (A.get j) := Cells.get_some (by rw [← Cells.len_eq, a3, ← p3]; exact hjl)
        obtain ⟨v, hv, hr⟩ := h2 j _ hA
        have hr := mergeV_right m4 hr
        rcases m5 hjl with h | h <;> rw [h] at hj <;> cases hj
        · exact ⟨v, hv, hr⟩
        · exact ⟨v, hv, hr.bare⟩
      · rw [p4 j hw, ← a4 j hw] at hj
        exact h2 j a hj
    · exact absurd a1 (p1 C)
  · rcases p.2 i with ⟨C', D, p1, p2, p3, p4⟩ | ⟨p1, p2⟩
    · exact absurd p1 (a1 C')
    · rw [a2, p2]; exact ⟨rfl, rfl, fun _ _ _ h => h⟩
end Go.Ax
