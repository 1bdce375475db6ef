/- FlatWave and CellOf, of both sides. -/
import Derived.Test.YtdcjjibekhcplaaAag
import Derived.Test.YtdcjjibekhcplaaRows
import Derived.ProofKit
import Derived.HandedShaped
import Derived.WideKeyArr
namespace Go.Ax
open Go Go.Proofs

/-! ### FlatWave -/
noncomputable def flatV (N : Nat) (n : Int) (z : Nat × Nat) : AV :=
  .tup [.agg (.i false .i64 (cond (!wholeB z) 0 n) :: (List.range 64).map fun j => match Nat.ble N j with
    | true => .c true .f32 0 0
    | false => .c false .f32 (plusF (cond (!wholeB z) 0 z.1)) (plusF (cond (!wholeB z) 0 z.2))), .i false .i64 (cond (!wholeB z) 1 0)]
theorem flat_run (f : FuncId) (hf : f = 20 ∨ f = 21) (N : Nat) (n : Int) (hn : (N, n) ∈ doNs) (z : Nat × Nat) : joinR 0 (tabW f [.i true .i64 n, .c false .f32 z.1 z.2] [] [] fun v H nd => .ret v H nd) = some (flatV N n z, []) := by
  simp only [doNs, List.mem_cons, Prod.mk.injEq, List.not_mem_nil, or_false] at hn
  rcases hf with rfl | rfl <;> rcases hn with ⟨rfl, rfl⟩ | ⟨rfl, rfl⟩ | ⟨rfl, rfl⟩ | ⟨rfl, rfl⟩ <;> kernel_rfl
noncomputable def flatOK (n : Int) (z : Nat × Nat) : Bool := sideB n && wholeB z
noncomputable def flatX (n : Int) (z : Nat × Nat) (j : Nat) : Nat × Nat := match flatOK n z && Nat.blt j (n.toNat * n.toNat) with
  | true => (plusF z.1, plusF z.2)
  | false => (0, 0)
noncomputable def flatC (n : Int) (z : Nat × Nat) : Int := cond (wholeB z) (cond (sideB n) 0 2) 1
noncomputable def flatWR (n : Int) (z : Nat × Nat) : AV := .tup [wv (cond (flatOK n z) n 0) (flatX n z), .i false .i64 (flatC n z)]
def zeroV2 (c : Int) : AV := .tup [.agg (.i true .i64 0 :: List.replicate 64 (.c true .f32 0 0)), .i false .i64 c]
theorem flat_no (f : FuncId) (hf : f = 20 ∨ f = 21) (n : Int) (z : Nat × Nat) : joinR 0 (tabN f [.i false .i64 n, .c false .f32 z.1 z.2] [] [] fun v H nd => .ret v H nd) = some (zeroV2 (cond (!wholeB z) 1 2), [cond (!!wholeB z) (!sideB n) true]) := by
  rcases hf with rfl | rfl <;> kernel_rfl
theorem flat_ok (f : FuncId) (hf : f = 20 ∨ f = 21) (n : Int) (z : Nat × Nat) (H : List AB) : CallOK Try.prog f [.i false .i64 n, .c false .f32 z.1 z.2] H (flatWR n z) H := by
  by_cases hs : sideB n = true
  · obtain ⟨N, hN, hNn⟩ : ∃ N, (N, n) ∈ doNs ∧ N = n.toNat * n.toNat := by
      rcases sideB_iff.1 hs with rfl | rfl | rfl | rfl
      · exact ⟨1, by simp [doNs], rfl⟩
      · exact ⟨4, by simp [doNs], rfl⟩
      · exact ⟨16, by simp [doNs], rfl⟩
      · exact ⟨64, by simp [doNs], rfl⟩
    subst hNn
    refine ((call_of_join tabW_sound (flat_run f hf _ n hN z) rfl rfl H).bare (args' := [.i false .i64 n, .c false .f32 z.1 z.2]) rfl).weaken fun σ x r => tup2_weak ?_ ?_ r
    · have e1 : cond (!wholeB z) 0 n = cond (flatOK n z) n 0 := by
        unfold flatOK; rw [hs]; cases wholeB z <;> rfl
      simp only [waveL, List.map_cons, List.map_map, AV.bare, e1, List.cons.injEq, true_and]
      apply List.map_congr_left
      intro j hj
      simp only [Function.comp, cx, flatX]
      rw [ble_blt]
      cases hb : Nat.blt j (n.toNat * n.toNat) with
      | false => simp [AV.bare]
      | true =>
        unfold flatOK
        rw [hs]
        cases wholeB z <;> simp [AV.bare, plus_zero]
    · unfold flatC
      rw [hs]
      cases wholeB z <;> rfl
  · have hs : sideB n = false := by simpa using hs
    refine (call_of_join tabN_sound (flat_no f hf n z) (by rw [hs]; cases wholeB z <;> rfl) rfl H).weaken fun σ x r => tup2_weak ?_ ?_ r
    · have e : flatOK n z = false := by simp [flatOK, hs]
      have e2 : ∀ j, flatX n z j = (0, 0) := fun j => by simp [flatX, e]
      have : (List.range 64).map (cx (flatX n z)) = List.replicate 64 (.c false .f32 0 0) := by
        have : cx (flatX n z) = fun _ => .c false .f32 0 0 := funext fun j => by simp [cx, e2]
        rw [this]; rfl
      simp only [waveL, this, e]
      rfl
    · unfold flatC
      rw [hs]
      cases wholeB z <;> rfl

/-! ### CellOf -/
def gIn : List AV → Option (AV × List Bool)
  | [.i l .i64 a, .i m .i64 lo, .i k .i64 hi] => match l && m && k with
    | true => some (.b true (decide (lo ≤ a) && decide (a ≤ hi)), [])
    | false => some (.b true false, [!(decide (lo ≤ a) && decide (a ≤ hi))])
  | _ => none
theorem in_run (f : FuncId) (hf : f = 180 ∨ f = 151) (a lo hi : Int) : joinR 0 (tabW f [.i false .i64 a, .i false .i64 lo, .i false .i64 hi] [] [] fun v H nd => .ret v H nd) = some (.b false (cond (decide (lo ≤ a)) (decide (a ≤ hi)) false), []) := by
  rcases hf with rfl | rfl <;> kernel_rfl
theorem in_at (f : FuncId) (hf : f = 180 ∨ f = 151) : SoundAt Try.prog f (pureT gIn) := fun args H nd K => by
  refine pureT_sound (fun args v n h hn H => ?_) args H nd K
  unfold gIn at h
  split at h <;> (try (cases h; done))
  rename_i l a m lo k hi
  have base := (call_of_join tabW_sound (in_run f hf a lo hi) rfl rfl H).bare (args' := [.i l .i64 a, .i m .i64 lo, .i k .i64 hi]) rfl
  have e : cond (decide (lo ≤ a)) (decide (a ≤ hi)) false = (decide (lo ≤ a) && decide (a ≤ hi)) := by cases decide (lo ≤ a) <;> rfl
  rw [e] at base
  split at h <;> cases h
  · exact base.weaken fun σ x r => by cases r; exact .b _
  · have hn : (decide (lo ≤ a) && decide (a ≤ hi)) = false := by
      simp only [allT, Bool.and_true, Bool.not_eq_true'] at hn
      exact hn
    rw [hn] at base
    exact base.weaken fun σ x r => by cases r; exact .b _
noncomputable def rowsO : List (FuncId × Table) := (180, pureT gIn) :: (151, pureT gIn) :: rowsW
theorem rowsO_at : ∀ p ∈ rowsO, SoundAt Try.prog p.1 p.2 := fun p hp => by
  simp only [rowsO, List.mem_cons] at hp
  rcases hp with rfl | rfl | hp
  · exact in_at 180 (.inl rfl)
  · exact in_at 151 (.inr rfl)
  · exact rowsW_at p hp
noncomputable def tabO : Table := tabOf (cdeep Try.prog rowsO [] 3000 8)
theorem tabO_sound : SoundT Try.prog tabO := cdeep_sound rowsO_at 8
def inB (a hi : Int) : Bool := decide (0 ≤ a) && decide (a ≤ hi)
theorem cell_out1 (f : FuncId) (hf : f = 17 ∨ f = 23) (N : Nat) (n : Int) (hn : (N, n) ∈ doNs) (X : Nat → Nat × Nat) (y x : Int) : joinR 0 (tabO f [wvT true n X, .i false .i64 y, .i false .i64 x] [] [] fun v H nd => .ret v H nd) =
    some (.tup [.c true .f32 0 0, .i false .i64 (cond (!isWaveB n X) 1 2)], [cond (!!isWaveB n X) (!inB y (n - 1)) true]) := by
  simp only [doNs, List.mem_cons, Prod.mk.injEq, List.not_mem_nil, or_false] at hn
  rcases hf with rfl | rfl <;> rcases hn with ⟨rfl, rfl⟩ | ⟨rfl, rfl⟩ | ⟨rfl, rfl⟩ | ⟨rfl, rfl⟩ <;> kernel_rfl
def ysOf (n : Int) : List Int := (List.range n.toNat).map Int.ofNat
theorem cell_out2 (f : FuncId) (hf : f = 17 ∨ f = 23) (N : Nat) (n : Int) (hn : (N, n) ∈ doNs) (X : Nat → Nat × Nat) (x : Int) : ((ysOf n).map fun y => joinR 0 (tabO f [wvT true n X, .i true .i64 y, .i false .i64 x] [] [] fun v H nd => .ret v H nd)) =
    (ysOf n).map fun _ => some (.tup [.c true .f32 0 0, .i false .i64 (cond (!isWaveB n X) 1 2)], [cond (!!isWaveB n X) (!inB x (n - 1)) true]) := by
  simp only [doNs, List.mem_cons, Prod.mk.injEq, List.not_mem_nil, or_false] at hn
  rcases hf with rfl | rfl <;> rcases hn with ⟨rfl, rfl⟩ | ⟨rfl, rfl⟩ | ⟨rfl, rfl⟩ | ⟨rfl, rfl⟩ <;> kernel_rfl
theorem cell_in (f : FuncId) (hf : f = 17 ∨ f = 23) (N : Nat) (n : Int) (hn : (N, n) ∈ doNs) (X : Nat → Nat × Nat) : ((List.range N).map fun k => joinR 0 (tabO f [wvT true n X, .i true .i64 ((Int.ofNat k).tdiv n), .i true .i64 ((Int.ofNat k).tmod n)] [] [] fun v H nd => .ret v H nd)) =
    (List.range N).map fun k => some (.tup [.c false .f32 (plusF (cond (!isWaveB n X) 0 (X k).1)) (plusF (cond (!isWaveB n X) 0 (X k).2)), .i false .i64 (cond (!isWaveB n X) 1 0)], []) := by
  simp only [doNs, List.mem_cons, Prod.mk.injEq, List.not_mem_nil, or_false] at hn
  rcases hf with rfl | rfl <;> rcases hn with ⟨rfl, rfl⟩ | ⟨rfl, rfl⟩ | ⟨rfl, rfl⟩ | ⟨rfl, rfl⟩ <;> kernel_rfl
end Go.Ax

/- CellOf, of both sides: one answer. -/
namespace Go.Ax
open Go Go.Proofs

theorem tup_bare {l l' : List AV} (h : l.map AV.bare = l'.map AV.bare) {σ : List (Nat × Nat)} {v : Value} (r : Rel σ (.tup l) v) : Rel σ (.tup l') v := by
  cases r with | tup r => exact .tup (RelL.unbare (h ▸ r.bare))
noncomputable def cellOK (n : Int) (X : Nat → Nat × Nat) (y x : Int) : Bool := isWaveB n X && (inB y (n - 1) && inB x (n - 1))
noncomputable def cellZ (n : Int) (X : Nat → Nat × Nat) (y x : Int) : Nat × Nat := match cellOK n X y x with
  | true => (plusF (X (n * y + x).toNat).1, plusF (X (n * y + x).toNat).2)
  | false => (0, 0)
noncomputable def cellC (n : Int) (X : Nat → Nat × Nat) (y x : Int) : Int := cond (isWaveB n X) (cond (inB y (n - 1) && inB x (n - 1)) 0 2) 1
noncomputable def cellR (n : Int) (X : Nat → Nat × Nat) (y x : Int) : AV := .tup [.c false .f32 (cellZ n X y x).1 (cellZ n X y x).2, .i false .i64 (cellC n X y x)]
theorem cell_no (f : FuncId) (hf : f = 17 ∨ f = 23) (n : Int) (X : Nat → Nat × Nat) (y x : Int) : joinR 0 (tabN f [wvT false n X, .i false .i64 y, .i false .i64 x] [] [] fun v H nd => .ret v H nd) = some (.tup [.c true .f32 0 0, .i true .i64 1], [!sideB n]) := by
  rcases hf with rfl | rfl <;> kernel_rfl
theorem inB_iff {a hi : Int} : inB a hi = true ↔ 0 ≤ a ∧ a ≤ hi := by simp [inB]
theorem wvT_low (l : Bool) (n : Int) (X : Nat → Nat × Nat) : below 0 (wvT l n X) = true := by
  have := wv_low n X
  simpa [wv, wvT, waveL, below, belowL] using this
theorem cell_ok (f : FuncId) (hf : f = 17 ∨ f = 23) (n : Int) (X : Nat → Nat × Nat) (y x : Int) (H : List AB) : CallOK Try.prog f [wv n X, .i false .i64 y, .i false .i64 x] H (cellR n X y x) H := by
  by_cases hs : sideB n = true
  · obtain ⟨N, hN, hNn⟩ : ∃ N, (N, n) ∈ doNs ∧ N = n.toNat * n.toNat := by
      rcases sideB_iff.1 hs with rfl | rfl | rfl | rfl
      · exact ⟨1, by simp [doNs], rfl⟩
      · exact ⟨4, by simp [doNs], rfl⟩
      · exact ⟨16, by simp [doNs], rfl⟩
      · exact ⟨64, by simp [doNs], rfl⟩
    have hn := sideB_iff.1 hs
    have hlow : ∀ a b, belowL 0 [wvT true n X, .i a .i64 y, .i b .i64 x] = true := fun a b => by simp [belowL, below, wvT_low]
    by_cases hy : inB y (n - 1) = true
    · have hy' := inB_iff.1 hy
      by_cases hx : inB x (n - 1) = true
      · have hx' := inB_iff.1 hx
        have hk : (n * y + x).toNat < N := by
          rcases hn with rfl | rfl | rfl | rfl <;> (rw [hNn]; simp; omega)
        have e1 : (Int.ofNat (n * y + x).toNat).tdiv n = y ∧ (Int.ofNat (n * y + x).toNat).tmod n = x := by
          have e : Int.ofNat (n * y + x).toNat = n * y + x := by
            have : 0 ≤ n * y + x := by rcases hn with rfl | rfl | rfl | rfl <;> omega
            simp; omega
          rw [e]
          rw [Int.tdiv_eq_ediv_of_nonneg (by rcases hn with rfl | rfl | rfl | rfl <;> omega), Int.tmod_eq_emod_of_nonneg (by rcases hn with rfl | rfl | rfl | rfl <;> omega)]
          rcases hn with rfl | rfl | rfl | rfl <;> constructor <;> omega
        have h1 := map_mem (cell_in f hf N n hN X) (x := (n * y + x).toNat) (by simpa using hk)
        rw [e1.1, e1.2] at h1
        refine ((call_of_join tabO_sound h1 rfl (hlow _ _) H).deep (args' := [wv n X, .i false .i64 y, .i false .i64 x]) rfl).weaken fun σ z r => tup_bare ?_ r
        unfold cellZ cellC cellOK
        rw [hy, hx]
        cases isWaveB n X <;> simp [AV.bare, plus_zero]
      · have hx : inB x (n - 1) = false := by simpa using hx
        have hmem : y ∈ ysOf n := by
          unfold ysOf
          refine List.mem_map.2 ⟨y.toNat, by simp; omega, by simp; omega⟩
        have h1 := map_mem (cell_out2 f hf N n hN X x) hmem
        refine ((call_of_join tabO_sound h1 (by rw [hx]; cases isWaveB n X <;> rfl) (hlow _ _) H).deep (args' := [wv n X, .i false .i64 y, .i false .i64 x]) rfl).weaken fun σ z r => tup_bare ?_ r
        unfold cellZ cellC cellOK
        rw [hx]
        cases isWaveB n X <;> simp [AV.bare]
    · have hy : inB y (n - 1) = false := by simpa using hy
      refine ((call_of_join tabO_sound (cell_out1 f hf N n hN X y x) (by rw [hy]; cases isWaveB n X <;> rfl) (hlow _ _) H).deep (args' := [wv n X, .i false .i64 y, .i false .i64 x]) rfl).weaken fun σ z r => tup_bare ?_ r
      unfold cellZ cellC cellOK
      rw [hy]
      cases isWaveB n X <;> simp [AV.bare]
  · have hs : sideB n = false := by simpa using hs
    have hw : isWaveB n X = false := by simp [isWaveB, hs]
    refine ((call_of_join tabN_sound (cell_no f hf n X y x) (by simp [allT, hs]) (by simp [belowL, below, wvT_low]) H).deep (args' := [wv n X, .i false .i64 y, .i false .i64 x]) rfl).weaken fun σ z r => tup_bare ?_ r
    unfold cellZ cellC cellOK
    rw [hw]
    rfl
end Go.Ax

/- Table rows for the laws: what a drawing function gives, the plane waves, flat waves, cells. -/
namespace Go.Ax
open Go Go.Proofs

noncomputable def drawV {α : Type} [Inhabited α] (F : Form α) (f : FuncId) (c : Cd) : α := open Classical in if hx : ∃ x, DrawOK Try.prog f c (F.val x) then hx.choose else default
theorem drawV_ok {α : Type} [Inhabited α] {F : Form α} {f : FuncId} {c : Cd} (h : ∃ x, DrawOK Try.prog f c (F.val x)) : DrawOK Try.prog f c (F.val (drawV F f c)) := by
  unfold drawV
  rw [dif_pos h]
  exact h.choose_spec
noncomputable def drawT {α : Type} [Inhabited α] (F : Form α) : Table := fun f args H nd K =>
  match args, H with
  | [s], B :: _ => match readSl s, readCode B with
    | some (o, n), some (o', b) => K (F.val (drawV F f ⟨b, o', n⟩)) H (okB ⟨b, o', n⟩ o n :: nd)
    | _, _ => .fail
  | _, _ => .fail
theorem drawT_at {α : Type} [Inhabited α] {F : Form α} {f : FuncId} (h : ∀ c, goodB c = true → ∃ x, DrawOK Try.prog f c (F.val x)) : SoundAt Try.prog f (drawT F) := fun args H nd K => by
  unfold drawT
  split
  case h_2 => exact .inl rfl
  rename_i s B Hr
  split
  case h_2 => exact .inl rfl
  rename_i o n o' b hs hb
  refine .inr ⟨_, _, _, rfl, fun hn => ?_⟩
  simp only [allT, Bool.and_eq_true, okB] at hn
  obtain ⟨⟨⟨hg, ho⟩, _⟩, hnd⟩ := hn
  have ho : o = o' := of_decide_eq_true ho
  subst ho
  refine ⟨hnd, ?_⟩
  obtain ⟨l, rfl⟩ := readSl_spec hs
  have hB := readCode_spec hb
  subst hB
  exact (drawV_ok (h _ hg) Hr).bare (args' := [.sl l 0 o n 0]) rfl
noncomputable def gPlane : List AV → Option (AV × List Bool)
  | [.i _ .i64 n, .i _ .i64 u, .i _ .i64 v] => some (planeR n u v, [])
  | _ => none
theorem plane_at (f : FuncId) (hf : f = 13 ∨ f = 14) : SoundAt Try.prog f (pureT gPlane) := fun args H nd K => by
  refine pureT_sound (fun args v n h hn H => ?_) args H nd K
  unfold gPlane at h
  split at h <;> cases h
  exact (plane_ok f hf _ _ _ H).bare rfl
noncomputable def gFlat : List AV → Option (AV × List Bool)
  | [.i _ .i64 n, .c _ .f32 x y] => some (flatWR n (x, y), [])
  | _ => none
theorem flatw_at (f : FuncId) (hf : f = 20 ∨ f = 21) : SoundAt Try.prog f (pureT gFlat) := fun args H nd K => by
  refine pureT_sound (fun args v n h hn H => ?_) args H nd K
  unfold gFlat at h
  split at h <;> cases h
  exact (flat_ok f hf _ (_, _) H).bare rfl
noncomputable def gCell : List AV → Option (AV × List Bool)
  | [.agg l, .i _ .i64 y, .i _ .i64 x] => match ofW l with
    | some (n, X) => some (cellR n X y x, [])
    | none => none
  | _ => none
theorem cell_at (f : FuncId) (hf : f = 17 ∨ f = 23) : SoundAt Try.prog f (pureT gCell) := fun args H nd K => by
  refine pureT_sound (fun args v n h hn H => ?_) args H nd K
  unfold gCell at h
  split at h <;> (try (cases h; done))
  split at h <;> cases h
  rename_i hl
  exact (cell_ok f hf _ _ _ _ H).deep (by simp only [List.map_cons, ofW_spec hl]; rfl)
instance : Inhabited (Int × (Nat → Nat × Nat)) := ⟨(0, fun _ => (0, 0))⟩
noncomputable def rowsL3 : List (FuncId × Table) :=
  [(9, drawT formI), (12, drawT formI3), (19, drawT formIC), (22, drawT formWII), (10, pureT gPhase), (11, pureT gPhase), (13, pureT gPlane), (14, pureT gPlane), (15, rollT), (16, belowT),
   (17, pureT gCell), (18, pureT gIsWave), (20, pureT gFlat), (21, pureT gFlat), (23, pureT gCell)]
theorem rowsL3_at : ∀ p ∈ rowsL3, SoundAt Try.prog p.1 p.2 := fun p hp => by
  simp only [rowsL3, List.mem_cons, List.not_mem_nil, or_false] at hp
  rcases hp with rfl | rfl | rfl | rfl | rfl | rfl | rfl | rfl | rfl | rfl | rfl | rfl | rfl | rfl | rfl
  · exact drawT_at fun c hc => drawPhase_ok hc
  · exact drawT_at fun c hc => drawPlane_ok hc
  · exact drawT_at fun c hc => drawFlat_ok hc
  · exact drawT_at fun c hc => drawCell_ok hc
  · exact phase_at
  · exact specPhase_at
  · exact plane_at 13 (.inl rfl)
  · exact plane_at 14 (.inr rfl)
  · exact roll_at
  · exact below_at
  · exact cell_at 17 (.inl rfl)
  · exact isWave_at 18 (.inl rfl)
  · exact flatw_at 20 (.inl rfl)
  · exact flatw_at 21 (.inr rfl)
  · exact cell_at 23 (.inr rfl)
end Go.Ax

/- A call's answer along one way through its tests; numbers that equal themselves. -/
namespace Go.Ax
open Go Go.Proofs

/-- What must hold along a way. -/
def condsP : Res → List Bool → List Bool
  | .ite b x y, d :: l => match d with
    | true => b :: condsP x l
    | false => (!b) :: condsP y l
  | _, _ => []
def leafP : Res → Option (AV × List Bool)
  | .ret v _ nd => some (v, nd)
  | _ => none
theorem sel_of_conds : ∀ (r : Res) (l : List Bool), allT (condsP r l) = true → r.sel = (r.at l).sel
  | .ite b x y, d :: l, h => by
    cases d with
    | true =>
      simp only [condsP, allT, Bool.and_eq_true] at h
      simp only [Res.sel, Res.at, h.1, if_true]
      exact sel_of_conds x l h.2
    | false =>
      simp only [condsP, allT, Bool.and_eq_true, Bool.not_eq_true'] at h
      simp only [Res.sel, Res.at, h.1]
      exact sel_of_conds y l h.2
  | .ite _ _ _, [], _ => rfl
  | .ret _ _ _, _, _ => by simp [Res.at]
  | .stop _ _ _ _, _, _ => by simp [Res.at]
  | .fail, _, _ => by simp [Res.at]
theorem call_of_path {P : Program} {T : Table} {f : FuncId} {args : List AV} {H : List AB} {dirs conds nd : List Bool} {v : AV} (hT : SoundT P T)
    (h : (condsP (T f args H [] fun v H nd => .ret v H nd) dirs, leafP ((T f args H [] fun v H nd => .ret v H nd).at dirs)) = (conds, some (v, nd))) (hc : allT conds = true) (hn : allT nd = true) : ∃ H', CallOK P f args H v H' := by
  simp only [Prod.mk.injEq] at h
  obtain ⟨h1, h2⟩ := h
  have e := sel_of_conds _ dirs (by rw [h1]; exact hc)
  generalize hl : (T f args H [] fun v H nd => .ret v H nd).at dirs = r at h2 e
  unfold leafP at h2
  split at h2 <;> cases h2
  exact ⟨_, call_of_sel hT e hn⟩

theorem feq_self {x : Nat} (h : finB x = true) : feq .f32 x x = true := by
  unfold finB fsub at h
  unfold feq Ieee.Format.order
  cases hx : (FloatKind.f32.format.read x) with
  | nan s p =>
    exfalso
    unfold Ieee.Format.sub at h
    rw [hx] at h
    have : (((Ieee.Datum.nan s p).sum (Ieee.Datum.nan s p).opposite).map FloatKind.f32.format.write).getD (qnan .f32) = qnan .f32 := rfl
    rw [this] at h
    have e : feq .f32 (qnan .f32) 0 = false := by kernel_rfl
    rw [e] at h; cases h
  | infinity s => simp [Ieee.Datum.order]
  | number s m i => simp [Ieee.Datum.order]
theorem feq_zz : feq .f32 0 0 = true := by kernel_rfl
theorem feq_plus {x : Nat} (h : finB x = true) : feq .f32 (plusF x) (plusF x) = true := by
  unfold plusF
  cases feq .f32 x 0 with
  | true => exact feq_zz
  | false => exact feq_self h
theorem wholeB_iff {z : Nat × Nat} : wholeB z = true ↔ finB z.1 = true ∧ finB z.2 = true := by
  unfold wholeB
  cases finB z.1 <;> simp

/-! ### Waves read from their values -/
def reX (X : Nat → Nat × Nat) : Nat → Nat × Nat := fun j => ((List.range 64).map fun i => ((X i).1, (X i).2)).getD j (0, 0)
theorem reX_eq {X : Nat → Nat × Nat} {j : Nat} (h : j < 64) : reX X j = X j := by
  simp [reX, List.getD_eq_getElem?_getD, List.getElem?_range h]
theorem isWaveB_re {n : Int} {X : Nat → Nat × Nat} : isWaveB n (reX X) = isWaveB n X := by
  rw [Bool.eq_iff_iff, isWaveB_iff, isWaveB_iff]
  constructor
  · rintro ⟨h1, h2⟩
    exact ⟨h1, fun j hj => by have := h2 j hj; rwa [reX_eq hj] at this⟩
  · rintro ⟨h1, h2⟩
    exact ⟨h1, fun j hj => by rw [reX_eq hj]; exact h2 j hj⟩
def pEq (a b c d : Nat) : Bool := feq .f32 a b && feq .f32 c d
/-- Whether two waves have the same cells. -/
def eqX (X Y : Nat → Nat × Nat) : Nat → Nat → Bool
  | 0, _ => true
  | m + 1, j => pEq (X j).1 (Y j).1 (X j).2 (Y j).2 && eqX X Y m (Nat.succ j)
theorem eqX_self {X : Nat → Nat × Nat} (h : ∀ j, feq .f32 (X j).1 (X j).1 = true ∧ feq .f32 (X j).2 (X j).2 = true) : ∀ m j, eqX X X m j = true
  | 0, _ => rfl
  | m + 1, j => by
    simp only [eqX, pEq, h j, Bool.and_self, eqX_self h m]
def eqW (n : Int) (X : Nat → Nat × Nat) (n' : Int) (X' : Nat → Nat × Nat) : Bool := (n == n') && (eqX X X' 64 0 && true)
theorem eqW_self {n : Int} {X : Nat → Nat × Nat} (h : ∀ j, feq .f32 (X j).1 (X j).1 = true ∧ feq .f32 (X j).2 (X j).2 = true) : eqW n X n X = true := by
  simp [eqW, eqX_self h]

/-! ### The table of phases -/
theorem tmod64 (k : Int) : k.tmod 64 = k % 64 ∨ k.tmod 64 = k % 64 - 64 := by
  rcases Int.lt_or_le k 0 with h | h
  · rw [Int.tmod_eq_emod]
    split <;> simp
  · left; exact Int.tmod_eq_emod_of_nonneg h
/-- What is told of the phases, by cases. -/
noncomputable def phAll (j : Nat) : Bool :=
  let x := phXs.getD j 0
  let y := phYs.getD j 0
  finB x && (finB y && (pEq (phXs.getD ((j + 32) % 64) 0) (fneg .f32 x) (phYs.getD ((j + 32) % 64) 0) (fneg .f32 y) && (pEq (phXs.getD ((j + 16) % 64) 0) (fneg .f32 y) (phYs.getD ((j + 16) % 64) 0) x && (!(Nat.beq (j % 16) 0) || (feq .f32 x 0 || feq .f32 y 0)))))
theorem ph_all : ((List.range 64).all phAll) = true := by kernel_rfl
theorem phX_tab (k : Int) : phX k = phXs.getD (k % 64).toNat 0 ∧ phY k = phYs.getD (k % 64).toNat 0 := by
  have hk : k % 64 = ((k % 64).toNat : Int) := by omega
  have hj : (k % 64).toNat < 64 := by omega
  unfold phX phY
  generalize (k % 64).toNat = j at hk hj
  rw [hk, chain_get _ _ 63 (by omega), chain_get _ _ 63 (by omega)]
  exact ⟨rfl, rfl⟩
theorem ph_facts (k : Int) : finB (phX k) = true ∧ finB (phY k) = true ∧ pEq (phX (k + 32)) (fneg .f32 (phX k)) (phY (k + 32)) (fneg .f32 (phY k)) = true ∧ pEq (phX (k + 16)) (fneg .f32 (phY k)) (phY (k + 16)) (phX k) = true ∧ (k % 16 = 0 → feq .f32 (phX k) 0 = true ∨ feq .f32 (phY k) 0 = true) := by
  have hj : (k % 64).toNat < 64 := by omega
  have h := List.all_eq_true.1 ph_all (k % 64).toNat (by simpa using hj)
  unfold phAll at h
  simp only [Bool.and_eq_true] at h
  obtain ⟨h1, h2, h3, h4, h5⟩ := h
  rw [(phX_tab k).1, (phX_tab k).2, (phX_tab (k + 32)).1, (phX_tab (k + 32)).2, (phX_tab (k + 16)).1, (phX_tab (k + 16)).2]
  have e1 : ((k + 32) % 64).toNat = ((k % 64).toNat + 32) % 64 := by omega
  have e2 : ((k + 16) % 64).toNat = ((k % 64).toNat + 16) % 64 := by omega
  rw [e1, e2]
  refine ⟨h1, h2, h3, h4, fun h16 => ?_⟩
  have e3 : Nat.beq ((k % 64).toNat % 16) 0 = true := by
    have : (k % 64).toNat % 16 = 0 := by omega
    rw [this]; rfl
  rw [e3] at h5
  simpa using h5
theorem ph_per {k k' : Int} (h : k % 64 = k' % 64) : phX k = phX k' ∧ phY k = phY k' := by
  unfold phX phY; rw [h]; exact ⟨rfl, rfl⟩
end Go.Ax

/- The law of phases. -/

namespace Go.Ax
open Go Go.Proofs

noncomputable def tabL3 : Table := tabOf (cdeep Try.prog rowsL3 [3] 3000 8)
theorem tabL3_sound : SoundT Try.prog tabL3 := cdeep_sound rowsL3_at 8
/-- Everything that the law draws. -/
structure D3 where
  k : Int
  n : Int
  u : Int
  v : Int
  y : Int
  x : Int
  m : Int
  z : Nat × Nat
  a : Int
  X : Nat → Nat × Nat
  s : Int
  t : Int
noncomputable def d3 (c : Cd) : D3 where
  k := drawV formI 9 c
  n := (drawV formI3 12 c).1
  u := (drawV formI3 12 c).2.1
  v := (drawV formI3 12 c).2.2
  y := beV c 0 (rollV c 991) (drawV formI3 12 c).1
  x := beV c (nxA c 0 (drawV formI3 12 c).1) (nxS (rollV c 991) (drawV formI3 12 c).1) (drawV formI3 12 c).1
  m := (drawV formIC 19 c).1
  z := ((drawV formIC 19 c).2.1, (drawV formIC 19 c).2.2)
  a := (drawV formWII 22 c).1.1
  X := (drawV formWII 22 c).1.2
  s := (drawV formWII 22 c).2.1
  t := (drawV formWII 22 c).2.2
def w64' (n : Int) : Int := wrapQ false .i64 n
def pre3 (c : Cd) (d : D3) : List Bool :=
  [!ltQ false 4096 (c.len : Int), !!pEq (phX d.k) (phX d.k) (phY d.k) (phY d.k),
   !!pEq (phX (w64' (d.k.tmod 64 + 64))) (phX d.k) (phY (w64' (d.k.tmod 64 + 64))) (phY d.k),
   !!pEq (phX (w64' (d.k.tmod 64 + 32))) (fneg .f32 (phX d.k)) (phY (w64' (d.k.tmod 64 + 32))) (fneg .f32 (phY d.k)),
   !!pEq (phX (w64' (d.k.tmod 64 + 16))) (fneg .f32 (phY d.k)) (phY (w64' (d.k.tmod 64 + 16))) (phX d.k)]
def mid3 (d : D3) : Nat → List Bool
  | 0 => [!eqQ false ((d.k.tmod 64).tmod 16) 0]
  | 1 => [eqQ false ((d.k.tmod 64).tmod 16) 0, !!feq .f32 (phX d.k) 0]
  | _ => [eqQ false ((d.k.tmod 64).tmod 16) 0, !feq .f32 (phX d.k) 0, !!feq .f32 (phY d.k) 0]
noncomputable def D3.pn (d : D3) : Int := cond (planeOK d.n d.u d.v) d.n 0
noncomputable def D3.pX (d : D3) : Nat → Nat × Nat := planeX d.n d.u d.v
noncomputable def D3.pc (d : D3) : Int := cond (planeOK d.n d.u d.v) 0 2
def D3.kk (d : D3) : Int := w64' (w64' (w64' (d.u * d.x) + w64' (d.v * d.y)) * IntKind.i64.wrap (Int.tdiv 64 d.n))
noncomputable def tail3 (d : D3) : Bool → List Bool
  | false => [!!eqQ false d.pc d.pc, !!eqW d.pn d.pX d.pn d.pX, !eqQ false d.pc 0]
  | true => [!!eqQ false d.pc d.pc, !!eqW d.pn d.pX d.pn d.pX, eqQ false d.pc 0, !!eqQ false (cellC d.pn (reX d.pX) d.y d.x) 0,
    !!pEq (cellZ d.pn (reX d.pX) d.y d.x).1 (phX d.kk) (cellZ d.pn (reX d.pX) d.y d.x).2 (phY d.kk), !!isWaveB d.pn (reX d.pX)]
noncomputable def D3.fn (d : D3) : Int := cond (flatOK d.m d.z) d.m 0
noncomputable def D3.fX (d : D3) : Nat → Nat × Nat := flatX d.m d.z
noncomputable def fin3 (d : D3) : List Bool := [eqQ false (flatC d.m d.z) (flatC d.m d.z), eqW d.fn d.fX d.fn d.fX, eqQ false (cellC d.a (reX d.X) d.s d.t) (cellC d.a (reX d.X) d.s d.t)]
noncomputable def conds3 (c : Cd) (d : D3) (i : Nat) (ok : Bool) : List Bool := pre3 c d ++ (mid3 d i ++ (tail3 d ok ++ fin3 d))
def midD : Nat → List Bool
  | 0 => [false]
  | 1 => [true, false]
  | _ => [true, true, false]
def tailD : Bool → List Bool
  | false => [false, false, false]
  | true => [false, false, true, false, false, false]
def dirs3 (i : Nat) (ok : Bool) : List Bool := [false, false, false, false, false] ++ (midD i ++ (tailD ok ++ [true, true, true]))
noncomputable def last3 (d : D3) : Bool := pEq (cellZ d.a (reX d.X) d.s d.t).1 (cellZ d.a (reX d.X) d.s d.t).1 (cellZ d.a (reX d.X) d.s d.t).2 (cellZ d.a (reX d.X) d.s d.t).2
noncomputable def nds3 (c : Cd) (d : D3) (ok : Bool) : List Bool := cond ok [okB c c.off c.len, okB c c.off c.len, !(d.n == 0), okB c c.off c.len, okB c c.off c.len, okB c c.off c.len, okB c c.off c.len, okB c c.off c.len] [okB c c.off c.len, okB c c.off c.len, okB c c.off c.len, okB c c.off c.len]
theorem path3 (i : Nat) (hi : i = 0 ∨ i = 1 ∨ i = 2) (ok : Bool) (c : Cd) : (condsP (tabL3 3 [.sl false 0 c.off c.len 0] [codeB c false] [] fun v H nd => .ret v H nd) (dirs3 i ok), leafP ((tabL3 3 [.sl false 0 c.off c.len 0] [codeB c false] [] fun v H nd => .ret v H nd).at (dirs3 i ok))) =
    (conds3 c (d3 c) i ok, some (.b false (last3 (d3 c)), nds3 c (d3 c) ok)) := by
  rcases hi with rfl | rfl | rfl <;> cases ok <;> kernel_rfl
theorem path3_big (c : Cd) : (condsP (tabL3 3 [.sl false 0 c.off c.len 0] [codeB c false] [] fun v H nd => .ret v H nd) [true], leafP ((tabL3 3 [.sl false 0 c.off c.len 0] [codeB c false] [] fun v H nd => .ret v H nd).at [true])) =
    ([ltQ false 4096 (c.len : Int)], some (.b true true, [])) := by kernel_rfl

/-! ### The plain law -/
theorem w64'_id {a : Int} (h : -1000000 ≤ a ∧ a ≤ 1000000) : w64' a = a := wrap64_id (by omega) (by omega)
theorem pEq_self {x y : Nat} (hx : finB x = true) (hy : finB y = true) : pEq x x y y = true := by simp [pEq, feq_self hx, feq_self hy]
theorem per_add (k e : Int) (he : -100 ≤ e ∧ e ≤ 100) : phX (w64' (k.tmod 64 + e)) = phX (k + e) ∧ phY (w64' (k.tmod 64 + e)) = phY (k + e) := by
  have h := tmod64 k
  have hw : w64' (k.tmod 64 + e) = k.tmod 64 + e := w64'_id (by omega)
  rw [hw]
  exact ph_per (by omega)
theorem pre3_ok {c : Cd} (hb : ltQ false 4096 (c.len : Int) = false) (d : D3) : allT (pre3 c d) = true := by
  obtain ⟨h1, h2, h3, h4, _⟩ := ph_facts d.k
  unfold pre3
  rw [hb, (per_add d.k 64 (by decide)).1, (per_add d.k 64 (by decide)).2, (per_add d.k 32 (by decide)).1, (per_add d.k 32 (by decide)).2, (per_add d.k 16 (by decide)).1, (per_add d.k 16 (by decide)).2,
    (ph_per (k := d.k + 64) (k' := d.k) (by omega)).1, (ph_per (k := d.k + 64) (k' := d.k) (by omega)).2, h3, h4, pEq_self h1 h2]
  rfl
theorem mid3_ok (d : D3) : ∃ i, (i = 0 ∨ i = 1 ∨ i = 2) ∧ allT (mid3 d i) = true := by
  obtain ⟨_, _, _, _, h5⟩ := ph_facts d.k
  cases h16 : eqQ false ((d.k.tmod 64).tmod 16) 0 with
  | false => exact ⟨0, .inl rfl, by unfold mid3; rw [h16]; rfl⟩
  | true =>
    have hk : d.k % 16 = 0 := by
      rw [eqQ_eq, beq_iff_eq] at h16
      have := tmod64 d.k
      have e := Int.tmod_add_mul_tdiv (d.k.tmod 64) 16
      rw [h16] at e
      omega
    cases hx : feq .f32 (phX d.k) 0 with
    | true => exact ⟨1, .inr (.inl rfl), by unfold mid3; rw [h16, hx]; rfl⟩
    | false =>
      rcases h5 hk with h | h
      · rw [h] at hx; cases hx
      · exact ⟨2, .inr (.inr rfl), by unfold mid3; rw [h16, hx, h]; rfl⟩
theorem fin_zero : finB 0 = true := by kernel_rfl
theorem zeroB_zero : zeroB (0, 0) = true := by kernel_rfl
theorem planeX_fin (n u v : Int) (j : Nat) : finB (planeX n u v j).1 = true ∧ finB (planeX n u v j).2 = true := by
  unfold planeX
  split
  · obtain ⟨h1, h2, _⟩ := ph_facts (planeK n u v j)
    exact ⟨h1, h2⟩
  · exact ⟨fin_zero, fin_zero⟩
theorem eqQ_self (b : Bool) (x : Int) : eqQ b x x = true := by rw [eqQ_eq]; simp
theorem plane_isWave {n u v : Int} (h : planeOK n u v = true) : isWaveB n (planeX n u v) = true := by
  have hs : sideB n = true := by unfold planeOK at h; rw [Bool.and_eq_true] at h; exact h.1
  refine isWaveB_iff.2 ⟨sideB_iff.1 hs, fun j hj => ⟨wholeB_iff.2 (planeX_fin n u v j), fun hn => ?_⟩⟩
  have : Nat.blt j (n.toNat * n.toNat) = false := by
    cases hb : Nat.blt j (n.toNat * n.toNat) with
    | false => rfl
    | true => have := blt_true hb; omega
  unfold planeX
  rw [this, Bool.and_false]
  exact zeroB_zero
theorem tail3_no {d : D3} (h : planeOK d.n d.u d.v = false) : allT (tail3 d false) = true := by
  have he : eqW d.pn d.pX d.pn d.pX = true := eqW_self fun j => ⟨feq_self (planeX_fin _ _ _ j).1, feq_self (planeX_fin _ _ _ j).2⟩
  have hc : eqQ false d.pc 0 = false := by
    unfold D3.pc; rw [h]; rfl
  simp [tail3, allT, eqQ_self, he, hc]
theorem cell_idx {n y x : Int} (hn : n = 1 ∨ n = 2 ∨ n = 4 ∨ n = 8) (hy : 0 ≤ y ∧ y < n) (hx : 0 ≤ x ∧ x < n) :
    (n * y + x).toNat < 64 ∧ Nat.blt (n * y + x).toNat (n.toNat * n.toNat) = true ∧ (Int.ofNat (n * y + x).toNat).tdiv n = y ∧ (Int.ofNat (n * y + x).toNat).tmod n = x := by
  have h0 : 0 ≤ n * y + x := by rcases hn with rfl | rfl | rfl | rfl <;> omega
  have hb : (n * y + x).toNat < n.toNat * n.toNat := by rcases hn with rfl | rfl | rfl | rfl <;> simp <;> omega
  refine ⟨by rcases hn with rfl | rfl | rfl | rfl <;> simp at hb <;> omega, ?_, ?_⟩
  · cases h : Nat.blt (n * y + x).toNat (n.toNat * n.toNat) with
    | true => rfl
    | false => have := blt_false h; omega
  · have e : Int.ofNat (n * y + x).toNat = n * y + x := by simp; omega
    rw [e]
    rw [Int.tdiv_eq_ediv_of_nonneg h0, Int.tmod_eq_emod_of_nonneg h0]
    rcases hn with rfl | rfl | rfl | rfl <;> constructor <;> omega
theorem tail3_ok {d : D3} (h : planeOK d.n d.u d.v = true) (hy : 0 ≤ d.y ∧ (1 ≤ d.n → d.y < d.n)) (hx : 0 ≤ d.x ∧ (1 ≤ d.n → d.x < d.n)) : allT (tail3 d true) = true := by
  have he : eqW d.pn d.pX d.pn d.pX = true := eqW_self fun j => ⟨feq_self (planeX_fin _ _ _ j).1, feq_self (planeX_fin _ _ _ j).2⟩
  have hpn : d.pn = d.n := by unfold D3.pn; rw [h]; rfl
  have hc : eqQ false d.pc 0 = true := by unfold D3.pc; rw [h]; rfl
  have hw : isWaveB d.pn (reX d.pX) = true := by rw [isWaveB_re, hpn]; exact plane_isWave h
  have hh := h
  unfold planeOK at hh
  simp only [Bool.and_eq_true] at hh
  obtain ⟨hs, hu, hv⟩ := hh
  have hn := sideB_iff.1 hs
  have hu := inU_iff.1 hu
  have hv := inU_iff.1 hv
  have hy1 := hy.2 (by omega)
  have hx1 := hx.2 (by omega)
  have iy : inB d.y (d.n - 1) = true := by simp [inB]; omega
  have ix : inB d.x (d.n - 1) = true := by simp [inB]; omega
  have hcc : cellC d.pn (reX d.pX) d.y d.x = 0 := by
    unfold cellC
    rw [hw, hpn, iy, ix]; rfl
  have hok : cellOK d.pn (reX d.pX) d.y d.x = true := by
    unfold cellOK
    rw [hw, hpn, iy, ix]; rfl
  obtain ⟨hj, hb, e1⟩ := cell_idx hn ⟨hy.1, hy1⟩ ⟨hx.1, hx1⟩
  have hz : cellZ d.pn (reX d.pX) d.y d.x = (phX d.kk, phY d.kk) := by
    unfold cellZ
    rw [hok, hpn]
    simp only
    rw [reX_eq hj]
    have hX : d.pX (d.n * d.y + d.x).toNat = (phX ((d.u * d.x + d.v * d.y) * Int.tdiv 64 d.n), phY ((d.u * d.x + d.v * d.y) * Int.tdiv 64 d.n)) := by
      unfold D3.pX planeX
      rw [h, hb]
      simp only [Bool.and_self, planeK, e1.1, e1.2]
    rw [hX]
    simp only [(plus_phx _).1, (plus_phx _).2]
    have b1 := mul_bd hu (x := d.x) (by omega)
    have b2 := mul_bd hv (x := d.y) (by omega)
    have hkk : d.kk = (d.u * d.x + d.v * d.y) * Int.tdiv 64 d.n := by
      unfold D3.kk
      rw [w64'_id (a := d.u * d.x) (by omega), w64'_id (a := d.v * d.y) (by omega)]
      generalize d.u * d.x = p at *
      generalize d.v * d.y = q at *
      rw [w64'_id (a := p + q) (by omega)]
      have e64 : IntKind.i64.wrap (Int.tdiv 64 d.n) = Int.tdiv 64 d.n := by
        rcases hn with e | e | e | e <;> rw [e] <;> rfl
      rw [e64]
      refine w64'_id ?_
      rcases hn with e | e | e | e <;> rw [e]
      · rw [show Int.tdiv 64 1 = 64 from rfl]; omega
      · rw [show Int.tdiv 64 2 = 32 from rfl]; omega
      · rw [show Int.tdiv 64 4 = 16 from rfl]; omega
      · rw [show Int.tdiv 64 8 = 8 from rfl]; omega
    rw [hkk]
  obtain ⟨p1, p2, _⟩ := ph_facts d.kk
  simp [tail3, allT, eqQ_self, he, hc, hw, hcc, hz, pEq_self p1 p2]
theorem flatX_fin (n : Int) (z : Nat × Nat) (j : Nat) : feq .f32 (flatX n z j).1 (flatX n z j).1 = true ∧ feq .f32 (flatX n z j).2 (flatX n z j).2 = true := by
  unfold flatX
  split
  · rename_i h
    rw [Bool.and_eq_true] at h
    have h := h.1
    unfold flatOK at h
    rw [Bool.and_eq_true] at h
    have h := wholeB_iff.1 h.2
    exact ⟨feq_plus h.1, feq_plus h.2⟩
  · exact ⟨feq_zz, feq_zz⟩
theorem fin3_ok (d : D3) : allT (fin3 d) = true := by
  have he : eqW d.fn d.fX d.fn d.fX = true := eqW_self fun j => flatX_fin _ _ j
  simp [fin3, allT, eqQ_self, he]
theorem cell_self (n : Int) (X : Nat → Nat × Nat) (y x : Int) : pEq (cellZ n (reX X) y x).1 (cellZ n (reX X) y x).1 (cellZ n (reX X) y x).2 (cellZ n (reX X) y x).2 = true := by
  unfold cellZ
  split
  · rename_i h
    unfold cellOK at h
    simp only [Bool.and_eq_true] at h
    obtain ⟨hw, hy, hx⟩ := h
    obtain ⟨hn, hj⟩ := isWaveB_iff.1 hw
    have hy := inB_iff.1 hy
    have hx := inB_iff.1 hx
    have hlt : (n * y + x).toNat < 64 := (cell_idx hn ⟨hy.1, by omega⟩ ⟨hx.1, by omega⟩).1
    have := wholeB_iff.1 (hj _ hlt).1
    simp [pEq, feq_plus this.1, feq_plus this.2]
  · simp [pEq, feq_zz]
theorem last3_ok (d : D3) : last3 d = true := cell_self _ _ _ _
theorem nds3_ok {c : Cd} (hc : goodB c = true) {d : D3} {ok : Bool} (h : planeOK d.n d.u d.v = ok) : allT (nds3 c d ok) = true := by
  have hk : okB c c.off c.len = true := by simp [okB, hc]
  unfold nds3
  rw [hk]
  cases ok with
  | false => rfl
  | true =>
    have hn : (d.n == 0) = false := by
      unfold planeOK at h
      rw [Bool.and_eq_true] at h
      have := sideB_iff.1 h.1
      simp; omega
    rw [hn]; rfl
theorem law3_ok (c : Cd) (hc : goodB c = true ∨ 4096 < c.len) : ∃ H', CallOK Try.prog 3 [.sl false 0 c.off c.len 0] [codeB c false] (.b false true) H' := by
  cases hb : ltQ false 4096 (c.len : Int) with
  | true =>
    obtain ⟨H', k⟩ := call_of_path tabL3_sound (path3_big c) (by rw [hb]; rfl) rfl
    exact ⟨H', k.weaken fun σ x r => by cases r; exact .b _⟩
  | false =>
    have hg : goodB c = true := by
      rcases hc with h | h
      · exact h
      · rw [ltQ_eq] at hb
        simp at hb; omega
    obtain ⟨i, hi, hm⟩ := mid3_ok (d3 c)
    have key : ∀ ok, planeOK (d3 c).n (d3 c).u (d3 c).v = ok → allT (tail3 (d3 c) ok) = true → ∃ H', CallOK Try.prog 3 [.sl false 0 c.off c.len 0] [codeB c false] (.b false true) H' := fun ok h1 h2 => by
      obtain ⟨H', k⟩ := call_of_path tabL3_sound (path3 i hi ok c) (by
        unfold conds3
        simp only [allT_append, pre3_ok hb, hm, h2, fin3_ok, Bool.and_self]) (nds3_ok hg h1)
      rw [last3_ok] at k
      exact ⟨H', k⟩
    cases hp : planeOK (d3 c).n (d3 c).u (d3 c).v with
    | false => exact key false hp (tail3_no hp)
    | true => exact key true hp (tail3_ok hp (beV_bound hg _ _ _) (beV_bound hg _ _ _))
end Go.Ax

/- From the calls of a law on every text of bytes to the given statement. -/
namespace Go.Proofs.Ytdcjjibekhcplaa
open Go.ChangeShapes Go.WideShapes Go.ChangeAt Go.RowKit Go.Ax

theorem Try.own : ownKnob Try.prog.godebug = none := by kernel_rfl
theorem Try.laidOut : laidOutB Try.prog = true := by kernel_rfl
theorem cells5 : Try.prog.cellsOf 5 = 1 := by kernel_rfl
/-- What is to be shown of a law: it comes back with true from every text of bytes. -/
def LawOK (f : FuncId) : Prop := ∀ c : Cd, goodB c = true ∨ 4096 < c.len → ∃ H', CallOK Try.prog f [.sl false 0 c.off c.len 0] [codeB c false] (.b false true) H'
theorem law_calls {f : FuncId} (h : LawOK f) (c : Cd) (hc : goodB c = true ∨ 4096 < c.len) {σ : List (Nat × Nat)} {W : World} (s : Sim σ [codeB c false] W) {v : Value} (hv : Rel σ (.sl false 0 c.off c.len 0) v) :
    Calls Try.prog f #[v] W fun e W' => e = .returned (.bool true) ∧ Below W.heap.size W W' := by
  obtain ⟨H', k⟩ := h c hc
  refine (k σ W #[v] s (.cons hv .nil)).mono ?_
  rintro e W' ⟨rv, rfl, σ', r1, s1, F⟩
  cases r1
  refine ⟨rfl, F.os, F.tape, F.output, F.size, fun b hb => F.old b hb fun i z hr => ?_⟩
  match i with
  | 0 => simp [getB, codeB, AB.rw] at hr
  | i + 1 => simp [getB, AB.rw] at hr
theorem sim_code {W : World} {b z : Nat} {c : Cd} {cs : Array Value} {e : TypeId} {fr : Nat × Nat} (h : W.heap[b]? = some (.cells cs e fr)) (hz : cs.size = z) (hx : ∀ (j : Nat) (x : Int), c.bytes[j]? = some x → cs[c.off + j]? = some (.int .u8 x)) : Sim [(b, z)] [codeB c false] W := by
  refine ⟨rfl, fun i b' z' hb => ?_, fun i j b' z1 z2 hi hj hr _ => ?_⟩
  · match i, hb with
    | 0, hb => cases hb; exact ⟨cs, e, fr, h, hx, hz⟩
    | i + 1, hb => simp at hb
  · match i, hi with
    | 0, _ => simp [getB, codeB, AB.rw] at hr
    | i + 1, hi => simp at hi
theorem wf_u8 {n : Int} (h : (Lit.int .u8 n).wf = true) : 0 ≤ n ∧ n < 256 := by
  simp [Lit.wf, IntKind.min, IntKind.max, IntKind.signed, IntKind.bits] at h
  omega
/-- A slice of bytes that can be read, as a text of bytes. -/
theorem law_any {H : Type} {enc : TypeId × Value → H} {f : FuncId} (h : LawOK f) {W : World} (hsh : W.ShapedOpen Try.prog) {v : Value} {fuel : Nat} {x : DataW H × List MemPlace}
    (hf : DataW.trod enc Try.prog W 0 (fun _ => true) true fuel 22 v.cells.toList = some x) (hv : ∃ a len cap, v = .slice a len cap) : Calls Try.prog f #[v] W fun e W' => e = .returned (.bool true) ∧ Below W.heap.size W W' := by
  have nil_like : ∀ a : Option Addr, v = .slice a 0 0 → Calls Try.prog f #[v] W fun e W' => e = .returned (.bool true) ∧ Below W.heap.size W W' := fun a ha => by
    obtain ⟨cs, hcs, _, _⟩ := hsh.1 0 #[.bool false] 4 (of_decide_eq_true (by kernel_rfl)) (by kernel_rfl)
    refine law_calls h ⟨[], 0, 0⟩ (.inl rfl) (σ := [(0, cs.size)]) (sim_code hcs rfl fun j x hx => by simp at hx) ?_
    rw [ha]; exact .slz
  obtain ⟨a0, len0, cap0, rfl⟩ := hv
  rcases open_ints Try.underlying22 Try.underlying5 cells5 hf with ⟨hcs, _⟩ | ⟨a, len, cap, zs, hcs, _, hl, _, hz, _, hcell, hwz⟩
  · simp [Value.cells] at hcs
    obtain ⟨rfl, rfl, rfl⟩ := hcs
    exact nil_like _ rfl
  · simp [Value.cells] at hcs
    obtain ⟨rfl, rfl, rfl⟩ := hcs
    simp only [if_true] at hz
    by_cases h0 : cap0 = 0
    · have : len0 = 0 := by omega
      subst h0; subst this
      exact nil_like _ rfl
    · obtain ⟨b, off, spot⟩ := a
      have hspot : spot = none := by simpa [Addr.add] using World.cell?_spot (hcell 0 (by omega))
      subst hspot
      have hcell' : ∀ j, j < zs.length → W.cell? ⟨b, off + j, none⟩ = some (.int .u8 (zs.getD j 0)) := fun j hj => by
        have := hcell j hj
        rwa [addr_add] at this
      have h1 := hcell' 0 (by omega)
      have hblk : ∃ cs e fr, W.heap[b]? = some (.cells cs e fr) := by
        unfold World.cell? at h1
        simp only at h1
        split at h1 <;> first | exact ⟨_, _, _, by assumption⟩ | (cases h1; done)
      obtain ⟨cs, e, fr, hcs⟩ := hblk
      have hx : ∀ (j : Nat) (x : Int), zs[j]? = some x → cs[off + j]? = some (.int .u8 x) := fun j x hj => by
        have hjl : j < zs.length := (List.getElem?_eq_some_iff.1 hj).1
        have := hcell' j hjl
        simp only [World.cell?, hcs] at this
        rw [List.getD_eq_getElem?_getD, hj] at this
        exact this
      have hoff : off < cs.size := by
        have := hx 0 (zs.getD 0 0) (by rw [List.getD_eq_getElem?_getD]; cases hz0 : zs[0]? with
          | none => rw [List.getElem?_eq_none_iff] at hz0; omega
          | some y => rfl)
        rcases Nat.lt_or_ge off cs.size with h' | h'
        · exact h'
        · rw [Nat.add_zero, Array.getElem?_eq_none h'] at this; cases this
      refine law_calls h ⟨zs, off, len0⟩ ?_ (σ := [(b, cs.size)]) (sim_code hcs rfl hx) (.sl (b := b) (c := cs.size) (by rfl) hl (show off + cap0 * 0 ≤ cs.size by omega))
      by_cases hb : 4096 < len0
      · exact .inr hb
      · refine .inl ?_
        simp only [goodB, Bool.and_eq_true, decide_eq_true_eq, List.all_eq_true]
        refine ⟨⟨by omega, by omega⟩, fun n hn => ?_⟩
        exact wf_u8 (hwz n hn)
end Go.Proofs.Ytdcjjibekhcplaa

/- The statement, out of the calls of the law. -/
namespace Go.Proofs.Ytdcjjibekhcplaa
open Go.ChangeShapes Go.WideShapes Go.ChangeAt Go.RowKit Go.Ax

set_option maxRecDepth 100000 in
theorem phases_lifted (hlaw : LawOK 3) (os : Os) (started : os.Started) (H : Type) (enc : TypeId × Value → H) :
    ReturnsInHanded {} Try.checked os 3 .any (Rows.fnPhasesSpec.pre6 enc Try.prog Try.f3 Rows.fnPhasesRow.domain false) (Rows.fnPhasesSpec.post enc Try.prog Try.f3 false true false false) := by
  refine returnsInHanded_of_change_shaped (C := Try.checked) Try.own started (by kernel_rfl) Try.func3
    (ChangeSpec.witness6 (enc := enc) (C := Try.checked) false ⟨#[.cells #[.int .u8 0] 5], #[.slice (some ⟨(World.settled Try.prog os).heap.size, 0, none⟩) 1 1], []⟩ 8 (by kernel_rfl) (by kernel_rfl) (by kernel_rfl) (by kernel_rfl)) ?_
  intro W base args ds gs before hval0 hW _ _ hsh _
  have hval : ∀ (j : Nat) t v, Try.f3.params[j]? = some t → args[j]? = some v → Value.okWide Try.prog W .any base t v := hval0
  have hW' := hW
  obtain ⟨p, q, hA0, hV, rfl, _, _⟩ := hW
  have hA : DataW.TrodAll enc Try.prog W 0 (fun _ => true) true Try.f3.params.toList args.toList ds p := hA0
  rw [Try.params3] at hA hval
  obtain ⟨v0, d0, rfl, rfl, h0⟩ := trodAll_one hA
  obtain ⟨rfl, rfl⟩ := trodVars_none hV
  have h0k := h0
  obtain ⟨fuel, hf⟩ := h0
  clear hA0 hval0
  simp only [List.append_nil] at hW'
  have hlt : ∀ x ∈ p, x.block < W.heap.size := fun x hx => by simpa using hW'.lt x hx
  have hargs : ∀ (W' : World), Below W.heap.size W W' → DataW.Trod enc Try.prog W' 0 (fun b => decide (b < W.heap.size)) true 22 v0 d0 p :=
    fun W' hn => Below.trod Try.laidOut (by kernel_rfl) (of_decide_eq_true (by kernel_rfl)) h0k hn hlt
  refine (law_any hlaw hsh hf (okWide_slice Try.underlying22 (hval 0 22 v0 rfl rfl))).mono fun e W' ⟨he, hn⟩ => ?_
  subst he
  exact ⟨_, rfl, ⟨_, _, _, [], _, [], hW', trodAll_mk1 (shut_bool Try.underlying4 true), trodAll_mk1 (hargs _ hn), rfl, hn.frame _, fun h => by cases h⟩⟩
theorem phases_said (hlaw : LawOK 3) : Rows.FnPhasesSaid :=
  OpenClaim.holds_of_wide 3 Try.f3 rfl rfl rfl rfl rfl rfl rfl ⟨rfl, rfl, rfl, rfl, rfl⟩ rfl rfl rfl rfl rfl (by kernel_rfl) Try.func3 (by kernel_rfl)
    (of_decide_eq_true (by kernel_rfl)) (by unfold Func.isWrapper; rw [if_neg (by decide +kernel)]; exact ⟨rfl, rfl⟩)
    (fun os started H enc _ => phases_lifted hlaw os started H enc)
end Go.Proofs.Ytdcjjibekhcplaa
