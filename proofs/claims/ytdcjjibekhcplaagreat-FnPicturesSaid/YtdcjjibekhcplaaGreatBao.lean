/- Pictures: what the tests of pictures come to; rows. -/
import Derived.Test.YtdcjjibekhcplaaGreatBan
namespace Go.Ax
open Go Go.Proofs

noncomputable def tabJ0 : Table := tabOf (jdeep Tryz.prog [] [] 3000 8)
theorem tabJ0_sound : SoundT Tryz.prog tabJ0 := jdeep_sound (fun p hp => by cases hp) 8

def fx (X : Nat → Nat) (j : Nat) : AV := .f false .f32 (X j)
/-- A picture as a value. -/
def picL (n : Int) (X : Nat → Nat) : List AV := .i false .i64 n :: (List.range 64).map (fx X)
def pvT (l : Bool) (n : Int) (X : Nat → Nat) : AV := .agg (.i l .i64 n :: (List.range 64).map (fx X))
def pv (n : Int) (X : Nat → Nat) : AV := .agg (picL n X)
/-- A cell that no picture has. -/
noncomputable def pcB (N : Nat) (X : Nat → Nat) (j : Nat) : Bool := match Nat.ble N j with
  | true => cond (!finB (X j)) true (cond (flt .f32 (X j) 0) true (!feq .f32 (X j) 0))
  | false => cond (!finB (X j)) true (flt .f32 (X j) 0)
noncomputable def isPF (N : Nat) (X : Nat → Nat) : Nat → Nat → Bool
  | 0, j => !pcB N X j
  | m + 1, j => cond (pcB N X j) false (isPF N X m (Nat.succ j))
theorem isPF_iff (N : Nat) (X : Nat → Nat) : ∀ (m j : Nat), isPF N X m j = true ↔ ∀ i, i ≤ m → pcB N X (j + i) = false
  | 0, j => by
    unfold isPF
    constructor
    · intro h i hi
      have : i = 0 := by omega
      subst this
      simpa using h
    · intro h
      simpa using h 0 (Nat.le_refl 0)
  | m + 1, j => by
    have ih := isPF_iff N X m (j + 1)
    unfold isPF
    rw [Nat.succ_eq_add_one]
    have key : (∀ i, i ≤ m + 1 → pcB N X (j + i) = false) ↔ pcB N X j = false ∧ isPF N X m (j + 1) = true := by
      rw [ih]
      constructor
      · intro h
        refine ⟨h 0 (by omega), fun i hi => ?_⟩
        have := h (i + 1) (by omega)
        rwa [show j + (i + 1) = j + 1 + i by omega] at this
      · rintro ⟨h0, h⟩ i hi
        cases i with
        | zero => exact h0
        | succ i =>
          have := h i (by omega)
          rwa [show j + 1 + i = j + (i + 1) by omega] at this
    rw [key]
    cases pcB N X j <;> simp
noncomputable def isPicB (n : Int) (X : Nat → Nat) : Bool := sideB n && isPF (n.toNat * n.toNat) X 63 0
theorem isPicB_iff {n : Int} {X : Nat → Nat} : isPicB n X = true ↔ (n = 1 ∨ n = 2 ∨ n = 4 ∨ n = 8) ∧ ∀ j, j < 64 → finB (X j) = true ∧ flt .f32 (X j) 0 = false ∧ (n.toNat * n.toNat ≤ j → feq .f32 (X j) 0 = true) := by
  unfold isPicB
  rw [Bool.and_eq_true, sideB_iff, isPF_iff]
  have key : ∀ j, pcB (n.toNat * n.toNat) X j = false ↔ finB (X j) = true ∧ flt .f32 (X j) 0 = false ∧ (n.toNat * n.toNat ≤ j → feq .f32 (X j) 0 = true) := fun j => by
    unfold pcB
    cases hb : Nat.ble (n.toNat * n.toNat) j with
    | true =>
      have hb := Nat.le_of_ble_eq_true hb
      cases finB (X j) <;> cases flt .f32 (X j) 0 <;> cases feq .f32 (X j) 0 <;> simp [hb]
    | false =>
      have hb : ¬ n.toNat * n.toNat ≤ j := fun hn => by have := Nat.ble_eq_true_of_le hn; rw [this] at hb; cases hb
      cases finB (X j) <;> cases flt .f32 (X j) 0 <;> simp [hb]
  constructor
  · rintro ⟨h1, h2⟩
    exact ⟨h1, fun j hj => (key j).1 (by simpa using h2 j (by omega))⟩
  · rintro ⟨h1, h2⟩
    exact ⟨h1, fun j hj => by rw [Nat.zero_add]; exact (key j).2 (h2 j (by omega))⟩
theorem isPic_run (f : FuncId) (hf : f = 184 ∨ f = 176) (X : Nat → Nat) : (∀ n ∈ ([1, 2, 4, 8] : List Int), joinR 0 (tabJ0 f [pvT true n X] [] [] fun v H nd => .ret v H nd) = some (.b false (isPF (n.toNat * n.toNat) X 63 0), [])) := by
  intro n hn
  simp only [List.mem_cons, List.not_mem_nil, or_false] at hn
  rcases hf with rfl | rfl <;> rcases hn with rfl | rfl | rfl | rfl <;> kernel_rfl
noncomputable def tabJN0 : Table := tabOf (jdeep Tryz.prog rowsN [] 3000 8)
theorem tabJN0_sound : SoundT Tryz.prog tabJN0 := jdeep_sound rowsN_at 8
theorem isPic_no (f : FuncId) (hf : f = 184 ∨ f = 176) (n : Int) (X : Nat → Nat) : joinR 0 (tabJN0 f [pvT false n X] [] [] fun v H nd => .ret v H nd) = some (.b true false, [!sideB n]) := by
  rcases hf with rfl | rfl <;> kernel_rfl
theorem isPic_ok (f : FuncId) (hf : f = 184 ∨ f = 176) (n : Int) (X : Nat → Nat) (H : List AB) : CallOK Tryz.prog f [pv n X] H (.b false (isPicB n X)) H := by
  by_cases hs : sideB n = true
  · have hn := sideB_iff.1 hs
    have := call_of_join tabJ0_sound (isPic_run f hf X n (by simpa using hn)) rfl rfl H
    have e : isPicB n X = isPF (n.toNat * n.toNat) X 63 0 := by simp [isPicB, hs]
    rw [e]
    exact this.deep rfl
  · have hs : sideB n = false := by simpa using hs
    have := call_of_join tabJN0_sound (isPic_no f hf n X) (by simp [allT, hs]) rfl H
    have e : isPicB n X = false := by simp [isPicB, hs]
    rw [e]
    exact (this.deep (args' := [pv n X]) rfl).weaken fun σ x r => by cases r; exact .b _
/-! ### Rows on pictures -/
/-- The numbers of a picture. -/
def ofP : List AV → Option (Int × (Nat → Nat))
  | .i _ .i64 n :: l => match asF32 l with
    | some xs => match Nat.beq xs.length 64 with
      | true => some (n, fun j => xs.getD j 0)
      | false => none
    | none => none
  | _ => none
theorem asF32_bareP : ∀ {l : List AV} {xs : List Nat}, asF32 l = some xs → l.map AV.bare = xs.map (.f false .f32)
  | [], xs, h => by cases h; rfl
  | a :: l, xs, h => by
    unfold asF32 at h
    split at h <;> (try (cases h; done))
    · rename_i e; cases e
    · rename_i x l' e
      cases e
      split at h <;> cases h
      rename_i r hr
      simp [AV.bare, asF32_bareP hr]
theorem ofP_spec {l : List AV} {n : Int} {X : Nat → Nat} (h : ofP l = some (n, X)) : (AV.agg l).deep = (pv n X).deep := by
  unfold ofP at h
  split at h <;> (try (cases h; done))
  split at h <;> (try (cases h; done))
  rename_i xs hx
  split at h <;> (try (cases h; done))
  rename_i hlen
  simp only [Option.some.injEq, Prod.mk.injEq] at h
  obtain ⟨rfl, rfl⟩ := h
  have e1 := asF32_bareP hx
  rw [map_range_getD (fun z => AV.f false .f32 z) 0 xs 64 (Nat.eq_of_beq_eq_true hlen)] at e1
  simp only [AV.deep, pv, picL, List.map_cons, e1]
  rw [List.map_map]
  rfl
noncomputable def gIsPic : List AV → Option (AV × List Bool)
  | [.agg l] => match ofP l with
    | some (n, X) => some (.b false (isPicB n X), [])
    | none => none
  | _ => none
theorem isPic_at (f : FuncId) (hf : f = 184 ∨ f = 176) : SoundAt Tryz.prog f (pureT gIsPic) := fun args H nd K => by
  refine pureT_sound (fun args v n h hn H => ?_) args H nd K
  unfold gIsPic at h
  split at h <;> (try (cases h; done))
  split at h <;> cases h
  rename_i hl
  exact (isPic_ok f hf _ _ H).deep (by simp [ofP_spec hl])
/-! ### Pictures read from their values -/
def reP (X : Nat → Nat) : Nat → Nat := fun j => ((List.range 64).map fun i => X i).getD j 0
theorem reP_eq {X : Nat → Nat} {j : Nat} (h : j < 64) : reP X j = X j := by
  simp [reP, List.getD_eq_getElem?_getD, List.getElem?_range h]
theorem isPicB_re {n : Int} {X : Nat → Nat} : isPicB n (reP X) = isPicB n X := by
  rw [Bool.eq_iff_iff, isPicB_iff, isPicB_iff]
  constructor
  · rintro ⟨h1, h2⟩
    exact ⟨h1, fun j hj => by have := h2 j hj; rwa [reP_eq hj] at this⟩
  · rintro ⟨h1, h2⟩
    exact ⟨h1, fun j hj => by rw [reP_eq hj]; exact h2 j hj⟩
/-- Whether two pictures have the same cells. -/
def eqP (X Y : Nat → Nat) : Nat → Nat → Bool
  | 0, _ => true
  | m + 1, j => feq .f32 (X j) (Y j) && eqP X Y m (Nat.succ j)
theorem eqP_of {X Y : Nat → Nat} : ∀ (m j : Nat), (∀ i, j ≤ i → i < j + m → feq .f32 (X i) (Y i) = true) → eqP X Y m j = true
  | 0, _, _ => rfl
  | m + 1, j, h => by
    rw [eqP, h j (Nat.le_refl _) (by omega), eqP_of m (j + 1) fun i hi hm => h i (by omega) (by omega)]
    rfl
end Go.Ax
