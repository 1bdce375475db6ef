/- Waves: what the tests of waves come to. -/
import Derived.Test.YtdcjjibekhcplaaGreatBaj
import Derived.Test.YtdcjjibekhcplaaGreatProg
import Derived.KernelRfl
namespace Go.Ax
open Go Go.Proofs

noncomputable def wholeB (z : Nat × Nat) : Bool := cond (finB z.1) (finB z.2) false
noncomputable def zeroB (z : Nat × Nat) : Bool := feq .f32 z.1 0 && feq .f32 z.2 0
/-- The tests of the cells of a wave, from one on; the last one's form is its own. -/
noncomputable def isWF (N : Nat) (X : Nat → Nat × Nat) : Nat → Nat → Bool
  | 0, j => match Nat.ble N j with
    | true => cond (!wholeB (X j)) false (!(!zeroB (X j)))
    | false => !(!wholeB (X j))
  | m + 1, j => match Nat.ble N j with
    | true => cond (!wholeB (X j)) false (cond (!zeroB (X j)) false (isWF N X m (Nat.succ j)))
    | false => cond (!wholeB (X j)) false (isWF N X m (Nat.succ j))
theorem isWF_iff (N : Nat) (X : Nat → Nat × Nat) : ∀ (m j : Nat), isWF N X m j = true ↔ ∀ i, i ≤ m → wholeB (X (j + i)) = true ∧ (N ≤ j + i → zeroB (X (j + i)) = true)
  | 0, j => by
    unfold isWF
    constructor
    · intro h i hi
      have : i = 0 := by omega
      subst this
      rw [Nat.add_zero]
      split at h
      · cases hw : wholeB (X j) <;> rw [hw] at h <;> simp at h
        exact ⟨rfl, fun _ => h⟩
      · rename_i hb
        simp at h
        exact ⟨h, fun hn => by have := Nat.ble_eq_true_of_le hn; rw [this] at hb; cases hb⟩
    · intro h
      obtain ⟨h1, h2⟩ := h 0 (Nat.le_refl 0)
      rw [Nat.add_zero] at h1 h2
      split
      · rename_i hb
        rw [h1, h2 (Nat.le_of_ble_eq_true hb)]; rfl
      · rw [h1]; rfl
  | m + 1, j => by
    have ih := isWF_iff N X m (j + 1)
    unfold isWF
    rw [Nat.succ_eq_add_one]
    have key : (∀ i, i ≤ m + 1 → wholeB (X (j + i)) = true ∧ (N ≤ j + i → zeroB (X (j + i)) = true)) ↔ (wholeB (X j) = true ∧ (N ≤ j → zeroB (X j) = true)) ∧ isWF N X m (j + 1) = true := by
      rw [ih]
      constructor
      · intro h
        refine ⟨h 0 (by omega), fun i hi => ?_⟩
        have := h (i + 1) (by omega)
        rwa [show j + (i + 1) = j + 1 + i by omega] at this
      · rintro ⟨h0, h⟩ i hi
        cases i with
        | zero => exact h0
        | succ i =>
          have := h i (by omega)
          rwa [show j + 1 + i = j + (i + 1) by omega] at this
    rw [key]
    split
    · rename_i hb
      have hb := Nat.le_of_ble_eq_true hb
      cases wholeB (X j) <;> cases zeroB (X j) <;> simp [hb]
    · rename_i hb
      have hb : ¬ N ≤ j := fun hn => by have := Nat.ble_eq_true_of_le hn; rw [this] at hb; cases hb
      cases wholeB (X j) <;> simp [hb]
def sideB (n : Int) : Bool := n == 1 || (n == 2 || (n == 4 || n == 8))
theorem sideB_iff {n : Int} : sideB n = true ↔ n = 1 ∨ n = 2 ∨ n = 4 ∨ n = 8 := by simp [sideB]
noncomputable def isWaveB (n : Int) (X : Nat → Nat × Nat) : Bool := sideB n && isWF (n.toNat * n.toNat) X 63 0
theorem isWaveB_iff {n : Int} {X : Nat → Nat × Nat} : isWaveB n X = true ↔ (n = 1 ∨ n = 2 ∨ n = 4 ∨ n = 8) ∧ ∀ j, j < 64 → wholeB (X j) = true ∧ (n.toNat * n.toNat ≤ j → zeroB (X j) = true) := by
  unfold isWaveB
  rw [Bool.and_eq_true, sideB_iff, isWF_iff]
  constructor
  · rintro ⟨h1, h2⟩
    exact ⟨h1, fun j hj => by simpa using h2 j (by omega)⟩
  · rintro ⟨h1, h2⟩
    exact ⟨h1, fun j hj => by simpa using h2 j (by omega)⟩

/-- A wave as a value. -/
def waveL (n : Int) (X : Nat → Nat × Nat) : List AV := .i false .i64 n :: (List.range 64).map (cx X)
def wvT (l : Bool) (n : Int) (X : Nat → Nat × Nat) : AV := .agg (.i l .i64 n :: (List.range 64).map (cx X))
def wv (n : Int) (X : Nat → Nat × Nat) : AV := .agg (waveL n X)
theorem RelL.unbare {σ : List (Nat × Nat)} : ∀ {l : List AV} {v : List Value}, RelL σ (l.map AV.bare) v → RelL σ l v
  | [], _, h => h
  | a :: l, _, h => by
    cases h with | cons h hs => exact .cons h.unbare (RelL.unbare hs)
theorem RelL.bare {σ : List (Nat × Nat)} : ∀ {l : List AV} {v : List Value}, RelL σ l v → RelL σ (l.map AV.bare) v
  | _, _, .nil => .nil
  | _, _, .cons h hs => .cons h.bare (RelL.bare hs)
theorem agg_bare {l l' : List AV} (h : l.map AV.bare = l'.map AV.bare) {σ : List (Nat × Nat)} {v : Value} (r : Rel σ (.agg l) v) : Rel σ (.agg l') v := by
  cases r with | agg r => exact .agg (RelL.unbare (h ▸ r.bare))
/-- Values that say the same, tags aside. -/
def AV.deep : AV → AV
  | .agg l => .agg (l.map AV.bare)
  | a => a.bare
theorem Rel.deep {σ : List (Nat × Nat)} {a : AV} {v : Value} (r : Rel σ a v) : Rel σ a.deep v := by
  cases a
  case agg l => cases r with | agg r => exact .agg r.bare
  all_goals exact r.bare
theorem Rel.undeep {σ : List (Nat × Nat)} {a : AV} {v : Value} (r : Rel σ a.deep v) : Rel σ a v := by
  cases a
  case agg l => cases r with | agg r => exact .agg r.unbare
  all_goals exact r.unbare
theorem relL_deep {σ : List (Nat × Nat)} : ∀ {l l' : List AV} {v : List Value}, l.map AV.deep = l'.map AV.deep → RelL σ l v → RelL σ l' v
  | [], [], _, _, h => h
  | [], _ :: _, _, e, _ => by cases e
  | _ :: _, [], _, e, _ => by cases e
  | a :: l, b :: l', _, e, h => by
    simp only [List.map_cons, List.cons.injEq] at e
    cases h with | cons h hs => exact .cons (e.1 ▸ h.deep).undeep (relL_deep e.2 hs)
theorem CallOK.deep {P : Program} {f : FuncId} {args args' : List AV} {v : AV} {H H' : List AB} (h : CallOK P f args H v H') (hb : args'.map AV.deep = args.map AV.deep) : CallOK P f args' H v H' := fun σ w rargs s hra =>
  h σ w rargs s (relL_deep hb hra)

noncomputable def tabW : Table := tabOf (cdeep Tryz.prog [] [] 3000 8)
theorem tabW_sound : SoundT Tryz.prog tabW := cdeep_sound (fun p hp => by cases hp) 8
theorem is_run (f : FuncId) (hf : f = 137 ∨ f = 162) (X : Nat → Nat × Nat) : (∀ n ∈ ([1, 2, 4, 8] : List Int), joinR 0 (tabW f [wvT true n X] [] [] fun v H nd => .ret v H nd) = some (.b false (isWF (n.toNat * n.toNat) X 63 0), [])) := by
  intro n hn
  simp only [List.mem_cons, List.not_mem_nil, or_false] at hn
  rcases hf with rfl | rfl <;> rcases hn with rfl | rfl | rfl | rfl <;> kernel_rfl

/-! ### Numbers that are no sides -/
theorem side_run (f : FuncId) (hf : f = 123 ∨ f = 108) (n : Int) : joinR 0 (tabW f [.i false .i64 n] [] [] fun v H nd => .ret v H nd) = some (.b false (cond (n == 1) true (cond (n == 2) true (cond (n == 4) true (n == 8)))), []) := by
  rcases hf with rfl | rfl <;> kernel_rfl
def gNoSide : List AV → Option (AV × List Bool)
  | [.i false .i64 n] => some (.b true false, [!sideB n])
  | _ => none
theorem noSide_at (f : FuncId) (hf : f = 123 ∨ f = 108) : SoundAt Tryz.prog f (pureT gNoSide) := fun args H nd K => by
  refine pureT_sound (fun args v n h hn H => ?_) args H nd K
  unfold gNoSide at h
  split at h <;> cases h
  rename_i n
  have hs : sideB n = false := by simpa [allT] using hn
  have := call_of_join tabW_sound (side_run f hf n) rfl rfl H
  refine this.weaken fun σ x r => ?_
  have e : cond (n == 1) true (cond (n == 2) true (cond (n == 4) true (n == 8))) = false := by
    rw [← hs]; unfold sideB; cases n == 1 <;> cases n == 2 <;> cases n == 4 <;> rfl
  rw [e] at r
  cases r; exact .b _
noncomputable def rowsN : List (FuncId × Table) := [(123, pureT gNoSide), (108, pureT gNoSide)]
theorem rowsN_at : ∀ p ∈ rowsN, SoundAt Tryz.prog p.1 p.2 := fun p hp => by
  simp only [rowsN, List.mem_cons, List.not_mem_nil, or_false] at hp
  rcases hp with rfl | rfl
  · exact noSide_at 123 (.inl rfl)
  · exact noSide_at 108 (.inr rfl)
noncomputable def tabN : Table := tabOf (cdeep Tryz.prog rowsN [] 3000 8)
theorem tabN_sound : SoundT Tryz.prog tabN := cdeep_sound rowsN_at 8
theorem is_no (f : FuncId) (hf : f = 137 ∨ f = 162) (n : Int) (X : Nat → Nat × Nat) : joinR 0 (tabN f [wvT false n X] [] [] fun v H nd => .ret v H nd) = some (.b true false, [!sideB n]) := by
  rcases hf with rfl | rfl <;> kernel_rfl
theorem is_ok (f : FuncId) (hf : f = 137 ∨ f = 162) (n : Int) (X : Nat → Nat × Nat) (H : List AB) : CallOK Tryz.prog f [wv n X] H (.b false (isWaveB n X)) H := by
  by_cases hs : sideB n = true
  · have hn := sideB_iff.1 hs
    have := call_of_join tabW_sound (is_run f hf X n (by simpa using hn)) rfl rfl H
    have e : isWaveB n X = isWF (n.toNat * n.toNat) X 63 0 := by simp [isWaveB, hs]
    rw [e]
    exact this.deep rfl
  · have hs : sideB n = false := by simpa using hs
    have := call_of_join tabN_sound (is_no f hf n X) (by simp [allT, hs]) rfl H
    have e : isWaveB n X = false := by simp [isWaveB, hs]
    rw [e]
    exact (this.deep (args' := [wv n X]) rfl).weaken fun σ x r => by cases r; exact .b _
end Go.Ax
