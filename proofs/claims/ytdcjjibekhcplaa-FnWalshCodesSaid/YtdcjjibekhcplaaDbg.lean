/- Codes of Walsh: orthogonal; sums by codes as products; the greater of two. -/
import Derived.Test.YtdcjjibekhcplaaDbf
namespace Go.Ax
open Go Go.Proofs

def walI (k j : Nat) : Int := cond (popP 7 (Nat.land k j) false) (-1) 1
theorem walF_isI (k j : Nat) : isI (walF k j) (walI k j) ∧ (walI k j).natAbs ≤ 1 := by
  unfold walF walI
  cases popP 7 (Nat.land k j) false with
  | true => exact ⟨isI_neg1, by decide⟩
  | false => exact ⟨isI_one, by decide⟩
def dl (k i : Nat) : Int := cond (Nat.beq i k) 1 0
theorem dl_eq (k i : Nat) : dl k i = if i = k then 1 else 0 := by
  unfold dl
  cases h : Nat.beq i k with
  | true => rw [if_pos (Nat.eq_of_beq_eq_true h)]; rfl
  | false =>
    rw [if_neg]
    · rfl
    · rintro rfl
      rw [Nat.beq_refl] at h; cases h
theorem wal_dl : (List.range 7).all (fun m => (List.range (2 ^ m)).all fun k => (List.range (2 ^ m)).all fun j => decide (hdI m (dl k) j = walI k j)) = true := by decide +kernel
theorem walI_dl {m k j : Nat} (hm : m < 7) (hk : k < 2 ^ m) (hj : j < 2 ^ m) : walI k j = hdI m (dl k) j :=
  (of_decide_eq_true (List.all_eq_true.1 (List.all_eq_true.1 (List.all_eq_true.1 wal_dl m (List.mem_range.2 hm)) k (List.mem_range.2 hk)) j (List.mem_range.2 hj))).symm
theorem walI_comm (k j : Nat) : walI k j = walI j k := by
  unfold walI
  rw [show Nat.land k j = Nat.land j k from Nat.and_comm k j]
/-- A code within its length, zero behind it. -/
def walW (m k j : Nat) : Int := cond (Nat.blt j (2 ^ m)) (walI k j) 0
theorem walL_len (n k : Nat) : (walL n k).length = n := by simp [walL]
theorem at0_out {xs : List Nat} {j : Nat} (h : xs.length ≤ j) : at0 xs j = 0 := by
  unfold at0
  rw [List.getD_eq_getElem?_getD, List.getElem?_eq_none h]; rfl
theorem walL_isI (m k j : Nat) : isI (at0 (walL (2 ^ m) k) j) (walW m k j) ∧ (walW m k j).natAbs ≤ 1 := by
  unfold walW
  cases hb : Nat.blt j (2 ^ m) with
  | true =>
    have hj := blt_true hb
    unfold walL
    rw [at0_map hj]
    exact walF_isI k j
  | false =>
    have hj := blt_false hb
    rw [at0_out (by rw [walL_len]; omega)]
    exact ⟨isI_zero, by simp⟩
theorem wal_orth {m k i : Nat} (hm : m < 7) (hk : k < 2 ^ m) (hi : i < 2 ^ m) : isI (hadF m (at0 (walL (2 ^ m) k)) i) (2 ^ m * dl k i) := by
  have h64 : 2 ^ m ≤ 2 ^ 6 := Nat.pow_le_pow_right (by omega) (by omega)
  obtain ⟨h1, _⟩ := hadF_isI (walL_isI m k) m (by omega) i
  have e := hdI_twice (k := m) (by omega) (v := walW m k) (w := dl k) (fun j hj => by
    unfold walW
    have : Nat.blt j (2 ^ m) = true := by
      cases hb : Nat.blt j (2 ^ m) with
      | true => rfl
      | false => have := blt_false hb; omega
    rw [this]
    exact walI_dl hm hk hj) (fun j hj => by
    unfold walW
    have : Nat.blt j (2 ^ m) = false := by
      cases hb : Nat.blt j (2 ^ m) with
      | false => rfl
      | true => have := blt_true hb; omega
    rw [this]; rfl) (fun j hj => by
    rw [dl_eq, if_neg (by omega)]) hi
  rwa [e] at h1
/-! ### Sums by codes as products -/
theorem hdI_add (v w : Nat → Int) : ∀ k i, hdI k (fun j => v j + w j) i = hdI k v i + hdI k w i
  | 0, _ => rfl
  | k + 1, i => by
    show hdS (2 ^ k) (hdI k fun j => v j + w j) i = hdS (2 ^ k) (hdI k v) i + hdS (2 ^ k) (hdI k w) i
    unfold hdS
    rw [hdI_add v w k, hdI_add v w k, hdI_add v w k]
    cases Nat.beq ((i / 2 ^ k) % 2) 0 <;> simp only [cond_true, cond_false] <;> omega
theorem hdI_mul (c : Int) (w : Nat → Int) : ∀ k i, hdI k (fun j => c * w j) i = c * hdI k w i
  | 0, _ => rfl
  | k + 1, i => by
    show hdS (2 ^ k) (hdI k fun j => c * w j) i = c * hdS (2 ^ k) (hdI k w) i
    unfold hdS
    rw [hdI_mul c w k, hdI_mul c w k, hdI_mul c w k]
    cases Nat.beq ((i / 2 ^ k) % 2) 0 <;> simp only [cond_true, cond_false, Int.mul_add, Int.mul_sub]
theorem hdI_zero : ∀ k i, hdI k (fun _ => 0) i = 0
  | 0, _ => rfl
  | k + 1, i => by
    show hdS (2 ^ k) (hdI k fun _ => 0) i = 0
    unfold hdS
    rw [hdI_zero k, hdI_zero k, hdI_zero k]
    cases Nat.beq ((i / 2 ^ k) % 2) 0 <;> rfl
theorem hdI_sum (w : Nat → Int) (k i : Nat) : ∀ n, hdI k (fun j => suI (fun t => w t * dl t j) n) i = suI (fun t => w t * hdI k (dl t) i) n
  | 0 => by simp only [suI]; exact hdI_zero k i
  | n + 1 => by
    simp only [suI]
    rw [hdI_add, hdI_sum w k i n, hdI_mul]
theorem hdI_congr {k : Nat} (hk : k ≤ 6) {v w : Nat → Int} (h : eqB v w) : eqB (hdI k v) (hdI k w) := fun i hi => by
  rw [hdI_J hk v i hi, hdI_J hk w i hi, hdJ_congr hk h i hi]
theorem hdI_prod {m : Nat} (hm : m < 7) {w : Nat → Int} (hw : ∀ j, 2 ^ m ≤ j → w j = 0) {k : Nat} (hk : k < 2 ^ m) : suI (fun j => w j * walI k j) (2 ^ m) = hdI m w k := by
  have h64 : 2 ^ m ≤ 2 ^ 6 := Nat.pow_le_pow_right (by omega) (by omega)
  have e : eqB w fun j => suI (fun t => w t * dl t j) (2 ^ m) := fun j _ => by
    have h1 : (fun t => w t * dl t j) = fun t => w t * (if t = j then 1 else 0) := funext fun t => by
      rw [dl_eq]
      by_cases h : j = t
      · rw [if_pos h, if_pos h.symm]
      · rw [if_neg h, if_neg (Ne.symm h)]
    show w j = suI (fun t => w t * dl t j) (2 ^ m)
    rw [h1, suI_single]
    by_cases h : j < 2 ^ m
    · rw [if_pos h]; omega
    · rw [if_neg h, hw j (by omega)]
  rw [hdI_congr (by omega) e k (by omega), hdI_sum]
  refine suI_congr _ fun t ht => ?_
  rw [← walI_dl hm ht hk, walI_comm]
/-! ### The greater of two -/
theorem max_isI {x y : Nat} {a b : Int} (hx : isI x a) (hy : isI y b) : isI (fmaxA .f32 x y) (max a b) := by
  unfold fmaxA
  rw [show FloatKind.f32.format = Ieee.single from rfl, order_fint hx hy]
  have hc : compare (a * 2 ^ 149) (b * 2 ^ 149) = if a < b then .lt else if a = b then .eq else .gt := by
    simp only [compare, compareOfLessAndEq, scale_lt, scale_inj]
  rw [hc]
  rcases Int.lt_trichotomy a b with h | h | h
  · rw [if_pos h, show max a b = b by omega]
    exact hy
  · subst h
    rw [if_neg (by omega), if_pos rfl, show max a a = a by omega]
    dsimp only
    split
    · exact hy
    · exact hx
  · rw [if_neg (by omega), if_neg (by omega), show max a b = a by omega]
    exact hx
theorem max_fin {x y : Nat} (hx : finB x = true) (hy : finB y = true) : finB (fmaxA .f32 x y) = true := by
  obtain ⟨a, ha⟩ := finB_iff.1 hx
  obtain ⟨b, hb⟩ := finB_iff.1 hy
  unfold fmaxA
  rw [show FloatKind.f32.format = Ieee.single from rfl, order_fint ha hb]
  cases compare a b with
  | lt => exact hy
  | gt => exact hx
  | eq =>
    dsimp only
    split
    · exact hy
    · exact hx
end Go.Ax
