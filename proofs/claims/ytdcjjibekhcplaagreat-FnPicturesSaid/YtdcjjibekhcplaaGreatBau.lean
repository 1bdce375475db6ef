/- Finite floats of 32 bits as whole numbers of the least unit. -/
import Derived.Test.YtdcjjibekhcplaaGreatBat
namespace Go.Ax
open Go Ieee

/-- A finite number in units of the least one. -/
def fint (x : Nat) : Option Int :=
  match single.read x with
  | .number s m i => some (signed s m (i + 149).toNat)
  | _ => none
theorem least32 : single.leastPlace = -149 := by decide
theorem bin32 : single.binade = 8388608 := rfl
theorem inf32 : single.infRung = 2139095040 := rfl
theorem frac32 : single.fractionBits = 23 := rfl
theorem read_form (x : Nat) : (∃ s m r, single.read x = .number s m (-149 + (r : Nat)) ∧ m < 16777216 ∧ (r = 0 ∨ 8388608 ≤ m) ∧ r ≤ 253) ∨ (∃ s, single.read x = .infinity s) ∨ ∃ s t, single.read x = .nan s t := by
  unfold Format.read
  rw [least32, bin32, inf32]
  generalize x % single.signWeight = k
  generalize (x / single.signWeight % 2 == 1) = s
  dsimp only
  split
  · exact .inl ⟨s, k, 0, by simp, by omega, .inl rfl, by omega⟩
  · split
    · refine .inl ⟨s, 8388608 + k % 8388608, k / 8388608 - 1, rfl, by omega, .inr (by omega), by omega⟩
    · split
      · exact .inr (.inl ⟨s, rfl⟩)
      · exact .inr (.inr ⟨s, _, rfl⟩)
theorem fint_form {x : Nat} {a : Int} (h : fint x = some a) : ∃ s m r, single.read x = .number s m (-149 + (r : Nat)) ∧ a = signed s m r ∧ m < 16777216 ∧ (r = 0 ∨ 8388608 ≤ m) ∧ r ≤ 253 := by
  unfold fint at h
  rcases read_form x with ⟨s, m, r, e, h1, h2, h3⟩ | ⟨s, e⟩ | ⟨s, t, e⟩
  · rw [e] at h
    simp only [Option.some.injEq] at h
    refine ⟨s, m, r, e, ?_, h1, h2, h3⟩
    rw [← h]
    congr 1
    omega
  · rw [e] at h; cases h
  · rw [e] at h; cases h
theorem fint_of {x : Nat} {s : Bool} {m r : Nat} (e : single.read x = .number s m (-149 + (r : Nat))) : fint x = some (signed s m r) := by
  unfold fint
  rw [e]
  simp only [Option.some.injEq]
  congr 1
  omega
theorem signed_eq (s : Bool) (m r : Nat) : signed s m r = (if s then -1 else 1) * ((m : Int) * 2 ^ r) := by
  unfold signed
  rw [Nat.shiftLeft_eq]
  cases s <;> simp
theorem signed_scale (s : Bool) (m r b : Nat) : signed s m (r + b) = signed s m r * 2 ^ b := by
  rw [signed_eq, signed_eq, Int.pow_add]
  cases s <;> simp [Int.mul_assoc, Int.neg_mul]
theorem pow_pos' (b : Nat) : (0 : Int) < 2 ^ b := Int.pow_pos (by decide)
theorem scale_inj {a c : Int} {b : Nat} : a * 2 ^ b = c * 2 ^ b ↔ a = c := Int.mul_eq_mul_right_iff (Int.ne_of_gt (pow_pos' b))
theorem scale_lt {a c : Int} {b : Nat} : a * 2 ^ b < c * 2 ^ b ↔ a < c := ⟨fun h => Int.lt_of_mul_lt_mul_right h (Int.le_of_lt (pow_pos' b)), fun h => Int.mul_lt_mul_of_pos_right h (pow_pos' b)⟩
/-- Two finite numbers in units of one place. -/
theorem two_units {s t : Bool} {m n r q : Nat} : ∃ b, signed s m r = signed s m (-149 + (r : Int) - min (-149 + (r : Int)) (-149 + (q : Int))).toNat * 2 ^ b ∧ signed t n q = signed t n (-149 + (q : Int) - min (-149 + (r : Int)) (-149 + (q : Int))).toNat * 2 ^ b ∧ (min (-149 + (r : Int)) (-149 + (q : Int))) = -149 + (b : Nat) := by
  refine ⟨min r q, ?_, ?_, by omega⟩
  · rw [← signed_scale]
    congr 1
    omega
  · rw [← signed_scale]
    congr 1
    omega
theorem order_fint {x y : Nat} {a b : Int} (hx : fint x = some a) (hy : fint y = some b) : single.order x y = some (compare a b) := by
  obtain ⟨s, m, r, e1, rfl, _⟩ := fint_form hx
  obtain ⟨t, n, q, e2, rfl, _⟩ := fint_form hy
  unfold Format.order
  rw [e1, e2]
  obtain ⟨k, h1, h2, _⟩ := two_units (s := s) (t := t) (m := m) (n := n) (r := r) (q := q)
  simp only [Datum.order, Option.some.injEq]
  rw [h1, h2]
  generalize signed s m _ = u
  generalize signed t n _ = v
  simp only [compare, compareOfLessAndEq, scale_lt, scale_inj]
theorem feq_fint {x y : Nat} {a b : Int} (hx : fint x = some a) (hy : fint y = some b) : feq .f32 x y = (a == b) := by
  unfold feq
  rw [show FloatKind.f32.format = single from rfl, order_fint hx hy]
  rw [Bool.eq_iff_iff]
  simp [compare, compareOfLessAndEq]
  constructor
  · intro h
    by_cases h1 : a < b
    · simp [h1] at h
    · by_cases h2 : a = b
      · exact h2
      · simp [h1, h2] at h
  · rintro rfl; simp
theorem flt_fint {x y : Nat} {a b : Int} (hx : fint x = some a) (hy : fint y = some b) : flt .f32 x y = decide (a < b) := by
  unfold flt
  rw [show FloatKind.f32.format = single from rfl, order_fint hx hy]
  rw [Bool.eq_iff_iff]
  simp [compare, compareOfLessAndEq]
  constructor
  · intro h
    by_cases h1 : a < b
    · exact h1
    · by_cases h2 : a = b
      · simp [h2] at h
      · simp [h1, h2] at h
  · intro h h2; omega
theorem feq_fin {x y : Nat} {a : Int} (h : feq .f32 x y = true) (hx : fint x = some a) : fint y = some a := by
  rcases read_form y with ⟨s, m, r, e, h1, h2, h3⟩ | ⟨s, e⟩ | ⟨s, t, e⟩
  · have hy := fint_of e
    rw [feq_fint hx hy, beq_iff_eq] at h
    rw [hy, h]
  · exfalso
    obtain ⟨s', m', r', e', _⟩ := fint_form hx
    unfold feq Format.order at h
    rw [show FloatKind.f32.format = single from rfl, e, e'] at h
    cases s <;> simp [Datum.order] at h
  · exfalso
    obtain ⟨s', m', r', e', _⟩ := fint_form hx
    unfold feq Format.order at h
    rw [show FloatKind.f32.format = single from rfl, e, e'] at h
    simp [Datum.order] at h
theorem feq_fin' {x y : Nat} {a : Int} (h : feq .f32 x y = true) (hy : fint y = some a) : fint x = some a := by
  rcases read_form x with ⟨s, m, r, e, h1, h2, h3⟩ | ⟨s, e⟩ | ⟨s, t, e⟩
  · have hx := fint_of e
    rw [feq_fint hx hy, beq_iff_eq] at h
    rw [hx, h]
  · exfalso
    obtain ⟨s', m', r', e', _⟩ := fint_form hy
    unfold feq Format.order at h
    rw [show FloatKind.f32.format = single from rfl, e, e'] at h
    cases s <;> simp [Datum.order] at h
  · exfalso
    obtain ⟨s', m', r', e', _⟩ := fint_form hy
    unfold feq Format.order at h
    rw [show FloatKind.f32.format = single from rfl, e, e'] at h
    simp [Datum.order] at h
theorem fint_zero : fint 0 = some 0 := by decide +kernel

/-! ### What is written -/
/-- A number that the format has. -/
def Rep (n : Nat) : Prop := ∃ m r, n = m * 2 ^ r ∧ m < 16777216 ∧ (r = 0 ∨ 8388608 ≤ m) ∧ r ≤ 253
theorem fint_rep {x : Nat} {a : Int} (h : fint x = some a) : Rep a.natAbs := by
  obtain ⟨s, m, r, _, rfl, h1, h2, h3⟩ := fint_form h
  refine ⟨m, r, ?_, h1, h2, h3⟩
  unfold signed
  rw [Nat.shiftLeft_eq]
  have : ((m : Int) * 2 ^ r).natAbs = m * 2 ^ r := by
    have e : (m : Int) * 2 ^ r = ((m * 2 ^ r : Nat) : Int) := by push_cast; rfl
    rw [e, Int.natAbs_natCast]
  cases s <;> simp [this]
theorem fint_canon (g : Bool) {m r : Nat} (h1 : m < 16777216) (h2 : r = 0 ∨ 8388608 ≤ m) (h3 : r ≤ 253) : fint (canon single g m r) = some (signed g m r) := by
  refine fint_of ?_
  rw [read_canon single g m r (by rw [frac32]; exact h1) (by rw [frac32]; exact h2) (by rw [bin32, inf32]; omega), least32]
theorem pow_cancel {a b c d : Nat} (h : a * 2 ^ c = b * 2 ^ d) (hcd : c ≤ d) : a = b * 2 ^ (d - c) := by
  have : b * 2 ^ d = b * 2 ^ (d - c) * 2 ^ c := by rw [Nat.mul_assoc, ← Nat.pow_add]; congr 2; omega
  rw [this] at h
  exact Nat.eq_of_mul_eq_mul_right (Nat.two_pow_pos c) h
theorem nearest_rep (g : Bool) (mag p : Nat) (h : Rep (mag * 2 ^ p)) : fint (single.nearest g mag (-149 + (p : Nat))) = some (signed g mag p) := by
  obtain ⟨m, r, e, h1, h2, h3⟩ := h
  have key : single.nearest g mag (-149 + (p : Nat)) = canon single g m r := by
    by_cases hz : mag = 0
    · subst hz
      have hm : m = 0 := by
        rcases Nat.eq_zero_or_pos m with h | h
        · exact h
        · have := Nat.mul_pos h (Nat.two_pow_pos r)
          simp at e; omega
      subst hm
      have hr : r = 0 := by rcases h2 with h | h <;> omega
      subst hr
      unfold Format.nearest
      simp [canon]
    rcases Nat.lt_or_ge r p with hrp | hrp
    · have em := pow_cancel e.symm (Nat.le_of_lt hrp)
      rcases h2 with h2 | h2
      · subst h2
        rw [Nat.sub_zero] at em
        -- a number at the least places
        by_cases hfull : 8388608 ≤ m
        · rw [em] at hfull h1 ⊢
          exact nearest_up single g mag p 0 _ (by rw [frac32]; exact hfull) (by rw [frac32]; exact h1) (by rw [least32]; omega) (by rw [bin32, inf32]; omega)
        · have hlog : mag.log2 + p ≤ 22 := by
            have h2 : mag * 2 ^ p < 2 ^ 23 := by rw [← em]; omega
            have h3 : 2 ^ (mag.log2 + p) ≤ mag * 2 ^ p := by rw [Nat.pow_add]; exact Nat.mul_le_mul_right _ (Nat.log2_self_le hz)
            have h4 : 2 ^ (mag.log2 + p) < 2 ^ 23 := Nat.lt_of_le_of_lt h3 h2
            have := (Nat.pow_lt_pow_iff_right (by decide : 1 < 2)).1 h4
            omega
          unfold Format.nearest
          rw [if_neg hz, least32, frac32]
          have hlast : max (-149 + (p : Int) + (mag.log2 : Nat) - (23 : Nat)) (-149) = -149 := by omega
          simp only [hlast]
          have e1 : (-149 + (p : Int) - -149).toNat = p := by omega
          have e2 : ((-149 : Int) - (-149 + (p : Int))).toNat = 0 := by omega
          have e3 : ((-149 : Int) - -149).toNat = 0 := by omega
          rw [e1, e2, e3, Nat.shiftLeft_eq, cut_zero, ← em, Nat.min_eq_left (by rw [inf32]; omega)]
          simp [canon]
      · rw [em] at h1 h2 ⊢
        exact nearest_up single g mag (p - r) r _ (by rw [frac32]; exact h2) (by rw [frac32]; exact h1) (by rw [least32]; omega) (by rw [bin32, inf32]; omega)
    · have em := pow_cancel e hrp
      rcases h2 with h2 | h2
      · subst h2
        have hp : p = 0 := by omega
        subst hp
        have em : mag = m * 2 ^ 0 := em
        rw [em]
        exact nearest_sub single g m 0 _ (by rw [frac32]; exact h1) (by rw [least32]; rfl) (by rw [inf32]; omega)
      · rw [em]
        exact nearest_down single g m (r - p) r _ (by rw [frac32]; exact h2) (by rw [frac32]; exact h1) (by rw [least32]; omega) (by rw [bin32, inf32]; omega)
  rw [key, fint_canon g h1 h2 h3, signed_eq, signed_eq]
  have : (m : Int) * 2 ^ r = (mag : Int) * 2 ^ p := by exact_mod_cast e.symm
  rw [this]
theorem signed_abs (n : Int) (p : Nat) : signed (decide (n < 0)) n.natAbs p = n * 2 ^ p := by
  rw [signed_eq]
  by_cases h : n < 0
  · simp [h]
    have : (n.natAbs : Int) = -n := by omega
    rw [this, Int.neg_mul, Int.neg_neg]
  · simp [h]
    have : (n.natAbs : Int) = n := by omega
    rw [this]
theorem sum_fint {s t : Bool} {m n r q : Nat} (h : Rep (signed s m r + signed t n q).natAbs) : ∃ z, ((Datum.number s m (-149 + (r : Nat))).sum (.number t n (-149 + (q : Nat)))).map single.write = some z ∧ fint z = some (signed s m r + signed t n q) := by
  obtain ⟨b, h1, h2, h3⟩ := two_units (s := s) (t := t) (m := m) (n := n) (r := r) (q := q)
  simp only [Datum.sum, Option.map_some]
  refine ⟨_, rfl, ?_⟩
  rw [h1, h2, ← Int.add_mul] at h ⊢
  rw [h3] at h ⊢
  generalize signed s m _ + signed t n _ = T at h ⊢
  have hT : (T * 2 ^ b).natAbs = T.natAbs * 2 ^ b := by
    rw [Int.natAbs_mul, Int.natAbs_pow]; rfl
  rw [hT] at h
  show fint (single.nearest _ T.natAbs (-149 + (b : Nat))) = _
  rw [nearest_rep _ _ _ h]
  by_cases h0 : T = 0
  · subst h0
    simp [signed_eq]
  · rw [if_neg h0]
    rw [signed_abs]
theorem fadd_fint {x y : Nat} {a b : Int} (hx : fint x = some a) (hy : fint y = some b) (h : Rep (a + b).natAbs) : fint (fadd .f32 x y) = some (a + b) := by
  obtain ⟨s, m, r, e1, rfl, _⟩ := fint_form hx
  obtain ⟨t, n, q, e2, rfl, _⟩ := fint_form hy
  obtain ⟨z, h1, h2⟩ := sum_fint h
  unfold fadd Format.add
  rw [show FloatKind.f32.format = single from rfl, e1, e2, h1]
  exact h2
theorem signed_neg (t : Bool) (n q : Nat) : signed (!t) n q = - signed t n q := by
  rw [signed_eq, signed_eq]
  cases t <;> simp
theorem fsub_fint {x y : Nat} {a b : Int} (hx : fint x = some a) (hy : fint y = some b) (h : Rep (a - b).natAbs) : fint (fsub .f32 x y) = some (a - b) := by
  obtain ⟨s, m, r, e1, rfl, _⟩ := fint_form hx
  obtain ⟨t, n, q, e2, rfl, _⟩ := fint_form hy
  have e : signed s m r - signed t n q = signed s m r + signed (!t) n q := by rw [signed_neg]; rfl
  rw [e] at h ⊢
  obtain ⟨z, h1, h2⟩ := sum_fint h
  unfold fsub Format.sub
  rw [show FloatKind.f32.format = single from rfl, e1, e2]
  show fint ((((Datum.number s m (-149 + (r : Nat))).sum (.number (!t) n (-149 + (q : Nat)))).map single.write).getD _) = _
  rw [h1]
  exact h2
theorem rep_zero : Rep 0 := ⟨0, 0, by simp, by omega, .inl rfl, by omega⟩
theorem fint_finB {x : Nat} {a : Int} (h : fint x = some a) : feq .f32 (fsub .f32 x x) 0 = true := by
  have := fsub_fint h h (by simp; exact rep_zero)
  rw [feq_fint this fint_zero]
  simp
theorem finB_fint {x : Nat} (h : feq .f32 (fsub .f32 x x) 0 = true) : ∃ a, fint x = some a := by
  rcases read_form x with ⟨s, m, r, e, h1, h2, h3⟩ | ⟨s, e⟩ | ⟨s, t, e⟩
  · exact ⟨_, fint_of e⟩
  · exfalso
    unfold fsub Format.sub at h
    rw [show FloatKind.f32.format = single from rfl, e] at h
    have : (((Datum.infinity s).sum (Datum.infinity s).opposite).map single.write).getD (qnan .f32) = qnan .f32 := by cases s <;> rfl
    rw [this] at h
    have e : feq .f32 (qnan .f32) 0 = false := by decide +kernel
    rw [e] at h; cases h
  · exfalso
    unfold fsub Format.sub at h
    rw [show FloatKind.f32.format = single from rfl, e] at h
    have : (((Datum.nan s t).sum (Datum.nan s t).opposite).map single.write).getD (qnan .f32) = qnan .f32 := rfl
    rw [this] at h
    have e : feq .f32 (qnan .f32) 0 = false := by decide +kernel
    rw [e] at h; cases h
end Go.Ax

/- Values of cells: zeros and ones; masks. -/
namespace Go.Ax
open Go Go.Proofs

def oneI : Int := 2 ^ 149
theorem fint_one : fint 1065353216 = some oneI := by decide +kernel
theorem rep_one : Rep oneI.natAbs := ⟨8388608, 126, by decide +kernel, by omega, .inr (by omega), by omega⟩
theorem oneI_ne : oneI ≠ 0 := by decide +kernel
/-- What both parts of a number come to. -/
def cv (z : Nat × Nat) (a b : Int) : Prop := fint z.1 = some a ∧ fint z.2 = some b
theorem cv.inj {z : Nat × Nat} {a b c d : Int} (h : cv z a b) (k : cv z c d) : a = c ∧ b = d := by
  have h1 := h.1.symm.trans k.1
  have h2 := h.2.symm.trans k.2
  simp only [Option.some.injEq] at h1 h2
  exact ⟨h1, h2⟩
theorem cv_pEq {z w : Nat × Nat} {a b c d : Int} (h : cv z a b) (k : cv w c d) : pEq z.1 w.1 z.2 w.2 = ((a == c) && (b == d)) := by
  unfold pEq
  rw [feq_fint h.1 k.1, feq_fint h.2 k.2]
theorem zC_cv {z : Nat × Nat} : zC z = true ↔ cv z 0 0 := by
  unfold zC pEq
  rw [Bool.and_eq_true]
  constructor
  · rintro ⟨h1, h2⟩
    exact ⟨feq_fin' h1 fint_zero, feq_fin' h2 fint_zero⟩
  · rintro ⟨h1, h2⟩
    rw [feq_fint h1 fint_zero, feq_fint h2 fint_zero]
    exact ⟨rfl, rfl⟩
theorem oC_cv {z : Nat × Nat} : oC z = true ↔ cv z oneI 0 := by
  unfold oC pEq
  rw [Bool.and_eq_true]
  constructor
  · rintro ⟨h1, h2⟩
    exact ⟨feq_fin' h1 fint_one, feq_fin' h2 fint_zero⟩
  · rintro ⟨h1, h2⟩
    rw [feq_fint h1 fint_one, feq_fint h2 fint_zero]
    exact ⟨by simp, rfl⟩
theorem zeroB_zC (z : Nat × Nat) : zeroB z = zC z := rfl
theorem plus_fint {x : Nat} {a : Int} (h : fint x = some a) : fint (plusF x) = some a := by
  unfold plusF
  cases hf : feq .f32 x 0 with
  | false => exact h
  | true =>
    rw [feq_fint h fint_zero, beq_iff_eq] at hf
    subst hf
    exact fint_zero
theorem plus_cv {z : Nat × Nat} {a b : Int} (h : cv z a b) : cv (plusF z.1, plusF z.2) a b := ⟨plus_fint h.1, plus_fint h.2⟩
theorem whole_cv {z : Nat × Nat} : wholeB z = true ↔ ∃ a b, cv z a b := by
  rw [wholeB_iff]
  constructor
  · rintro ⟨h1, h2⟩
    obtain ⟨a, ha⟩ := finB_fint h1
    obtain ⟨b, hb⟩ := finB_fint h2
    exact ⟨a, b, ha, hb⟩
  · rintro ⟨a, b, h1, h2⟩
    exact ⟨fint_finB h1, fint_finB h2⟩
theorem cv_zero : cv (0, 0) 0 0 := ⟨fint_zero, fint_zero⟩
theorem cv_one : cv (oneF, 0) oneI 0 := ⟨fint_one, fint_zero⟩
theorem zC_of {z : Nat × Nat} {a : Int} (h : cv z a 0) : zC z = (a == 0) := by
  have := cv_pEq h cv_zero
  unfold zC
  rw [this]; simp
theorem oC_of {z : Nat × Nat} {a : Int} (h : cv z a 0) : oC z = (a == oneI) := by
  have := cv_pEq h cv_one
  unfold oC
  have e : pEq z.1 1065353216 z.2 0 = pEq z.1 (oneF, 0).1 z.2 (oneF, 0).2 := rfl
  rw [e, this]; simp
/-- A wave by the values of its cells. -/
theorem wave_cv {n : Int} {X : Nat → Nat × Nat} : isWaveB n X = true ↔ (n = 1 ∨ n = 2 ∨ n = 4 ∨ n = 8) ∧ ∀ j, j < 64 → (∃ a b, cv (X j) a b) ∧ (n.toNat * n.toNat ≤ j → cv (X j) 0 0) := by
  rw [isWaveB_iff]
  refine and_congr_right fun _ => forall_congr' fun j => imp_congr_right fun _ => ?_
  rw [whole_cv, zeroB_zC, zC_cv]
/-- A mask by the values of its cells. -/
theorem mask_cv {n : Int} {X : Nat → Nat × Nat} : isMaskB n X = true ↔ (n = 1 ∨ n = 2 ∨ n = 4 ∨ n = 8) ∧ ∃ m : Nat → Bool, ∀ j, j < 64 → cv (X j) (cond (m j) oneI 0) 0 ∧ (n.toNat * n.toNat ≤ j → m j = false) := by
  unfold isMaskB
  rw [Bool.and_eq_true, wave_cv, maskF_iff]
  constructor
  · rintro ⟨h1, h2, h3⟩
    refine ⟨h2, fun j => oC (X j), fun j hj => ?_⟩
    have hm := h1 j hj
    rw [Nat.zero_add, zC_cv, oC_cv] at hm
    have hz := (h3 j hj).2
    rcases hm with hm | hm
    · have : oC (X j) = false := by rw [oC_of hm]; simpa using oneI_ne.symm
      show cv (X j) (cond (oC (X j)) oneI 0) 0 ∧ (n.toNat * n.toNat ≤ j → oC (X j) = false)
      rw [this]
      exact ⟨hm, fun _ => rfl⟩
    · have : oC (X j) = true := oC_cv.2 hm
      show cv (X j) (cond (oC (X j)) oneI 0) 0 ∧ (n.toNat * n.toNat ≤ j → oC (X j) = false)
      rw [this]
      exact ⟨hm, fun hn => absurd (hm.inj (hz hn)).1 oneI_ne⟩
  · rintro ⟨h1, m, h2⟩
    refine ⟨fun j hj => ?_, h1, fun j hj => ?_⟩
    · rw [Nat.zero_add, zC_cv, oC_cv]
      have := (h2 j hj).1
      cases hm : m j with
      | false => rw [hm] at this; exact .inl this
      | true => rw [hm] at this; exact .inr this
    · refine ⟨⟨_, _, (h2 j hj).1⟩, fun hn => ?_⟩
      have := (h2 j hj).1
      rwa [(h2 j hj).2 hn] at this
/-- Where a mask is open. -/
theorem mask_open {n : Int} {X : Nat → Nat × Nat} (h : isMaskB n X = true) {j : Nat} (hj : j < 64) : cv (X j) (cond (oC (X j)) oneI 0) 0 ∧ (n.toNat * n.toNat ≤ j → oC (X j) = false) ∧ zC (X j) = !oC (X j) := by
  obtain ⟨_, m, h2⟩ := mask_cv.1 h
  obtain ⟨h3, h4⟩ := h2 j hj
  have h0 : oC (X j) = m j := by
    rw [oC_of h3]
    cases m j
    · simpa using oneI_ne.symm
    · simp
  have h5 : zC (X j) = !m j := by
    rw [zC_of h3]
    cases m j
    · rfl
    · simpa using oneI_ne
  rw [h0, h5]
  exact ⟨h3, h4, rfl⟩
theorem sub_one {x : Nat} {b : Bool} (h : fint x = some (cond b oneI 0)) : fint (fsub .f32 oneF x) = some (cond b 0 oneI) := by
  have := fsub_fint fint_one h (by cases b <;> first | exact rep_one | (simp; exact rep_zero))
  rw [show oneF = 1065353216 from rfl, this]
  cases b <;> simp
theorem sub_zero {x : Nat} (h : fint x = some 0) : fint (fsub .f32 0 x) = some 0 := by
  have := fsub_fint fint_zero h (by simp; exact rep_zero)
  simpa using this
theorem add_zero_right {x y : Nat} {a : Int} (h : fint x = some a) (k : fint y = some 0) : fint (fadd .f32 x y) = some a := by
  have := fadd_fint h k (by rw [Int.add_zero]; exact fint_rep h)
  simpa using this
theorem add_zero_left {x y : Nat} {a : Int} (h : fint x = some a) (k : fint y = some 0) : fint (fadd .f32 y x) = some a := by
  have := fadd_fint k h (by rw [Int.zero_add]; exact fint_rep h)
  simpa using this
end Go.Ax

/- laws.sum and laws.likeInts: rows. -/
namespace Go.Ax
open Go Go.Proofs

theorem ro_ints {σ τ : List (Nat × Nat)} {r : Bool} {k : IntKind} {xs : List Int} {z : Nat} {o : Option Obj} (h : BlkRel σ z (.cells r (.ints k xs)) o) : BlkRel τ z (.cells false (.ints k xs)) o := by
  obtain ⟨c, e, fr, h1, h2, h3, _⟩ := h
  refine ⟨c, e, fr, h1, fun j a ha => ?_, h3, fun h => by cases h⟩
  obtain ⟨v, hv, hr⟩ := h2 j a ha
  refine ⟨v, hv, below_free ?_ hr⟩
  simp only [Cells.toL, List.getElem?_map, Option.map_eq_some_iff] at ha
  obtain ⟨y, _, rfl⟩ := ha
  rfl
theorem ro_f32 {σ τ : List (Nat × Nat)} {r : Bool} {xs : List Nat} {z : Nat} {o : Option Obj} (h : BlkRel σ z (.cells r (.f32 xs)) o) : BlkRel τ z (.cells false (.f32 xs)) o := by
  obtain ⟨c, e, fr, h1, h2, h3, _⟩ := h
  refine ⟨c, e, fr, h1, fun j a ha => ?_, h3, fun h => by cases h⟩
  obtain ⟨v, hv, hr⟩ := h2 j a ha
  refine ⟨v, hv, below_free ?_ hr⟩
  simp only [Cells.toL, List.getElem?_map, Option.map_eq_some_iff] at ha
  obtain ⟨y, _, rfl⟩ := ha
  rfl
theorem getB_lt {H : List AB} {i : Nat} {r : Bool} {A : Cells} (h : getB H i = .cells r A) : i < H.length := by
  rcases Nat.lt_or_ge i H.length with h' | h'
  · exact h'
  · rw [getB_none h'] at h; cases h
def lb (xs : List Int) : List AB := [.cells false (.ints .i64 xs)]
def lb2 (xs ys : List Int) : List AB := [.cells false (.ints .i64 xs), .cells false (.ints .i64 ys)]
/-- A call that reads one list. -/
theorem call_read1 {P : Program} {f : FuncId} {xs : List Int} {v : AV} (h : CallOK P f [.sl false 0 0 xs.length 1] (lb xs) v (lb xs)) (hv : below 0 v = true) {H : List AB} {id : Nat} {r l : Bool} (hg : getB H id = .cells r (.ints .i64 xs)) : CallOK P f [.sl l id 0 xs.length 1] H v H := by
  have k := h.pick (fun i => by match i with
    | 0 => rfl
    | i + 1 => rfl) rfl [id] rfl H (fun i hi => by
      have : i = 0 := by simp [lb] at hi; exact hi
      subst this
      refine ⟨getB_lt hg, fun σ τ z o hb => ?_⟩
      have e : ([id] : List Nat).getD 0 0 = id := rfl
      rw [e, hg] at hb
      exact ro_ints hb)
  have e1 : (H ++ ((lb xs).drop (lb xs).length).map (mapB (pickI (lb xs).length H.length [id]))) = H := by simp [lb]
  rw [e1, mapV_low _ hv] at k
  exact k.bare rfl
theorem call_read2 {P : Program} {f : FuncId} {xs ys : List Int} {v : AV} (h : CallOK P f [.sl false 0 0 xs.length 1, .sl false 1 0 ys.length 1] (lb2 xs ys) v (lb2 xs ys)) (hv : below 0 v = true) {H : List AB} {id id' : Nat} {r r' l l' : Bool} (hg : getB H id = .cells r (.ints .i64 xs)) (hg' : getB H id' = .cells r' (.ints .i64 ys)) :
    CallOK P f [.sl l id 0 xs.length 1, .sl l' id' 0 ys.length 1] H v H := by
  have k := h.pick (fun i => by match i with
    | 0 => rfl
    | 1 => rfl
    | i + 2 => rfl) rfl [id, id'] rfl H (fun i hi => by
      match i, hi with
      | 0, _ =>
        refine ⟨getB_lt hg, fun σ τ z o hb => ?_⟩
        have e : ([id, id'] : List Nat).getD 0 0 = id := rfl
        rw [e, hg] at hb
        exact ro_ints hb
      | 1, _ =>
        refine ⟨getB_lt hg', fun σ τ z o hb => ?_⟩
        have e : ([id, id'] : List Nat).getD 1 0 = id' := rfl
        rw [e, hg'] at hb
        exact ro_ints hb
      | i + 2, hi => simp only [lb2, List.length_cons, List.length_nil] at hi; omega)
  have e1 : (H ++ ((lb2 xs ys).drop (lb2 xs ys).length).map (mapB (pickI (lb2 xs ys).length H.length [id, id']))) = H := by simp [lb2]
  rw [e1, mapV_low _ hv] at k
  exact k.bare rfl

/-! ### sum -/
noncomputable def suC : Code := Tryz.f10.body.getD .skip
noncomputable def su0 (xs : List Int) : Res := jupto Tryz.prog noT atLoop 100 [.code suC] (.sl false 0 0 xs.length 1 :: undefs 17) (lb xs)
noncomputable def suL : List Item := (su0 []).todo
noncomputable def suR : List Item := toLp suL
theorem suR_eq : toLp suR = suR := by kernel_rfl
def suT (xs : List Int) (acc : Int) (i : Nat) : List AV := [.sl false 0 0 xs.length 1, .any, .any, .i false .i64 acc, .i false .i64 (Int.ofNat i)] ++ List.replicate 13 .any
def suN (xs : List Int) (acc : Int) (i : Nat) : List AV := [.sl false 0 0 xs.length 1, .any, .any, .i false .i64 (wrapQ false .i64 (acc + xs.getD (0 + (Int.ofNat i).toNat * 1) 0)), .i false .i64 (wrapQ false .i64 (Int.ofNat i + 1))] ++ List.replicate 13 .any
def suM : List Bool := [false, true, true, false, false] ++ List.replicate 13 true
noncomputable def suU (xs : List Int) (acc : Int) (i : Nat) : Res := jupto Tryz.prog noT atLoop 100 suR (suT xs acc i) (lb xs)
theorem su0_ok (xs : List Int) : lfM suM (su0 xs) = (true, suL, (suT xs 0 0).map AV.bare, lb xs, []) := by kernel_rfl
theorem su_step (xs : List Int) (acc : Int) (i : Nat) : (condsP (suU xs acc i) [true], lfM suM ((suU xs acc i).at [true]), condsP (suU xs acc i) [false], endOf Tryz.prog Tryz.f10.results.toList ((suU xs acc i).at [false])) =
    ([ltQ false (Int.ofNat i) xs.length], (true, suR, (suN xs acc i).map AV.bare, lb xs, [decide (0 + (Int.ofNat i).toNat * 1 < (Cells.ints IntKind.i64 xs).len), decide (0 ≤ Int.ofNat i) && decide (Int.ofNat i < ↑xs.length)]),
     [!ltQ false (Int.ofNat i) xs.length], some (some ([.i false .i64 acc], []), lb xs, [])) := by kernel_rfl
def suA (xs : List Int) : Nat → Int
  | 0 => 0
  | i + 1 => wrapQ false .i64 (suA xs i + xs.getD i 0)
theorem ofNat_next {i : Nat} (h : i ≤ 5000) : wrapQ false .i64 (Int.ofNat i + 1) = Int.ofNat (i + 1) := by
  have : IntKind.i64.wrap (Int.ofNat i + 1) = Int.ofNat (i + 1) := by rw [wrap64_id] <;> simp <;> omega
  exact this
theorem su_go (xs : List Int) (hx : xs.length ≤ 5000) : ∀ (m i : Nat), i + m = xs.length → ∀ L, toLp L = suR → ∃ t H, Ends Tryz.prog L (suT xs (suA xs i) i) (lb xs) t H ∧ resV Tryz.prog t H Tryz.f10.results.toList = some ([.i false .i64 (suA xs xs.length)], []) ∧ H = lb xs
  | 0, i, hi, L, hL => by
    have : i = xs.length := by omega
    subst this
    have h := su_step xs (suA xs xs.length) xs.length
    simp only [Prod.mk.injEq] at h
    obtain ⟨_, _, c2, l2⟩ := h
    obtain ⟨t, e1, e2⟩ := way_ends (P := Tryz.prog) (T := noT) (stop := atLoop) (n := 100) (L := L) (R := suR) (noT_sound _) (hL.trans suR_eq.symm) (p := [false]) (t0 := suT xs (suA xs xs.length) xs.length) (H0 := lb xs) (by
      show allT (condsP (suU xs (suA xs xs.length) xs.length) [false]) = true
      rw [c2, ltQ_eq]; simp [allT]) l2 rfl
    exact ⟨t, _, e1, e2, rfl⟩
  | m + 1, i, hi, L, hL => by
    have h := su_step xs (suA xs i) i
    simp only [Prod.mk.injEq] at h
    obtain ⟨c1, l1, _, _⟩ := h
    have hr := way_reach (P := Tryz.prog) (T := noT) (stop := atLoop) (n := 100) (L := L) (R := suR) (noT_sound _) (hL.trans suR_eq.symm) (p := [true]) (t0 := suT xs (suA xs i) i) (H0 := lb xs) (by
      show allT (condsP (suU xs (suA xs i) i) [true]) = true
      rw [c1, ltQ_eq]; simp [allT]; omega) l1 (by simp [allT, Cells.len]; omega)
    have hN : suN xs (suA xs i) i = suT xs (suA xs (i + 1)) (i + 1) := by
      unfold suN suT
      rw [ofNat_next (by omega)]
      simp [suA]
    rw [hN] at hr
    obtain ⟨t, H, e1, e2⟩ := su_go xs hx m (i + 1) (by omega) suR suR_eq
    exact ⟨t, H, hr.ends e1, e2⟩
theorem sum_ok (xs : List Int) (hx : xs.length ≤ 5000) : CallOK Tryz.prog 10 [.sl false 0 0 xs.length 1] (lb xs) (.i false .i64 (suA xs xs.length)) (lb xs) := by
  have hr := way_reach (P := Tryz.prog) (T := noT) (stop := atLoop) (n := 100) (L := [.code suC]) (R := [.code suC]) (noT_sound _) rfl (p := []) (t0 := .sl false 0 0 xs.length 1 :: undefs 17) (H0 := lb xs) (t' := suT xs 0 0) (H' := lb xs) (M := suM) (nd := []) (todo' := suL) (by
    show allT (condsP (su0 xs) []) = true
    have : condsP (su0 xs) [] = [] := by cases su0 xs <;> rfl
    rw [this]; rfl) (by
    have h := su0_ok xs
    have e : (su0 xs).at [] = su0 xs := by cases su0 xs <;> rfl
    show lfM suM ((su0 xs).at []) = _
    rw [e]; exact h) rfl
  obtain ⟨t, H, e1, e2, rfl⟩ := su_go xs hx xs.length 0 (by omega) suL rfl
  have hb : Tryz.f10.body = some suC := rfl
  exact call_of_ends (args := [.sl false 0 0 xs.length 1]) (m := []) Tryz.func10 hb (hr.ends e1) e2 rfl
/-- Lists of whole numbers. -/
def intsAt (H : List AB) : AV → Option (List Int × List Bool)
  | .sl _ id off len z => match getB H id with
    | .cells _ (.ints k xs) => match Nat.beq (ikIx k) 3 with
      | true => some (xs, [decide (off = 0) && decide (z = 1), decide (len = xs.length), decide (len ≤ 5000)])
      | false => none
    | _ => none
  | _ => none
theorem intsAt_spec {H : List AB} {a : AV} {xs : List Int} {q : List Bool} (h : intsAt H a = some (xs, q)) (hq : allT q = true) : ∃ l id r, a = .sl l id 0 xs.length 1 ∧ getB H id = .cells r (.ints .i64 xs) ∧ xs.length ≤ 5000 := by
  unfold intsAt at h
  split at h <;> (try (cases h; done))
  rename_i l id off len z
  split at h <;> (try (cases h; done))
  rename_i r k ys hg
  split at h <;> cases h
  rename_i hk
  have hk := ikIx_inj (k := k) (k' := .i64) hk
  subst hk
  simp only [allT, Bool.and_eq_true, decide_eq_true_eq, Bool.and_true] at hq
  obtain ⟨⟨rfl, rfl⟩, rfl, h5⟩ := hq
  exact ⟨l, id, r, rfl, hg, h5⟩
def sumT : Table := fun _ args H nd K =>
  match args with
  | [a] => match intsAt H a with
    | some (xs, q) => K (.i false .i64 (suA xs xs.length)) H (q ++ nd)
    | none => .fail
  | _ => .fail
theorem sum_at : SoundAt Tryz.prog 10 sumT := fun args H nd K => by
  unfold sumT
  split
  case h_2 => exact .inl rfl
  split
  case h_2 => exact .inl rfl
  rename_i a _ xs q hi
  refine .inr ⟨_, _, _, rfl, fun hn => ?_⟩
  rw [allT_append, Bool.and_eq_true] at hn
  obtain ⟨l, id, r, rfl, hg, h5⟩ := intsAt_spec hi hn.1
  exact ⟨hn.2, call_read1 (sum_ok xs h5) rfl hg⟩

/-! ### likeInts -/
noncomputable def lkC : Code := Tryz.f63.body.getD .skip
noncomputable def lk0 (xs ys : List Int) : Res := jupto Tryz.prog noT atLoop 100 [.code lkC] (.sl false 0 0 xs.length 1 :: .sl false 1 0 ys.length 1 :: undefs 24) (lb2 xs ys)
noncomputable def lkL : List Item := ((lk0 [] []).at [false]).todo
noncomputable def lkR : List Item := toLp lkL
theorem lkR_eq : toLp lkR = lkR := by kernel_rfl
def lkT (xs ys : List Int) (i : Nat) : List AV := [.sl false 0 0 xs.length 1, .sl false 1 0 ys.length 1, .any, .any, .any, .i false .i64 (Int.ofNat i)] ++ List.replicate 20 .any
def lkN (xs ys : List Int) (i : Nat) : List AV := [.sl false 0 0 xs.length 1, .sl false 1 0 ys.length 1, .any, .any, .any, .i false .i64 (wrapQ false .i64 (Int.ofNat i + 1))] ++ List.replicate 20 .any
def lkM : List Bool := [false, false, true, true, true, false] ++ List.replicate 20 true
noncomputable def lkU (xs ys : List Int) (i : Nat) : Res := jupto Tryz.prog noT atLoop 100 lkR (lkT xs ys i) (lb2 xs ys)
theorem lk0_ok (xs ys : List Int) : (condsP (lk0 xs ys) [false], lfM lkM ((lk0 xs ys).at [false]), condsP (lk0 xs ys) [true], endOf Tryz.prog Tryz.f63.results.toList ((lk0 xs ys).at [true])) =
    ([!!eqQ false xs.length ys.length], (true, lkL, (lkT xs ys 0).map AV.bare, lb2 xs ys, []), [!eqQ false xs.length ys.length], some (some ([.b true false], []), lb2 xs ys, [])) := by kernel_rfl
def lkQ (xs ys : List Int) (i : Nat) : List Bool := [decide (0 + (Int.ofNat i).toNat * 1 < (Cells.ints IntKind.i64 ys).len), decide (0 ≤ Int.ofNat i) && decide (Int.ofNat i < ↑ys.length),
  decide (0 + (Int.ofNat i).toNat * 1 < (Cells.ints IntKind.i64 xs).len), decide (0 ≤ Int.ofNat i) && decide (Int.ofNat i < ↑xs.length)]
def lkE (xs ys : List Int) (i : Nat) : Bool := eqQ false (xs.getD (0 + (Int.ofNat i).toNat * 1) 0) (ys.getD (0 + (Int.ofNat i).toNat * 1) 0)
theorem lk_step (xs ys : List Int) (i : Nat) : (condsP (lkU xs ys i) [true, false], lfM lkM ((lkU xs ys i).at [true, false]), condsP (lkU xs ys i) [false], endOf Tryz.prog Tryz.f63.results.toList ((lkU xs ys i).at [false]), condsP (lkU xs ys i) [true, true], endOf Tryz.prog Tryz.f63.results.toList ((lkU xs ys i).at [true, true])) =
    ([ltQ false (Int.ofNat i) xs.length, !!lkE xs ys i], (true, lkR, (lkN xs ys i).map AV.bare, lb2 xs ys, lkQ xs ys i),
     [!ltQ false (Int.ofNat i) xs.length], some (some ([.b true true], []), lb2 xs ys, []),
     [ltQ false (Int.ofNat i) xs.length, !lkE xs ys i], some (some ([.b true false], []), lb2 xs ys, lkQ xs ys i)) := by kernel_rfl
theorem lk_go (xs ys : List Int) (hl : xs.length = ys.length) (hx : xs.length ≤ 5000) : ∀ (m i : Nat), i + m = xs.length → xs.take i = ys.take i → ∀ L, toLp L = lkR → ∃ t b, Ends Tryz.prog L (lkT xs ys i) (lb2 xs ys) t (lb2 xs ys) ∧ resV Tryz.prog t (lb2 xs ys) Tryz.f63.results.toList = some ([.b b (xs == ys)], [])
  | 0, i, hi, hp, L, hL => by
    have : i = xs.length := by omega
    subst this
    have h := lk_step xs ys xs.length
    simp only [Prod.mk.injEq] at h
    obtain ⟨_, _, c2, l2, _⟩ := h
    obtain ⟨t, e1, e2⟩ := way_ends (P := Tryz.prog) (T := noT) (stop := atLoop) (n := 100) (L := L) (R := lkR) (noT_sound _) (hL.trans lkR_eq.symm) (p := [false]) (t0 := lkT xs ys xs.length) (H0 := lb2 xs ys) (by
      show allT (condsP (lkU xs ys xs.length) [false]) = true
      rw [c2, ltQ_eq]; simp [allT]) l2 rfl
    refine ⟨t, true, e1, ?_⟩
    have : xs = ys := by
      have h1 : xs.take xs.length = xs := List.take_length
      have h2 : ys.take xs.length = ys := by rw [hl]; exact List.take_length
      rw [← h1, hp, h2]
    rw [e2, this]; simp
  | m + 1, i, hi, hp, L, hL => by
    have h := lk_step xs ys i
    simp only [Prod.mk.injEq] at h
    obtain ⟨c1, l1, _, _, c3, l3⟩ := h
    have hq : allT (lkQ xs ys i) = true := by simp [lkQ, allT, Cells.len]; omega
    have hlt : ltQ false (Int.ofNat i) xs.length = true := by rw [ltQ_eq]; simp; omega
    have hix : i < xs.length := by omega
    have hiy : i < ys.length := by omega
    have hE : lkE xs ys i = (xs[i] == ys[i]) := by
      unfold lkE
      rw [eqQ_eq]
      simp [List.getD_eq_getElem?_getD, hix, hiy]
    cases he : lkE xs ys i with
    | true =>
      have hr := way_reach (P := Tryz.prog) (T := noT) (stop := atLoop) (n := 100) (L := L) (R := lkR) (noT_sound _) (hL.trans lkR_eq.symm) (p := [true, false]) (t0 := lkT xs ys i) (H0 := lb2 xs ys) (by
        show allT (condsP (lkU xs ys i) [true, false]) = true
        rw [c1, hlt, he]; rfl) l1 hq
      have hN : lkN xs ys i = lkT xs ys (i + 1) := by
        unfold lkN lkT
        rw [ofNat_next (by omega)]
      rw [hN] at hr
      have he' := hE.symm.trans he
      rw [beq_iff_eq] at he'
      obtain ⟨t, b, e1, e2⟩ := lk_go xs ys hl hx m (i + 1) (by omega) (by
        rw [List.take_succ_eq_append_getElem hix, List.take_succ_eq_append_getElem hiy, hp, he']) lkR lkR_eq
      exact ⟨t, b, hr.ends e1, e2⟩
    | false =>
      obtain ⟨t, e1, e2⟩ := way_ends (P := Tryz.prog) (T := noT) (stop := atLoop) (n := 100) (L := L) (R := lkR) (noT_sound _) (hL.trans lkR_eq.symm) (p := [true, true]) (t0 := lkT xs ys i) (H0 := lb2 xs ys) (by
        show allT (condsP (lkU xs ys i) [true, true]) = true
        rw [c3, hlt, he]; rfl) l3 hq
      refine ⟨t, true, e1, ?_⟩
      have : (xs == ys) = false := by
        rw [hE] at he
        rw [beq_eq_false_iff_ne] at he ⊢
        intro h
        subst h
        exact he rfl
      rw [e2, this]
theorem like_ok (xs ys : List Int) (hx : xs.length ≤ 5000) : CallOK Tryz.prog 63 [.sl false 0 0 xs.length 1, .sl false 1 0 ys.length 1] (lb2 xs ys) (.b false (xs == ys)) (lb2 xs ys) := by
  have h := lk0_ok xs ys
  simp only [Prod.mk.injEq] at h
  obtain ⟨c1, l1, c2, l2⟩ := h
  have hb : Tryz.f63.body = some lkC := rfl
  by_cases hl : xs.length = ys.length
  · have hr := way_reach (P := Tryz.prog) (T := noT) (stop := atLoop) (n := 100) (L := [.code lkC]) (R := [.code lkC]) (noT_sound _) rfl (p := [false]) (t0 := .sl false 0 0 xs.length 1 :: .sl false 1 0 ys.length 1 :: undefs 24) (H0 := lb2 xs ys) (by
      show allT (condsP (lk0 xs ys) [false]) = true
      rw [c1, eqQ_eq, hl]; simp [allT]) l1 rfl
    obtain ⟨t, b, e1, e2⟩ := lk_go xs ys hl hx xs.length 0 (by omega) rfl lkL rfl
    have := call_of_ends (args := [.sl false 0 0 xs.length 1, .sl false 1 0 ys.length 1]) (m := []) Tryz.func63 hb (hr.ends e1) e2 rfl
    exact this.weaken fun σ x r => by cases r; exact .b _
  · obtain ⟨t, e1, e2⟩ := way_ends (P := Tryz.prog) (T := noT) (stop := atLoop) (n := 100) (L := [.code lkC]) (R := [.code lkC]) (noT_sound _) rfl (p := [true]) (t0 := .sl false 0 0 xs.length 1 :: .sl false 1 0 ys.length 1 :: undefs 24) (H0 := lb2 xs ys) (by
      show allT (condsP (lk0 xs ys) [true]) = true
      rw [c2, eqQ_eq]; simp [allT]; omega) l2 rfl
    have := call_of_ends (args := [.sl false 0 0 xs.length 1, .sl false 1 0 ys.length 1]) (m := []) Tryz.func63 hb e1 e2 rfl
    have e : (xs == ys) = false := by
      rw [beq_eq_false_iff_ne]
      intro h; exact hl (by rw [h])
    rw [e]
    exact this.weaken fun σ x r => by cases r; exact .b _
theorem like_nil : joinR 0 (tab0 63 [.slnil, .slnil] [] [] fun v H nd => .ret v H nd) = some (.b true true, []) := by kernel_rfl
def likeT : Table := fun _ args H nd K =>
  match args with
  | [a, b] => match intsAt H a, intsAt H b with
    | some (xs, q), some (ys, q') => K (.b false (xs == ys)) H (q ++ (q' ++ nd))
    | _, _ => match a, b with
      | .slnil, .slnil => K (.b true true) H nd
      | _, _ => .fail
  | _ => .fail
theorem like_at : SoundAt Tryz.prog 63 likeT := fun args H nd K => by
  unfold likeT
  split
  case h_2 => exact .inl rfl
  split
  · rename_i a b xs q ys q' hi hj
    refine .inr ⟨_, _, _, rfl, fun hn => ?_⟩
    rw [allT_append, allT_append, Bool.and_eq_true, Bool.and_eq_true] at hn
    obtain ⟨l, id, r, rfl, hg, h5⟩ := intsAt_spec hi hn.1
    obtain ⟨l', id', r', rfl, hg', _⟩ := intsAt_spec hj hn.2.1
    exact ⟨hn.2.2, call_read2 (like_ok xs ys h5) rfl hg hg'⟩
  · split
    case h_2 => exact .inl rfl
    exact .inr ⟨_, _, _, rfl, fun hn => ⟨hn, call_of_join tab0_sound like_nil rfl rfl H⟩⟩
end Go.Ax
