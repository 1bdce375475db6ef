/- Finite floats of 32 bits as whole numbers of the least unit. -/
import Derived.Test.YtaboeibkmknocaaDoorAaf
import Derived.Test.YtaboeibkmknocaaDoorAag
import Derived.Test.YtaboeibkmknocaaDoorAah
namespace Go.Ax
open Go Ieee

/-- A finite number in units of the least one. -/
def fint (x : Nat) : Option Int :=
  match single.read x with
  | .number s m i => some (signed s m (i + 149).toNat)
  | _ => none
theorem least32 : single.leastPlace = -149 := by decide
theorem bin32 : single.binade = 8388608 := rfl
theorem inf32 : single.infRung = 2139095040 := rfl
theorem frac32 : single.fractionBits = 23 := rfl
theorem read_form (x : Nat) : (∃ s m r, single.read x = .number s m (-149 + (r : Nat)) ∧ m < 16777216 ∧ (r = 0 ∨ 8388608 ≤ m) ∧ r ≤ 253) ∨ (∃ s, single.read x = .infinity s) ∨ ∃ s t, single.read x = .nan s t := by
  unfold Format.read
  rw [least32, bin32, inf32]
  generalize x % single.signWeight = k
  generalize (x / single.signWeight % 2 == 1) = s
  dsimp only
  split
  · exact .inl ⟨s, k, 0, by simp, by omega, .inl rfl, by omega⟩
  · split
    · refine .inl ⟨s, 8388608 + k % 8388608, k / 8388608 - 1, rfl, by omega, .inr (by omega), by omega⟩
    · split
      · exact .inr (.inl ⟨s, rfl⟩)
      · exact .inr (.inr ⟨s, _, rfl⟩)
theorem fint_form {x : Nat} {a : Int} (h : fint x = some a) : ∃ s m r, single.read x = .number s m (-149 + (r : Nat)) ∧ a = signed s m r ∧ m < 16777216 ∧ (r = 0 ∨ 8388608 ≤ m) ∧ r ≤ 253 := by
  unfold fint at h
  rcases read_form x with ⟨s, m, r, e, h1, h2, h3⟩ | ⟨s, e⟩ | ⟨s, t, e⟩
  · rw [e] at h
    simp only [Option.some.injEq] at h
    refine ⟨s, m, r, e, ?_, h1, h2, h3⟩
    rw [← h]
    congr 1
    omega
  · rw [e] at h; cases h
  · rw [e] at h; cases h
theorem fint_of {x : Nat} {s : Bool} {m r : Nat} (e : single.read x = .number s m (-149 + (r : Nat))) : fint x = some (signed s m r) := by
  unfold fint
  rw [e]
  simp only [Option.some.injEq]
  congr 1
  omega
theorem signed_eq (s : Bool) (m r : Nat) : signed s m r = (if s then -1 else 1) * ((m : Int) * 2 ^ r) := by
  unfold signed
  rw [Nat.shiftLeft_eq]
  cases s <;> simp
theorem signed_scale (s : Bool) (m r b : Nat) : signed s m (r + b) = signed s m r * 2 ^ b := by
  rw [signed_eq, signed_eq, Int.pow_add]
  cases s <;> simp [Int.mul_assoc, Int.neg_mul]
theorem pow_pos' (b : Nat) : (0 : Int) < 2 ^ b := Int.pow_pos (by decide)
theorem scale_inj {a c : Int} {b : Nat} : a * 2 ^ b = c * 2 ^ b ↔ a = c := Int.mul_eq_mul_right_iff (Int.ne_of_gt (pow_pos' b))
theorem scale_lt {a c : Int} {b : Nat} : a * 2 ^ b < c * 2 ^ b ↔ a < c := ⟨fun h => Int.lt_of_mul_lt_mul_right h (Int.le_of_lt (pow_pos' b)), fun h => Int.mul_lt_mul_of_pos_right h (pow_pos' b)⟩
/-- Two finite numbers in units of one place. -/
theorem two_units {s t : Bool} {m n r q : Nat} : ∃ b, signed s m r = signed s m (-149 + (r : Int) - min (-149 + (r : Int)) (-149 + (q : Int))).toNat * 2 ^ b ∧ signed t n q = signed t n (-149 + (q : Int) - min (-149 + (r : Int)) (-149 + (q : Int))).toNat * 2 ^ b ∧ (min (-149 + (r : Int)) (-149 + (q : Int))) = -149 + (b : Nat) := by
  refine ⟨min r q, ?_, ?_, by omega⟩
  · rw [← signed_scale]
    congr 1
    omega
  · rw [← signed_scale]
    congr 1
    omega
theorem order_fint {x y : Nat} {a b : Int} (hx : fint x = some a) (hy : fint y = some b) : single.order x y = some (compare a b) := by
  obtain ⟨s, m, r, e1, rfl, _⟩ := fint_form hx
  obtain ⟨t, n, q, e2, rfl, _⟩ := fint_form hy
  unfold Format.order
  rw [e1, e2]
  obtain ⟨k, h1, h2, _⟩ := two_units (s := s) (t := t) (m := m) (n := n) (r := r) (q := q)
  simp only [Datum.order, Option.some.injEq]
  rw [h1, h2]
  generalize signed s m _ = u
  generalize signed t n _ = v
  simp only [compare, compareOfLessAndEq, scale_lt, scale_inj]
theorem feq_fint {x y : Nat} {a b : Int} (hx : fint x = some a) (hy : fint y = some b) : feq .f32 x y = (a == b) := by
  unfold feq
  rw [show FloatKind.f32.format = single from rfl, order_fint hx hy]
  rw [Bool.eq_iff_iff]
  simp [compare, compareOfLessAndEq]
  constructor
  · intro h
    by_cases h1 : a < b
    · simp [h1] at h
    · by_cases h2 : a = b
      · exact h2
      · simp [h1, h2] at h
  · rintro rfl; simp
theorem flt_fint {x y : Nat} {a b : Int} (hx : fint x = some a) (hy : fint y = some b) : flt .f32 x y = decide (a < b) := by
  unfold flt
  rw [show FloatKind.f32.format = single from rfl, order_fint hx hy]
  rw [Bool.eq_iff_iff]
  simp [compare, compareOfLessAndEq]
  constructor
  · intro h
    by_cases h1 : a < b
    · exact h1
    · by_cases h2 : a = b
      · simp [h2] at h
      · simp [h1, h2] at h
  · intro h h2; omega
theorem feq_fin {x y : Nat} {a : Int} (h : feq .f32 x y = true) (hx : fint x = some a) : fint y = some a := by
  rcases read_form y with ⟨s, m, r, e, h1, h2, h3⟩ | ⟨s, e⟩ | ⟨s, t, e⟩
  · have hy := fint_of e
    rw [feq_fint hx hy, beq_iff_eq] at h
    rw [hy, h]
  · exfalso
    obtain ⟨s', m', r', e', _⟩ := fint_form hx
    unfold feq Format.order at h
    rw [show FloatKind.f32.format = single from rfl, e, e'] at h
    cases s <;> simp [Datum.order] at h
  · exfalso
    obtain ⟨s', m', r', e', _⟩ := fint_form hx
    unfold feq Format.order at h
    rw [show FloatKind.f32.format = single from rfl, e, e'] at h
    simp [Datum.order] at h
theorem feq_fin' {x y : Nat} {a : Int} (h : feq .f32 x y = true) (hy : fint y = some a) : fint x = some a := by
  rcases read_form x with ⟨s, m, r, e, h1, h2, h3⟩ | ⟨s, e⟩ | ⟨s, t, e⟩
  · have hx := fint_of e
    rw [feq_fint hx hy, beq_iff_eq] at h
    rw [hx, h]
  · exfalso
    obtain ⟨s', m', r', e', _⟩ := fint_form hy
    unfold feq Format.order at h
    rw [show FloatKind.f32.format = single from rfl, e, e'] at h
    cases s <;> simp [Datum.order] at h
  · exfalso
    obtain ⟨s', m', r', e', _⟩ := fint_form hy
    unfold feq Format.order at h
    rw [show FloatKind.f32.format = single from rfl, e, e'] at h
    simp [Datum.order] at h
theorem fint_zero : fint 0 = some 0 := by decide +kernel

/-! ### What is written -/
/-- A number that the format has. -/
def Rep (n : Nat) : Prop := ∃ m r, n = m * 2 ^ r ∧ m < 16777216 ∧ (r = 0 ∨ 8388608 ≤ m) ∧ r ≤ 253
theorem fint_rep {x : Nat} {a : Int} (h : fint x = some a) : Rep a.natAbs := by
  obtain ⟨s, m, r, _, rfl, h1, h2, h3⟩ := fint_form h
  refine ⟨m, r, ?_, h1, h2, h3⟩
  unfold signed
  rw [Nat.shiftLeft_eq]
  have : ((m : Int) * 2 ^ r).natAbs = m * 2 ^ r := by
    have e : (m : Int) * 2 ^ r = ((m * 2 ^ r : Nat) : Int) := by push_cast; rfl
    rw [e, Int.natAbs_natCast]
  cases s <;> simp [this]
theorem fint_canon (g : Bool) {m r : Nat} (h1 : m < 16777216) (h2 : r = 0 ∨ 8388608 ≤ m) (h3 : r ≤ 253) : fint (canon single g m r) = some (signed g m r) := by
  refine fint_of ?_
  rw [read_canon single g m r (by rw [frac32]; exact h1) (by rw [frac32]; exact h2) (by rw [bin32, inf32]; omega), least32]
theorem pow_cancel {a b c d : Nat} (h : a * 2 ^ c = b * 2 ^ d) (hcd : c ≤ d) : a = b * 2 ^ (d - c) := by
  have : b * 2 ^ d = b * 2 ^ (d - c) * 2 ^ c := by rw [Nat.mul_assoc, ← Nat.pow_add]; congr 2; omega
  rw [this] at h
  exact Nat.eq_of_mul_eq_mul_right (Nat.two_pow_pos c) h
theorem nearest_rep (g : Bool) (mag p : Nat) (h : Rep (mag * 2 ^ p)) : fint (single.nearest g mag (-149 + (p : Nat))) = some (signed g mag p) := by
  obtain ⟨m, r, e, h1, h2, h3⟩ := h
  have key : single.nearest g mag (-149 + (p : Nat)) = canon single g m r := by
    by_cases hz : mag = 0
    · subst hz
      have hm : m = 0 := by
        rcases Nat.eq_zero_or_pos m with h | h
        · exact h
        · have := Nat.mul_pos h (Nat.two_pow_pos r)
          simp at e; omega
      subst hm
      have hr : r = 0 := by rcases h2 with h | h <;> omega
      subst hr
      unfold Format.nearest
      simp [canon]
    rcases Nat.lt_or_ge r p with hrp | hrp
    · have em := pow_cancel e.symm (Nat.le_of_lt hrp)
      rcases h2 with h2 | h2
      · subst h2
        rw [Nat.sub_zero] at em
        -- a number at the least places
        by_cases hfull : 8388608 ≤ m
        · rw [em] at hfull h1 ⊢
          exact nearest_up single g mag p 0 _ (by rw [frac32]; exact hfull) (by rw [frac32]; exact h1) (by rw [least32]; omega) (by rw [bin32, inf32]; omega)
        · have hlog : mag.log2 + p ≤ 22 := by
            have h2 : mag * 2 ^ p < 2 ^ 23 := by rw [← em]; omega
            have h3 : 2 ^ (mag.log2 + p) ≤ mag * 2 ^ p := by rw [Nat.pow_add]; exact Nat.mul_le_mul_right _ (Nat.log2_self_le hz)
            have h4 : 2 ^ (mag.log2 + p) < 2 ^ 23 := Nat.lt_of_le_of_lt h3 h2
            have := (Nat.pow_lt_pow_iff_right (by decide : 1 < 2)).1 h4
            omega
          unfold Format.nearest
          rw [if_neg hz, least32, frac32]
          have hlast : max (-149 + (p : Int) + (mag.log2 : Nat) - (23 : Nat)) (-149) = -149 := by omega
          simp only [hlast]
          have e1 : (-149 + (p : Int) - -149).toNat = p := by omega
          have e2 : ((-149 : Int) - (-149 + (p : Int))).toNat = 0 := by omega
          have e3 : ((-149 : Int) - -149).toNat = 0 := by omega
          rw [e1, e2, e3, Nat.shiftLeft_eq, cut_zero, ← em, Nat.min_eq_left (by rw [inf32]; omega)]
          simp [canon]
      · rw [em] at h1 h2 ⊢
        exact nearest_up single g mag (p - r) r _ (by rw [frac32]; exact h2) (by rw [frac32]; exact h1) (by rw [least32]; omega) (by rw [bin32, inf32]; omega)
    · have em := pow_cancel e hrp
      rcases h2 with h2 | h2
      · subst h2
        have hp : p = 0 := by omega
        subst hp
        have em : mag = m * 2 ^ 0 := em
        rw [em]
        exact nearest_sub single g m 0 _ (by rw [frac32]; exact h1) (by rw [least32]; rfl) (by rw [inf32]; omega)
      · rw [em]
        exact nearest_down single g m (r - p) r _ (by rw [frac32]; exact h2) (by rw [frac32]; exact h1) (by rw [least32]; omega) (by rw [bin32, inf32]; omega)
  rw [key, fint_canon g h1 h2 h3, signed_eq, signed_eq]
  have : (m : Int) * 2 ^ r = (mag : Int) * 2 ^ p := by exact_mod_cast e.symm
  rw [this]
theorem signed_abs (n : Int) (p : Nat) : signed (decide (n < 0)) n.natAbs p = n * 2 ^ p := by
  rw [signed_eq]
  by_cases h : n < 0
  · simp [h]
    have : (n.natAbs : Int) = -n := by omega
    rw [this, Int.neg_mul, Int.neg_neg]
  · simp [h]
    have : (n.natAbs : Int) = n := by omega
    rw [this]
theorem sum_fint {s t : Bool} {m n r q : Nat} (h : Rep (signed s m r + signed t n q).natAbs) : ∃ z, ((Datum.number s m (-149 + (r : Nat))).sum (.number t n (-149 + (q : Nat)))).map single.write = some z ∧ fint z = some (signed s m r + signed t n q) := by
  obtain ⟨b, h1, h2, h3⟩ := two_units (s := s) (t := t) (m := m) (n := n) (r := r) (q := q)
  simp only [Datum.sum, Option.map_some]
  refine ⟨_, rfl, ?_⟩
  rw [h1, h2, ← Int.add_mul] at h ⊢
  rw [h3] at h ⊢
  generalize signed s m _ + signed t n _ = T at h ⊢
  have hT : (T * 2 ^ b).natAbs = T.natAbs * 2 ^ b := by
    rw [Int.natAbs_mul, Int.natAbs_pow]; rfl
  rw [hT] at h
  show fint (single.nearest _ T.natAbs (-149 + (b : Nat))) = _
  rw [nearest_rep _ _ _ h]
  by_cases h0 : T = 0
  · subst h0
    simp [signed_eq]
  · rw [if_neg h0]
    rw [signed_abs]
theorem fadd_fint {x y : Nat} {a b : Int} (hx : fint x = some a) (hy : fint y = some b) (h : Rep (a + b).natAbs) : fint (fadd .f32 x y) = some (a + b) := by
  obtain ⟨s, m, r, e1, rfl, _⟩ := fint_form hx
  obtain ⟨t, n, q, e2, rfl, _⟩ := fint_form hy
  obtain ⟨z, h1, h2⟩ := sum_fint h
  unfold fadd Format.add
  rw [show FloatKind.f32.format = single from rfl, e1, e2, h1]
  exact h2
theorem signed_neg (t : Bool) (n q : Nat) : signed (!t) n q = - signed t n q := by
  rw [signed_eq, signed_eq]
  cases t <;> simp
theorem fsub_fint {x y : Nat} {a b : Int} (hx : fint x = some a) (hy : fint y = some b) (h : Rep (a - b).natAbs) : fint (fsub .f32 x y) = some (a - b) := by
  obtain ⟨s, m, r, e1, rfl, _⟩ := fint_form hx
  obtain ⟨t, n, q, e2, rfl, _⟩ := fint_form hy
  have e : signed s m r - signed t n q = signed s m r + signed (!t) n q := by rw [signed_neg]; rfl
  rw [e] at h ⊢
  obtain ⟨z, h1, h2⟩ := sum_fint h
  unfold fsub Format.sub
  rw [show FloatKind.f32.format = single from rfl, e1, e2]
  show fint ((((Datum.number s m (-149 + (r : Nat))).sum (.number (!t) n (-149 + (q : Nat)))).map single.write).getD _) = _
  rw [h1]
  exact h2
theorem rep_zero : Rep 0 := ⟨0, 0, by simp, by omega, .inl rfl, by omega⟩
theorem fint_finB {x : Nat} {a : Int} (h : fint x = some a) : feq .f32 (fsub .f32 x x) 0 = true := by
  have := fsub_fint h h (by simp; exact rep_zero)
  rw [feq_fint this fint_zero]
  simp
theorem finB_fint {x : Nat} (h : feq .f32 (fsub .f32 x x) 0 = true) : ∃ a, fint x = some a := by
  rcases read_form x with ⟨s, m, r, e, h1, h2, h3⟩ | ⟨s, e⟩ | ⟨s, t, e⟩
  · exact ⟨_, fint_of e⟩
  · exfalso
    unfold fsub Format.sub at h
    rw [show FloatKind.f32.format = single from rfl, e] at h
    have : (((Datum.infinity s).sum (Datum.infinity s).opposite).map single.write).getD (qnan .f32) = qnan .f32 := by cases s <;> rfl
    rw [this] at h
    have e : feq .f32 (qnan .f32) 0 = false := by decide +kernel
    rw [e] at h; cases h
  · exfalso
    unfold fsub Format.sub at h
    rw [show FloatKind.f32.format = single from rfl, e] at h
    have : (((Datum.nan s t).sum (Datum.nan s t).opposite).map single.write).getD (qnan .f32) = qnan .f32 := rfl
    rw [this] at h
    have e : feq .f32 (qnan .f32) 0 = false := by decide +kernel
    rw [e] at h; cases h
end Go.Ax

/- Rounding keeps below what the format has. -/
namespace Go.Ax
open Go Ieee

theorem cutR_eq (g : Bool) (n s : Nat) : Toward.even.cut g n s = n / 2 ^ min s (n.log2 + 2) + (decide (2 ^ min s (n.log2 + 2) < 2 * (n % 2 ^ min s (n.log2 + 2))) || (2 ^ min s (n.log2 + 2) == 2 * (n % 2 ^ min s (n.log2 + 2)) && n / 2 ^ min s (n.log2 + 2) % 2 == 1)).toNat := by
  unfold Toward.cut
  rw [Nat.shiftLeft_eq, Nat.one_mul]
theorem cutR_le {g : Bool} {n s M : Nat} (h : n ≤ M * 2 ^ s) : Toward.even.cut g n s ≤ M := by
  rw [cutR_eq]
  rcases Nat.le_total s (n.log2 + 2) with hs | hs
  · rw [Nat.min_eq_left hs]
    have hp := Nat.two_pow_pos s
    have hlow : n / 2 ^ s ≤ M := Nat.div_le_of_le_mul (by rw [Nat.mul_comm]; exact h)
    have hdm := Nat.div_add_mod n (2 ^ s)
    rcases Nat.lt_or_ge (n / 2 ^ s) M with h1 | h1
    · have : ∀ b : Bool, b.toNat ≤ 1 := fun b => by cases b <;> decide
      have := this (decide (2 ^ s < 2 * (n % 2 ^ s)) || (2 ^ s == 2 * (n % 2 ^ s) && n / 2 ^ s % 2 == 1))
      omega
    · have e : n / 2 ^ s = M := by omega
      have hr : n % 2 ^ s = 0 := by
        rw [e] at hdm
        have : 2 ^ s * M = M * 2 ^ s := Nat.mul_comm _ _
        omega
      rw [hr, e]
      have h3 : ((2 ^ s : Nat) == 2 * 0) = false := by
        rw [beq_eq_false_iff_ne]; omega
      rw [h3]
      simp
  · rw [Nat.min_eq_right hs]
    have h1 : n < 2 ^ (n.log2 + 1) := Nat.lt_log2_self
    have h2 : 2 ^ (n.log2 + 2) = 2 ^ (n.log2 + 1) * 2 := by rw [show n.log2 + 2 = (n.log2 + 1) + 1 by omega, Nat.pow_succ]
    generalize 2 ^ (n.log2 + 2) = G at h2 ⊢
    have h3 : n / G = 0 := Nat.div_eq_of_lt (by omega)
    have h4 : n % G = n := Nat.mod_eq_of_lt (by omega)
    rw [h3, h4]
    have h5 : ¬ (G < 2 * n) := by omega
    have h6 : ((G : Nat) == 2 * n) = false := by rw [beq_eq_false_iff_ne]; omega
    rw [h6]
    simp [h5]
/-- The rung of a number that is rounded. -/
def rung (mag : Nat) (place : Int) : Nat :=
  (max (place + (mag.log2 : Nat) - 23) (-149) - -149).toNat * 8388608 + Toward.even.cut false (mag <<< (place - max (place + (mag.log2 : Nat) - 23) (-149)).toNat) (max (place + (mag.log2 : Nat) - 23) (-149) - place).toNat
theorem cut_sign (g g' : Bool) (n s : Nat) : Toward.even.cut g n s = Toward.even.cut g' n s := rfl
theorem nearest_rung (g : Bool) {mag : Nat} (place : Int) (h : mag ≠ 0) : single.nearest g mag place = single.word g (min (rung mag place) 2139095040) := by
  unfold Format.nearest
  rw [if_neg h]
  rfl
theorem rung_le {mag p K m r : Nat} (hm : mag ≠ 0) (h : mag * 2 ^ p ≤ m * 2 ^ (r + K)) (h1 : m < 16777216) (h2 : r = 0 ∨ 8388608 ≤ m) : rung mag (-149 - (K : Nat) + (p : Nat)) ≤ r * 8388608 + m := by
  unfold rung
  have hl0 : 2 ^ mag.log2 ≤ mag := Nat.log2_self_le hm
  have hl1 : mag < 2 ^ (mag.log2 + 1) := Nat.lt_log2_self
  generalize mag.log2 = L at hl0 hl1
  obtain ⟨r', hr', e⟩ : ∃ r' : Nat, (p + L ≤ 23 + K + r' ∧ (r' = 0 ∨ p + L = 23 + K + r')) ∧ max (-149 - (K : Int) + (p : Nat) + (L : Nat) - 23) (-149) = -149 + (r' : Nat) := by
    rcases Nat.le_total (p + L) (23 + K) with hle | hle
    · exact ⟨0, ⟨by omega, .inl rfl⟩, by omega⟩
    · exact ⟨p + L - (23 + K), ⟨by omega, .inr (by omega)⟩, by omega⟩
  obtain ⟨hr1, hr2⟩ := hr'
  rw [e]
  have e1 : (-149 + (r' : Int) - -149).toNat = r' := by omega
  have e2 : (-149 - (K : Int) + (p : Nat) - (-149 + (r' : Nat))).toNat = p - (K + r') := by omega
  have e3 : (-149 + (r' : Int) - (-149 - (K : Nat) + (p : Nat))).toNat = K + r' - p := by omega
  rw [e1, e2, e3, Nat.shiftLeft_eq]
  have hle : r' ≤ r := by
    rcases hr2 with rfl | hr2
    · exact Nat.zero_le _
    · have a1 : 2 ^ (L + p) ≤ mag * 2 ^ p := by rw [Nat.pow_add]; exact Nat.mul_le_mul_right _ hl0
      have a2 : m * 2 ^ (r + K) < 2 ^ (24 + (r + K)) := by rw [Nat.pow_add 2 24]; exact Nat.mul_lt_mul_of_pos_right h1 (Nat.two_pow_pos _)
      have a3 : 2 ^ (L + p) < 2 ^ (24 + (r + K)) := Nat.lt_of_le_of_lt (Nat.le_trans a1 h) a2
      have := (Nat.pow_lt_pow_iff_right (by decide : 1 < 2)).1 a3
      omega
  rcases Nat.lt_or_ge r' r with hlt | hge
  · have hc : Toward.even.cut false (mag * 2 ^ (p - (K + r'))) (K + r' - p) ≤ 16777216 := by
      refine cutR_le ?_
      rcases Nat.le_total p (K + r') with hp | hp
      · rw [Nat.sub_eq_zero_of_le hp, Nat.pow_zero, Nat.mul_one]
        have a1 : (16777216 : Nat) * 2 ^ (K + r' - p) = 2 ^ (24 + (K + r' - p)) := by rw [Nat.pow_add]
        rw [a1]
        exact Nat.le_of_lt (Nat.lt_of_lt_of_le hl1 (Nat.pow_le_pow_right (by decide) (by omega)))
      · rw [Nat.sub_eq_zero_of_le hp, Nat.pow_zero, Nat.mul_one]
        have a1 : mag * 2 ^ (p - (K + r')) < 2 ^ (L + 1) * 2 ^ (p - (K + r')) := Nat.mul_lt_mul_of_pos_right hl1 (Nat.two_pow_pos _)
        rw [← Nat.pow_add] at a1
        have a2 : 2 ^ (L + 1 + (p - (K + r'))) ≤ 2 ^ 24 := Nat.pow_le_pow_right (by decide) (by omega)
        omega
    have hB : 8388608 ≤ m := by rcases h2 with h2 | h2 <;> omega
    have : (r' + 1) * 8388608 ≤ r * 8388608 := Nat.mul_le_mul_right _ hlt
    omega
  · have e4 : r' = r := by omega
    subst e4
    have hc : Toward.even.cut false (mag * 2 ^ (p - (K + r'))) (K + r' - p) ≤ m := by
      refine cutR_le ?_
      rcases Nat.le_total p (K + r') with hp | hp
      · rw [Nat.sub_eq_zero_of_le hp, Nat.pow_zero, Nat.mul_one]
        refine Nat.le_of_mul_le_mul_right ?_ (Nat.two_pow_pos p)
        rw [Nat.mul_assoc, ← Nat.pow_add, show K + r' - p + p = r' + K by omega]
        exact h
      · rw [Nat.sub_eq_zero_of_le hp, Nat.pow_zero, Nat.mul_one]
        refine Nat.le_of_mul_le_mul_right ?_ (Nat.two_pow_pos (r' + K))
        rw [Nat.mul_assoc, ← Nat.pow_add, show p - (K + r') + (r' + K) = p by omega]
        exact h
    omega
theorem rung_pos {mag : Nat} {p : Nat} (hm : mag ≠ 0) : 1 ≤ rung mag (-149 + (p : Nat)) := by
  unfold rung
  generalize mag.log2 = L
  rcases Nat.le_total (p + L) 23 with hle | hle
  · have e : max (-149 + (p : Int) + (L : Nat) - 23) (-149) = -149 := by omega
    rw [e]
    have e2 : (-149 + (p : Int) - -149).toNat = p := by omega
    have e3 : ((-149 : Int) - (-149 + (p : Nat))).toNat = 0 := by omega
    rw [e2, e3, cut_zero, Nat.shiftLeft_eq]
    have := Nat.mul_pos (Nat.pos_of_ne_zero hm) (Nat.two_pow_pos p)
    omega
  · rcases Nat.lt_or_ge 23 (p + L) with h | h
    · have e : max (-149 + (p : Int) + (L : Nat) - 23) (-149) = -149 + ((p + L - 23 : Nat) : Int) := by omega
      rw [e]
      have e1 : (-149 + ((p + L - 23 : Nat) : Int) - -149).toNat = p + L - 23 := by omega
      rw [e1]
      have : 1 * 8388608 ≤ (p + L - 23) * 8388608 := Nat.mul_le_mul_right _ (by omega)
      omega
    · have e : max (-149 + (p : Int) + (L : Nat) - 23) (-149) = -149 := by omega
      rw [e]
      have e2 : (-149 + (p : Int) - -149).toNat = p := by omega
      have e3 : ((-149 : Int) - (-149 + (p : Nat))).toNat = 0 := by omega
      rw [e2, e3, cut_zero, Nat.shiftLeft_eq]
      have := Nat.mul_pos (Nat.pos_of_ne_zero hm) (Nat.two_pow_pos p)
      omega
/-- The number at a rung. -/
def valU (k : Nat) : Nat := if k < 8388608 then k else (8388608 + k % 8388608) * 2 ^ (k / 8388608 - 1)
theorem valU_mono {k k' : Nat} (h : k ≤ k') : valU k ≤ valU k' := by
  unfold valU
  by_cases h1 : k' < 8388608
  · rw [if_pos h1, if_pos (by omega)]; exact h
  · rw [if_neg h1]
    have hp : 0 < 2 ^ (k' / 8388608 - 1) := Nat.two_pow_pos _
    by_cases h2 : k < 8388608
    · rw [if_pos h2]
      have : (8388608 + k' % 8388608) * 1 ≤ (8388608 + k' % 8388608) * 2 ^ (k' / 8388608 - 1) := Nat.mul_le_mul_left _ hp
      omega
    · rw [if_neg h2]
      have hd : k / 8388608 ≤ k' / 8388608 := Nat.div_le_div_right h
      rcases Nat.lt_or_ge (k / 8388608) (k' / 8388608) with h3 | h3
      · have a1 : (8388608 + k % 8388608) * 2 ^ (k / 8388608 - 1) ≤ (2 * 8388608) * 2 ^ (k / 8388608 - 1) := Nat.mul_le_mul_right _ (by omega)
        have a2 : (2 * 8388608) * 2 ^ (k / 8388608 - 1) = 8388608 * 2 ^ (k / 8388608) := by
          have e : k / 8388608 = (k / 8388608 - 1) + 1 := by omega
          rw [Nat.mul_comm 2 8388608, Nat.mul_assoc]
          congr 1
          rw [Nat.mul_comm, ← Nat.pow_succ, Nat.succ_eq_add_one, ← e]
        have a3 : 8388608 * 2 ^ (k / 8388608) ≤ 8388608 * 2 ^ (k' / 8388608 - 1) := Nat.mul_le_mul_left _ (Nat.pow_le_pow_right (by decide) (by omega))
        have a4 : 8388608 * 2 ^ (k' / 8388608 - 1) ≤ (8388608 + k' % 8388608) * 2 ^ (k' / 8388608 - 1) := Nat.mul_le_mul_right _ (by omega)
        omega
      · have e : k / 8388608 = k' / 8388608 := by omega
        rw [e]
        exact Nat.mul_le_mul_right _ (by omega)
theorem valU_canon {m r : Nat} (h1 : m < 16777216) (h2 : r = 0 ∨ 8388608 ≤ m) : valU (r * 8388608 + m) = m * 2 ^ r := by
  unfold valU
  rcases Nat.lt_or_ge m 8388608 with h | h
  · have hr : r = 0 := by omega
    rw [hr, Nat.zero_mul, Nat.zero_add, Nat.pow_zero, Nat.mul_one, if_pos h]
  · rw [if_neg (by omega)]
    have e1 : (r * 8388608 + m) / 8388608 = r + 1 := by omega
    have e2 : (r * 8388608 + m) % 8388608 = m - 8388608 := by omega
    rw [e1, e2, Nat.add_sub_cancel, Nat.add_sub_cancel' h]
theorem fint_word (g : Bool) {k : Nat} (hk : k < 2139095040) : fint (single.word g k) = some (if g then -(valU k : Int) else valU k) := by
  obtain ⟨e1, e2⟩ := read_word single g k (by have := inf_lt single; rw [inf32] at this; omega)
  have hr : single.read (single.word g k) = if k < 8388608 then .number g k (-149) else .number g (8388608 + k % 8388608) (-149 + ((k / 8388608 - 1 : Nat) : Int)) := by
    unfold Format.read
    rw [least32, bin32, inf32, e1, e2]
    dsimp only
    split
    · rfl
    · rfl
  unfold fint valU
  rw [hr]
  by_cases h : k < 8388608
  · rw [if_pos h, if_pos h]
    simp only [Option.some.injEq]
    rw [signed_eq]
    cases g <;> simp
  · rw [if_neg h, if_neg h]
    simp only [Option.some.injEq]
    rw [signed_eq]
    have e3 : (-149 + ((k / 8388608 - 1 : Nat) : Int) + 149).toNat = k / 8388608 - 1 := by omega
    rw [e3]
    cases g <;> simp
/-- What is rounded is not past a number that the format has. -/
theorem round_le (g : Bool) {mag p K m r : Nat} (h : mag * 2 ^ p ≤ m * 2 ^ (r + K)) (h1 : m < 16777216) (h2 : r = 0 ∨ 8388608 ≤ m) (h3 : r ≤ 253) : ∃ v : Nat, fint (single.nearest g mag (-149 - (K : Nat) + (p : Nat))) = some (if g then -(v : Int) else v) ∧ v ≤ m * 2 ^ r := by
  by_cases hm : mag = 0
  · subst hm
    refine ⟨0, ?_, Nat.zero_le _⟩
    unfold Format.nearest
    rw [if_pos rfl]
    cases g <;> decide +kernel
  · have hr := rung_le hm h h1 h2
    have hlt : rung mag (-149 - (K : Nat) + (p : Nat)) < 2139095040 := by
      have : r * 8388608 ≤ 253 * 8388608 := Nat.mul_le_mul_right _ h3
      omega
    rw [nearest_rung g _ hm, Nat.min_eq_left (by omega), fint_word g hlt]
    exact ⟨_, rfl, by rw [← valU_canon h1 h2]; exact valU_mono hr⟩
theorem valU_pos {k : Nat} (h : 1 ≤ k) : 1 ≤ valU k := by
  have := valU_mono h
  have e : valU 1 = 1 := rfl
  omega
end Go.Ax

/- Differences and quotients of floats that are not less than 0. -/
namespace Go.Ax
open Go Ieee

theorem form_nonneg {x : Nat} {a : Int} (h : fint x = some a) (h0 : 0 ≤ a) : ∃ s m r, single.read x = .number s m (-149 + (r : Nat)) ∧ a = (m : Int) * 2 ^ r ∧ m < 16777216 ∧ (r = 0 ∨ 8388608 ≤ m) ∧ r ≤ 253 ∧ signed s m r = a := by
  obtain ⟨s, m, r, e, ha, h1, h2, h3⟩ := fint_form h
  refine ⟨s, m, r, e, ?_, h1, h2, h3, ha.symm⟩
  rw [signed_eq] at ha
  have hp : (0 : Int) ≤ (m : Int) * 2 ^ r := Int.mul_nonneg (by omega) (Int.le_of_lt (pow_pos' _))
  cases s <;> simp at ha <;> omega
/-- A sum that lies between 0 and a number of the format. -/
theorem sum_le {s t : Bool} {m n r q M R : Nat} (h0 : 0 ≤ signed s m r + signed t n q) (hle : signed s m r + signed t n q ≤ (M : Int) * 2 ^ R) (h1 : M < 16777216) (h2 : R = 0 ∨ 8388608 ≤ M) (h3 : R ≤ 253) :
    ∃ z, ((Datum.number s m (-149 + (r : Nat))).sum (.number t n (-149 + (q : Nat)))).map single.write = some z ∧ ∃ v : Nat, fint z = some (v : Int) ∧ v ≤ M * 2 ^ R ∧ (v = 0 → signed s m r + signed t n q = 0) := by
  obtain ⟨b, e1, e2, e3⟩ := two_units (s := s) (t := t) (m := m) (n := n) (r := r) (q := q)
  simp only [Datum.sum, Option.map_some]
  refine ⟨_, rfl, ?_⟩
  rw [e1, e2, ← Int.add_mul] at h0 hle
  have etot : signed s m r + signed t n q = (signed s m (-149 + (r : Int) - min (-149 + (r : Int)) (-149 + (q : Int))).toNat + signed t n (-149 + (q : Int) - min (-149 + (r : Int)) (-149 + (q : Int))).toNat) * 2 ^ b := by rw [e1, e2, ← Int.add_mul]
  rw [etot]
  clear etot
  generalize signed s m _ + signed t n _ = T at h0 hle ⊢
  rw [e3]
  have hb : (0 : Int) < 2 ^ b := pow_pos' b
  have hT0 : 0 ≤ T := by
    rcases Int.lt_or_le T 0 with h | h
    · have := Int.mul_neg_of_neg_of_pos h hb; omega
    · exact h
  have hnat : T.natAbs * 2 ^ b ≤ M * 2 ^ (R + 0) := by
    have e : ((T.natAbs * 2 ^ b : Nat) : Int) = T * 2 ^ b := by
      push_cast
      rw [Int.natAbs_of_nonneg hT0]
    have e' : ((M * 2 ^ (R + 0) : Nat) : Int) = (M : Int) * 2 ^ R := by push_cast; rfl
    omega
  have key : ∀ g, (T ≠ 0 → g = false) → ∃ v : Nat, fint (single.nearest g T.natAbs (-149 + (b : Nat))) = some (v : Int) ∧ v ≤ M * 2 ^ R ∧ (v = 0 → T * 2 ^ b = 0) := fun g hg => by
    by_cases hz : T = 0
    · subst hz
      refine ⟨0, ?_, Nat.zero_le _, fun _ => by simp⟩
      show fint (single.nearest g 0 _) = _
      unfold Format.nearest
      rw [if_pos rfl]
      cases g <;> decide +kernel
    · have hg := hg hz
      subst hg
      have hm : T.natAbs ≠ 0 := by omega
      have hpl : (-149 + (b : Int)) = -149 - ((0 : Nat) : Int) + (b : Nat) := by omega
      obtain ⟨v, v1, v2⟩ := round_le false (K := 0) hnat h1 h2 h3
      rw [← hpl] at v1
      refine ⟨v, by simpa using v1, v2, fun hv => ?_⟩
      exfalso
      subst hv
      have hr := rung_le (K := 0) hm hnat h1 h2
      rw [← hpl] at hr
      have hlt : rung T.natAbs (-149 + (b : Nat)) < 2139095040 := by
        have : R * 8388608 ≤ 253 * 8388608 := Nat.mul_le_mul_right _ h3
        omega
      rw [nearest_rung false _ hm, Nat.min_eq_left (by omega), fint_word false hlt] at v1
      have := valU_pos (rung_pos (p := b) hm)
      simp at v1
      omega
  show ∃ v : Nat, fint (single.nearest (if T = 0 then s && t else decide (T < 0)) T.natAbs (-149 + (b : Nat))) = some (v : Int) ∧ v ≤ M * 2 ^ R ∧ (v = 0 → T * 2 ^ b = 0)
  refine key _ fun hz => ?_
  rw [if_neg hz]
  simp; omega
theorem fsub_le {t x : Nat} {a b : Int} (ht : fint t = some a) (hx : fint x = some b) (h0 : 0 ≤ b) (h : b ≤ a) : ∃ v : Nat, fint (fsub .f32 t x) = some (v : Int) ∧ (v : Int) ≤ a ∧ (v = 0 → a = b) := by
  obtain ⟨s, m, r, e1, ha, h1, h2, h3, hs⟩ := form_nonneg ht (by omega)
  obtain ⟨u, n, q, e2, hb, _, _, _, hu⟩ := form_nonneg hx h0
  have e : signed s m r + signed (!u) n q = a - b := by rw [signed_neg, hs, hu]; omega
  obtain ⟨z, z1, v, v1, v2, v3⟩ := sum_le (s := s) (t := !u) (m := m) (n := n) (r := r) (q := q) (M := m) (R := r) (by omega) (by omega) h1 h2 h3
  refine ⟨v, ?_, ?_, fun hv => by have := v3 hv; omega⟩
  · unfold fsub Format.sub
    rw [show FloatKind.f32.format = single from rfl, e1, e2]
    show fint ((((Datum.number s m (-149 + (r : Nat))).sum (.number (!u) n (-149 + (q : Nat)))).map single.write).getD _) = _
    rw [z1]
    exact v1
  · rw [ha]
    have : ((m * 2 ^ r : Nat) : Int) = (m : Int) * 2 ^ r := by push_cast; rfl
    omega
theorem one_bits : fint 1065353216 = some (2 ^ 149) := by decide +kernel
/-- A quotient of a number by one that is not less. -/
theorem fdiv_le {x t : Nat} {a b : Int} (hx : fint x = some a) (ht : fint t = some b) (h0 : 0 ≤ a) (h : a ≤ b) (hb : 0 < b) : ∃ v : Nat, fint (fdiv .f32 x t) = some (v : Int) ∧ v ≤ 2 ^ 149 ∧ (a = b → v = 2 ^ 149) ∧ (a = 0 → v = 0) := by
  obtain ⟨s, m, r, e1, ha, h1, h2, h3, hs⟩ := form_nonneg hx h0
  obtain ⟨u, n, q, e2, hb', n1, n2, n3, hu⟩ := form_nonneg ht (by omega)
  have hn : n ≠ 0 := by
    rintro rfl
    simp at hb'; omega
  have hle : m * 2 ^ r ≤ n * 2 ^ q := by
    have e : ((m * 2 ^ r : Nat) : Int) = a := by rw [ha]; push_cast; rfl
    have e' : ((n * 2 ^ q : Nat) : Int) = b := by rw [hb']; push_cast; rfl
    omega
  unfold fdiv Format.div
  rw [show FloatKind.f32.format = single from rfl, e1, e2]
  have hu0 : u = false := by
    cases u with
    | false => rfl
    | true =>
      exfalso
      rw [signed_eq] at hu
      have h4 : (0 : Int) ≤ (n : Int) * 2 ^ q := Int.mul_nonneg (by omega) (Int.le_of_lt (pow_pos' _))
      simp at hu
      omega
  subst hu0
  show ∃ v : Nat, fint (((Datum.quotient (23 + 2) (.number s m (-149 + (r : Nat))) (.number false n (-149 + (q : Nat)))).map single.write).getD (qnan .f32)) = some (v : Int) ∧ _
  simp only [Datum.quotient, if_neg hn, Option.map_some, Option.getD_some]
  by_cases hm : m = 0
  · subst hm
    refine ⟨0, ?_, Nat.zero_le _, fun hab => by simp at ha; omega, fun _ => rfl⟩
    rw [Nat.zero_shiftLeft, Nat.zero_div, Nat.zero_mod]
    show fint (single.nearest (s ^^ false) 0 _) = _
    unfold Format.nearest
    rw [if_pos rfl]
    cases s <;> decide +kernel
  · have hs0 : s = false := by
      cases s with
      | false => rfl
      | true =>
        exfalso
        rw [signed_eq] at hs
        have h4 : (0 : Int) < (m : Int) * 2 ^ r := Int.mul_pos (by omega) (pow_pos' _)
        simp at hs
        omega
    subst hs0
    have lm := Nat.log2_self_le hm
    have lm2 : m < 2 ^ (m.log2 + 1) := Nat.lt_log2_self
    have ln := Nat.log2_self_le hn
    have ln2 : n < 2 ^ (n.log2 + 1) := Nat.lt_log2_self
    have l24 : m.log2 < 24 := by
      have : 2 ^ m.log2 < 2 ^ 24 := Nat.lt_of_le_of_lt lm h1
      exact (Nat.pow_lt_pow_iff_right (by decide : 1 < 2)).1 this
    obtain ⟨k, hk, hk2⟩ : ∃ k, 23 + 2 + n.log2 - m.log2 = k ∧ k + m.log2 = 25 + n.log2 := ⟨_, rfl, by omega⟩
    rw [hk, Nat.shiftLeft_eq]
    -- V = m 2^k / n lies above 2^24 and not above 2^(q + k - r)
    have hge : r + 24 ≤ q + k := by
      have a1 : 2 ^ (25 + n.log2 + r) ≤ m * 2 ^ r * 2 ^ k := by
        have : 2 ^ (25 + n.log2 + r) = 2 ^ m.log2 * 2 ^ r * 2 ^ k := by rw [← Nat.pow_add, ← Nat.pow_add]; congr 1; omega
        rw [this]
        exact Nat.mul_le_mul_right _ (Nat.mul_le_mul_right _ lm)
      have a2 : m * 2 ^ r * 2 ^ k < 2 ^ (n.log2 + 1 + q + k) := by
        refine Nat.lt_of_le_of_lt (Nat.mul_le_mul_right _ hle) ?_
        rw [Nat.pow_add _ _ k, Nat.pow_add _ _ q]
        exact Nat.mul_lt_mul_of_pos_right (Nat.mul_lt_mul_of_pos_right ln2 (Nat.two_pow_pos _)) (Nat.two_pow_pos _)
      have := (Nat.pow_lt_pow_iff_right (by decide : 1 < 2)).1 (Nat.lt_of_le_of_lt a1 a2)
      omega
    obtain ⟨e, he⟩ : ∃ e, q + k = r + e := ⟨q + k - r, by omega⟩
    have hV : m * 2 ^ k ≤ n * 2 ^ e := by
      refine Nat.le_of_mul_le_mul_right ?_ (Nat.two_pow_pos r)
      have a1 : m * 2 ^ k * 2 ^ r = m * 2 ^ r * 2 ^ k := by ac_rfl
      have a2 : n * 2 ^ e * 2 ^ r = n * 2 ^ q * 2 ^ k := by rw [Nat.mul_assoc, ← Nat.pow_add, Nat.mul_assoc, ← Nat.pow_add]; congr 2; omega
      rw [a1, a2]
      exact Nat.mul_le_mul_right _ hle
    have hdm := Nat.div_add_mod (m * 2 ^ k) n
    have hmod := Nat.mod_lt (m * 2 ^ k) (Nat.pos_of_ne_zero hn)
    generalize hQ : m * 2 ^ k / n = Q at hdm ⊢
    generalize hRm : m * 2 ^ k % n = Rm at hdm hmod ⊢
    have hQe : Q ≤ 2 ^ e := by
      rw [← hQ]
      exact Nat.div_le_of_le_mul hV
    have hmag : ∀ st : Nat, (Rm = 0 → st = 0) → st ≤ 1 → 2 * Q + st ≤ 2 * 2 ^ e := fun st hst0 hst => by
      rcases Nat.lt_or_ge Q (2 ^ e) with hlt | hge'
      · omega
      · have hQ' : Q = 2 ^ e := by omega
        have : Rm = 0 := by
          rw [hQ'] at hdm
          omega
        have := hst0 this
        omega
    have fin : ∀ st : Nat, (Rm = 0 → st = 0) → st ≤ 1 → ∃ v : Nat, fint (single.nearest (false ^^ false) (2 * Q + st) (-149 + (r : Int) - (-149 + (q : Int)) - (k : Int) - 1)) = some (v : Int) ∧ v ≤ 2 ^ 149 ∧ (a = b → v = 2 ^ 149) ∧ (a = 0 → v = 0) := fun st hst0 hst => by
      have hm1 := hmag st hst0 hst
      have hpl : (-149 + (r : Int) - (-149 + (q : Int)) - (k : Int) - 1) = -149 - ((q + k + 1 : Nat) : Int) + ((r + 149 : Nat) : Int) := by omega
      have hb1 : (2 * Q + st) * 2 ^ (r + 149) ≤ 8388608 * 2 ^ (126 + (q + k + 1)) := by
        have a1 : (8388608 : Nat) * 2 ^ (126 + (q + k + 1)) = 2 * 2 ^ e * 2 ^ (r + 149) := by
          rw [show (8388608 : Nat) = 2 ^ 23 by decide, ← Nat.pow_add, ← Nat.pow_succ', ← Nat.pow_add]
          congr 1
          omega
        rw [a1]
        exact Nat.mul_le_mul_right _ hm1
      obtain ⟨v, v1, v2⟩ := round_le false hb1 (by decide) (.inr (by decide)) (by decide)
      rw [← hpl] at v1
      refine ⟨v, by simpa using v1, by rw [show (8388608 : Nat) * 2 ^ 126 = 2 ^ 149 by rw [show (8388608 : Nat) = 2 ^ 23 by decide, ← Nat.pow_add]] at v2; exact v2, fun hab => ?_, fun ha0 => by
        exfalso
        have h4 : (0 : Int) < (m : Int) * 2 ^ r := Int.mul_pos (by omega) (pow_pos' _)
        omega⟩
      have heq : m * 2 ^ r = n * 2 ^ q := by
        have e : ((m * 2 ^ r : Nat) : Int) = a := by rw [ha]; push_cast; rfl
        have e' : ((n * 2 ^ q : Nat) : Int) = b := by rw [hb']; push_cast; rfl
        omega
      have hV2 : m * 2 ^ k = n * 2 ^ e := by
        refine Nat.eq_of_mul_eq_mul_right (Nat.two_pow_pos r) ?_
        have a1 : m * 2 ^ k * 2 ^ r = m * 2 ^ r * 2 ^ k := by ac_rfl
        have a2 : n * 2 ^ e * 2 ^ r = n * 2 ^ q * 2 ^ k := by rw [Nat.mul_assoc, ← Nat.pow_add, Nat.mul_assoc, ← Nat.pow_add]; congr 2; omega
        rw [a1, a2, heq]
      have hQ2 : Q = 2 ^ e := by rw [← hQ, hV2, Nat.mul_div_cancel_left _ (Nat.pos_of_ne_zero hn)]
      have hR2 : Rm = 0 := by rw [← hRm, hV2, Nat.mul_mod_right]
      have hst2 := hst0 hR2
      -- e is 25
      have he25 : e ≤ 26 := by
        have a1 : 2 ^ (n.log2 + e) ≤ m * 2 ^ k := by rw [hV2, Nat.pow_add]; exact Nat.mul_le_mul_right _ ln
        have a2 : m * 2 ^ k < 2 ^ (m.log2 + 1 + k) := by rw [Nat.pow_add _ _ k]; exact Nat.mul_lt_mul_of_pos_right lm2 (Nat.two_pow_pos _)
        have := (Nat.pow_lt_pow_iff_right (by decide : 1 < 2)).1 (Nat.lt_of_le_of_lt a1 a2)
        omega
      have hpl2 : (-149 + (r : Int) - (-149 + (q : Int)) - (k : Int) - 1) = -149 + ((148 - e : Nat) : Int) := by omega
      have hval : (2 * Q + st) * 2 ^ (148 - e) = 2 ^ 149 := by
        rw [hQ2, hst2, Nat.add_zero, ← Nat.pow_succ', ← Nat.pow_add]
        congr 1
        omega
      have hrep : Rep ((2 * Q + st) * 2 ^ (148 - e)) := by
        rw [hval]
        exact ⟨8388608, 126, by decide +kernel, by decide, .inr (by decide), by decide⟩
      have hn2 := nearest_rep false (2 * Q + st) (148 - e) hrep
      rw [← hpl2] at hn2
      rw [hn2, signed_eq] at v1
      have hvi : ((2 * Q + st : Nat) : Int) * 2 ^ (148 - e) = 2 ^ 149 := by exact_mod_cast hval
      simp only [Bool.false_eq_true, if_false, Int.one_mul, Option.some.injEq] at v1
      rw [hvi] at v1
      exact_mod_cast v1.symm
    exact fin _ (fun hz => by rw [hz]; rfl) (by cases (Rm != 0) <;> decide)
theorem fmul_zero {x y : Nat} {a : Int} (hx : fint x = some a) (hy : fint y = some 0) : fint (fmul .f32 x y) = some 0 := by
  obtain ⟨s, m, r, e1, _, _⟩ := fint_form hx
  obtain ⟨t, n, q, e2, h2, _⟩ := fint_form hy
  have hn : n = 0 := by
    rcases Nat.eq_zero_or_pos n with h | h
    · exact h
    · exfalso
      have h4 : (0 : Int) < (n : Int) * 2 ^ q := Int.mul_pos (by omega) (pow_pos' _)
      rw [signed_eq] at h2
      cases t <;> simp at h2 <;> omega
  subst hn
  unfold fmul Format.mul
  rw [show FloatKind.f32.format = single from rfl, e1, e2]
  show fint (((Datum.product (.number s m (-149 + (r : Nat))) (.number t 0 (-149 + (q : Nat)))).map single.write).getD (qnan .f32)) = _
  simp only [Datum.product, Option.map_some, Option.getD_some]
  show fint (single.nearest (s ^^ t) (m * 0) _) = _
  unfold Format.nearest
  rw [if_pos (Nat.mul_zero m)]
  cases s <;> cases t <;> decide +kernel
end Go.Ax

/- Floats of one value do alike. -/
namespace Go.Ax
open Go Ieee

theorem signed_zero (s : Bool) (k : Nat) : signed s 0 k = 0 := by rw [signed_eq]; cases s <;> simp
theorem read_uniq {y z : Nat} {c : Int} (hy : fint y = some c) (hz : fint z = some c) : ∃ s t m r, single.read y = .number s m (-149 + (r : Nat)) ∧ single.read z = .number t m (-149 + (r : Nat)) ∧ (m ≠ 0 → s = t) := by
  obtain ⟨s, m, r, e1, h1, m1, l1, r1⟩ := fint_form hy
  obtain ⟨t, n, q, e2, h2, n1, l2, q1⟩ := fint_form hz
  have hmag : m * 2 ^ r = n * 2 ^ q := by
    rw [h2, signed_eq, signed_eq] at h1
    have p1 : (0 : Int) ≤ (m : Int) * 2 ^ r := Int.mul_nonneg (by omega) (Int.le_of_lt (pow_pos' _))
    have p2 : (0 : Int) ≤ (n : Int) * 2 ^ q := Int.mul_nonneg (by omega) (Int.le_of_lt (pow_pos' _))
    have : (m : Int) * 2 ^ r = (n : Int) * 2 ^ q := by cases s <;> cases t <;> simp at h1 <;> omega
    exact_mod_cast this
  have hk : r * 8388608 + m = q * 8388608 + n := by
    have v1 := valU_canon m1 l1
    have v2 := valU_canon n1 l2
    have hinj : ∀ a b : Nat, a < b → valU a < valU b := fun a b hab => by
      have hs : valU a < valU (a + 1) := by
        unfold valU
        by_cases c1 : a + 1 < 8388608
        · rw [if_pos (by omega), if_pos c1]; omega
        · rw [if_neg c1]
          by_cases c2 : a < 8388608
          · rw [if_pos c2]
            have : a = 8388607 := by omega
            subst this
            decide
          · rw [if_neg c2]
            have hp : 0 < 2 ^ (a / 8388608 - 1) := Nat.two_pow_pos _
            rcases Nat.lt_or_ge (a % 8388608 + 1) 8388608 with h3 | h3
            · have e1 : (a + 1) / 8388608 = a / 8388608 := by omega
              have e2 : (a + 1) % 8388608 = a % 8388608 + 1 := by omega
              rw [e1, e2]
              exact Nat.mul_lt_mul_of_pos_right (by omega) hp
            · have e1 : (a + 1) / 8388608 - 1 = (a / 8388608 - 1) + 1 := by omega
              have e2 : (a + 1) % 8388608 = 0 := by omega
              rw [e1, e2, Nat.add_zero, Nat.pow_succ, ← Nat.mul_assoc, Nat.mul_right_comm]
              exact Nat.mul_lt_mul_of_pos_right (by omega) hp
      exact Nat.lt_of_lt_of_le hs (valU_mono hab)
    rcases Nat.lt_trichotomy (r * 8388608 + m) (q * 8388608 + n) with h | h | h
    · have := hinj _ _ h; rw [v1, v2, hmag] at this; omega
    · exact h
    · have := hinj _ _ h; rw [v1, v2, hmag] at this; omega
  have hrq : r = q := by
    rcases Nat.lt_trichotomy r q with h | h | h
    · have h3 : 8388608 ≤ n := by rcases l2 with h | h <;> omega
      omega
    · exact h
    · have h3 : 8388608 ≤ m := by rcases l1 with h | h <;> omega
      omega
  subst hrq
  have hmn : m = n := by omega
  subst hmn
  refine ⟨s, t, m, r, e1, e2, fun hm => ?_⟩
  rw [h2, signed_eq, signed_eq] at h1
  have p1 : (0 : Int) < (m : Int) * 2 ^ r := Int.mul_pos (by omega) (pow_pos' _)
  cases s <;> cases t <;> simp at h1 <;> first | rfl | omega
theorem sum_same {s u u' : Bool} {m r q : Nat} (hm : m ≠ 0) : ((Datum.number s m (-149 + (r : Nat))).sum (.number u 0 (-149 + (q : Nat)))).map single.write = ((Datum.number s m (-149 + (r : Nat))).sum (.number u' 0 (-149 + (q : Nat)))).map single.write := by
  simp only [Datum.sum, signed_zero, Int.add_zero]
  have hT : ∀ k, signed s m k ≠ 0 := fun k => by
    rw [signed_eq]
    have p1 : (0 : Int) < (m : Int) * 2 ^ k := Int.mul_pos (by omega) (pow_pos' _)
    generalize (m : Int) * 2 ^ k = z at p1 ⊢
    cases s <;> simp <;> omega
  rw [if_neg (hT _), if_neg (hT _)]
theorem fadd_same {t y z : Nat} {a c : Int} (ht : fint t = some a) (ha : 0 < a) (hy : fint y = some c) (hz : fint z = some c) : fadd .f32 t y = fadd .f32 t z := by
  obtain ⟨s, m, r, e, ha', _⟩ := form_nonneg ht (by omega)
  have hm : m ≠ 0 := by rintro rfl; simp at ha'; omega
  obtain ⟨u, u', n, q, e1, e2, hs⟩ := read_uniq hy hz
  unfold fadd Format.add
  rw [show FloatKind.f32.format = single from rfl, e, e1, e2]
  by_cases hn : n = 0
  · subst hn
    rw [sum_same (u := u) (u' := u') hm]
  · rw [hs hn]
theorem fsub_same {t y z : Nat} {a c : Int} (ht : fint t = some a) (ha : 0 < a) (hy : fint y = some c) (hz : fint z = some c) : fsub .f32 t y = fsub .f32 t z := by
  obtain ⟨s, m, r, e, ha', _⟩ := form_nonneg ht (by omega)
  have hm : m ≠ 0 := by rintro rfl; simp at ha'; omega
  obtain ⟨u, u', n, q, e1, e2, hs⟩ := read_uniq hy hz
  unfold fsub Format.sub
  rw [show FloatKind.f32.format = single from rfl, e, e1, e2]
  by_cases hn : n = 0
  · subst hn
    show (((Datum.number s m (-149 + (r : Nat))).sum (.number (!u) 0 (-149 + (q : Nat)))).map single.write).getD _ = (((Datum.number s m (-149 + (r : Nat))).sum (.number (!u') 0 (-149 + (q : Nat)))).map single.write).getD _
    rw [sum_same (u := !u) (u' := !u') hm]
  · rw [hs hn]
end Go.Ax

/- Differences turned round: the same but for the sign. -/
namespace Go.Ax
open Go Ieee

/-- A zero of either sign. -/
def isZ (x : Nat) : Prop := x = single.word false 0 ∨ x = single.word true 0
theorem sub_form {x y : Nat} {a b : Int} (hx : fint x = some a) (hy : fint y = some b) : ∃ (T : Int) (p : Nat) (g g' : Bool), a - b = T * 2 ^ p ∧ fsub .f32 x y = single.nearest (if T = 0 then g else decide (T < 0)) T.natAbs (-149 + (p : Nat)) ∧ fsub .f32 y x = single.nearest (if T = 0 then g' else decide (0 < T)) T.natAbs (-149 + (p : Nat)) := by
  obtain ⟨s, m, r, e1, ha, _⟩ := fint_form hx
  obtain ⟨t, n, q, e2, hb, _⟩ := fint_form hy
  obtain ⟨p, h1, h2, h3⟩ := two_units (s := s) (t := !t) (m := m) (n := n) (r := r) (q := q)
  refine ⟨signed s m (-149 + (r : Int) - min (-149 + (r : Int)) (-149 + (q : Int))).toNat + signed (!t) n (-149 + (q : Int) - min (-149 + (r : Int)) (-149 + (q : Int))).toNat, p, s && !t, t && !s, ?_, ?_, ?_⟩
  · rw [Int.add_mul, ← h1, ← h2, ha, hb, signed_neg]; omega
  · unfold fsub Format.sub
    rw [show FloatKind.f32.format = single from rfl, e1, e2]
    show (((Datum.number s m (-149 + (r : Nat))).sum (.number (!t) n (-149 + (q : Nat)))).map single.write).getD _ = _
    simp only [Datum.sum, Option.map_some, Option.getD_some]
    rw [h3]
    rfl
  · unfold fsub Format.sub
    rw [show FloatKind.f32.format = single from rfl, e1, e2]
    show (((Datum.number t n (-149 + (q : Nat))).sum (.number (!s) m (-149 + (r : Nat)))).map single.write).getD _ = _
    simp only [Datum.sum, Option.map_some, Option.getD_some]
    have hmin : min (-149 + (q : Int)) (-149 + (r : Int)) = min (-149 + (r : Int)) (-149 + (q : Int)) := by omega
    rw [hmin, h3]
    generalize (-149 + (r : Int) - (-149 + (p : Int))).toNat = u
    generalize (-149 + (q : Int) - (-149 + (p : Int))).toNat = w
    have hT : signed t n w + signed (!s) m u = -(signed s m u + signed (!t) n w) := by rw [signed_neg, signed_neg]; omega
    rw [hT]
    generalize signed s m u + signed (!t) n w = T
    show single.nearest (if -T = 0 then t && !s else decide (-T < 0)) (-T).natAbs (-149 + (p : Nat)) = _
    rw [Int.natAbs_neg]
    by_cases hz : T = 0
    · subst hz; rfl
    · rw [if_neg hz, if_neg (by omega)]
      congr 1
      simp
theorem xor31 {k : Nat} (hk : k < 2 ^ 31) : (2 ^ 31 + k) ^^^ 2 ^ 31 = k := by
  have e : 2 ^ 31 + k = 2 ^ 31 ||| k := by
    have := Nat.two_pow_add_eq_or_of_lt hk 1
    simpa using this
  rw [e]
  apply Nat.eq_of_testBit_eq
  intro j
  rw [Nat.testBit_xor, Nat.testBit_or, Nat.testBit_two_pow]
  by_cases h : 31 = j
  · subst h
    have := Nat.testBit_lt_two_pow hk
    simp [this]
  · simp [h]
theorem fneg_word {k : Nat} (hk : k < 2147483648) : fneg .f32 (single.word true k) = single.word false k := by
  have h := xor31 (k := k) hk
  show (2147483648 + k) ^^^ 2147483648 = k
  exact h
def fabsX (x : Nat) : Nat := cond (flt .f32 x 0) (fneg .f32 x) x
theorem fabs_words {k : Nat} (h1 : 1 ≤ k) (h2 : k < 2139095040) : fabsX (single.word false k) = single.word false k ∧ fabsX (single.word true k) = single.word false k := by
  have hv := valU_pos h1
  have e1 := fint_word false h2
  have e2 := fint_word true h2
  unfold fabsX
  rw [flt_fint e1 fint_zero, flt_fint e2 fint_zero]
  constructor
  · rw [decide_eq_false (by simp)]; rfl
  · rw [decide_eq_true (by simp; omega)]
    exact fneg_word (by omega)
/-- Sizes of differences turned round are the same words, where the numbers differ. -/
theorem fabs_sub {x y : Nat} {a b : Int} (hx : fint x = some a) (hy : fint y = some b) (a0 : 0 ≤ a) (b0 : 0 ≤ b) (hne : a ≠ b) : fabsX (fsub .f32 x y) = fabsX (fsub .f32 y x) := by
  obtain ⟨T, p, g, g', hT, e1, e2⟩ := sub_form hx hy
  have hp : (0 : Int) < 2 ^ p := pow_pos' p
  have hz : T ≠ 0 := by
    rintro rfl
    simp at hT
    omega
  rw [if_neg hz] at e1 e2
  have hmag : T.natAbs ≠ 0 := by omega
  obtain ⟨M, R, hM, h1, h2, h3⟩ : ∃ M R : Nat, T.natAbs * 2 ^ p ≤ M * 2 ^ (R + 0) ∧ M < 16777216 ∧ (R = 0 ∨ 8388608 ≤ M) ∧ R ≤ 253 := by
    have habs : ((T.natAbs * 2 ^ p : Nat) : Int) = ((a - b).natAbs : Int) := by
      rw [hT, Int.natAbs_mul, Int.natAbs_pow]
      rfl
    rcases Int.le_total a b with h | h
    · obtain ⟨_, m, r, _, hm, q1, q2, q3, _⟩ := form_nonneg hy b0
      refine ⟨m, r, ?_, q1, q2, q3⟩
      have e : ((m * 2 ^ (r + 0) : Nat) : Int) = b := by rw [hm]; push_cast; rfl
      omega
    · obtain ⟨_, m, r, _, hm, q1, q2, q3, _⟩ := form_nonneg hx a0
      refine ⟨m, r, ?_, q1, q2, q3⟩
      have e : ((m * 2 ^ (r + 0) : Nat) : Int) = a := by rw [hm]; push_cast; rfl
      omega
  have hr := rung_le (K := 0) hmag hM h1 h2
  have hpl : (-149 + (p : Int)) = -149 - ((0 : Nat) : Int) + (p : Nat) := by omega
  rw [← hpl] at hr
  have hlt : rung T.natAbs (-149 + (p : Nat)) < 2139095040 := by
    have : R * 8388608 ≤ 253 * 8388608 := Nat.mul_le_mul_right _ h3
    omega
  have hpos := rung_pos (p := p) hmag
  rw [nearest_rung _ _ hmag, Nat.min_eq_left (by omega)] at e1 e2
  obtain ⟨f1, f2⟩ := fabs_words hpos hlt
  rw [e1, e2]
  rcases Int.lt_or_gt_of_ne hz with h | h
  · rw [decide_eq_true h, decide_eq_false (by omega), f1, f2]
  · rw [decide_eq_false (by omega), decide_eq_true h, f1, f2]
end Go.Ax

/- Places of numbers, words of floats and their texts: plain. -/
namespace Go.Ax
open Go Go.Proofs Ieee

theorem fltOf_neg {n : Int} (h : n < 0) : fltOf n = 2147483648 + n.natAbs := by
  unfold fltOf
  rw [if_pos h]; omega
theorem fltOf_pos {n : Int} (h : 0 ≤ n) : fltOf n = n.natAbs := by
  unfold fltOf
  rw [if_neg (by omega)]; omega
theorem word_pos (k : Nat) : single.word false k = k := rfl
theorem word_neg (k : Nat) : single.word true k = 2147483648 + k := rfl
theorem flt_fltOf {n : Int} (h0 : -2139095039 ≤ n) (h1 : n ≤ 2139095039) : flt .f32 (fltOf n) 0 = decide (n < 0) := by
  by_cases h : n < 0
  · rw [fltOf_neg h, ← word_neg, flt_fint (fint_word true (by omega)) fint_zero]
    have := valU_pos (k := n.natAbs) (by omega)
    simp [h]; omega
  · rw [fltOf_pos (by omega), ← word_pos n.natAbs, flt_fint (fint_word false (by omega)) fint_zero]
    simp [h]
theorem fneg_fltOf {n : Int} (h0 : -2139095039 ≤ n) (h : n < 0) : fneg .f32 (fltOf n) = n.natAbs := by
  rw [fltOf_neg h, ← word_neg, fneg_word (by omega), word_pos]
theorem not_nan {k : Nat} (h : k < 2139095040) : (FloatKind.f32.decode k).isNaN = false := by
  have := fint_word false h
  rw [word_pos] at this
  unfold fint at this
  show (single.read k).isNaN = false
  split at this
  · rename_i e; rw [e]; rfl
  · cases this
theorem plW_fltOf {n : Int} (h0 : -2139095039 ≤ n) (h1 : n ≤ 2139095039) : plW (decide (n < 0)) (fltOf n) = n.natAbs := by
  by_cases h : n < 0
  · rw [decide_eq_true h]; exact fneg_fltOf h0 h
  · rw [decide_eq_false h]; exact fltOf_pos (by omega)
theorem plI_fltOf {n : Int} (h0 : -2139095039 ≤ n) (h1 : n ≤ 2139095039) : plI (fltOf n) = n := by
  unfold plI
  rw [flt_fltOf h0 h1]
  by_cases h : n < 0
  · rw [decide_eq_true h]
    unfold plV
    dsimp only
    rw [fneg_fltOf h0 h, wrap64_id (n := (n.natAbs : Int)) (by omega) (by omega), wrap64_id (by omega) (by omega)]
    omega
  · rw [decide_eq_false h]
    unfold plV
    dsimp only
    rw [fltOf_pos (by omega)]
    have e : (BitVec.ofInt IntKind.u32.bits (n.natAbs : Int) &&& ~~~BitVec.ofInt IntKind.u32.bits 2147483648).toNat = n.natAbs := by
      have hb : n.natAbs < 2 ^ 31 := by have : (2 : Nat) ^ 31 = 2147483648 := rfl; omega
      have e1 : (BitVec.ofInt IntKind.u32.bits (n.natAbs : Int)).toNat = n.natAbs := by
        rw [BitVec.ofInt_natCast, BitVec.toNat_ofNat]
        exact Nat.mod_eq_of_lt (Nat.lt_trans hb (by decide))
      have e2 : (~~~BitVec.ofInt IntKind.u32.bits 2147483648).toNat = 2147483647 := by decide
      rw [BitVec.toNat_and, e1, e2]
      have := Nat.and_two_pow_sub_one_eq_mod n.natAbs 31
      rw [Nat.mod_eq_of_lt hb] at this
      exact this
    rw [e, wrapU32_id (by omega) (by omega), wrap64_id (by omega) (by omega)]
    omega
/-- The text of a place. -/
def txt (n : Int) : List UInt8 := fbV (decide (n < 0)) n.natAbs
theorem fmS_eq {n : Int} (h0 : -2139095039 ≤ n) (h1 : n ≤ 2139095039) : fmS n = txt n ∧ allT (fmQ n) = true := by
  have e0 : ltQ false n 0 = decide (n < 0) := ltQ_eq _ _ _
  have key : uN (decide (n < 0)) (IntKind.u64.wrap n) = (n.natAbs : Int) := by
    by_cases h : n < 0
    · rw [decide_eq_true h]
      unfold uN
      dsimp only
      simp [IntKind.wrap, IntKind.bits, IntKind.signed]
      omega
    · rw [decide_eq_false h]
      unfold uN
      dsimp only
      rw [wrapU64_id (by omega) (by omega)]
      omega
  unfold fmS fmQ txt
  rw [e0, key]
  refine ⟨rfl, ?_⟩
  simp [allT]; omega
end Go.Ax

/- impl.readPlace: a row. -/
namespace Go.Ax
open Go Go.Proofs

def rpG (x : List UInt8) : Bool := bif piOk x then inM (piVal x) else false
noncomputable def rpX (x : List UInt8) : Nat := bif rpG x then fltOf (piVal x) else 0
def rpB (x : List UInt8) : Bool := bif rpG x then txt (piVal x) == x else false
theorem fn40 : Tryd.prog.funcs[40]? = some Tryd.f40 := Tryd.func40
theorem body40 : Tryd.f40.body = some rpC := rfl
theorem inM_eq (n : Int) : inM n = (decide (-2139095039 ≤ n) && decide (n ≤ 2139095039)) := by
  unfold inM
  rw [leQ_eq, leQ_eq]
  cases decide (-2139095039 ≤ n) <;> rfl
theorem mx_word {n : Int} (h0 : -2139095039 ≤ n) (h1 : n ≤ 2139095039) : wdV n (mxU n).toNat = fltOf n := by
  unfold wdV mxU
  rw [wrap64_id (n := 0 - n) (by omega) (by omega), ltQ_eq]
  by_cases h : n < 0
  · rw [if_pos (by omega), wrapU32_id (by omega) (by omega), decide_eq_true h, cond_true, fltOf_neg h]
    have := neg_word (0 - n).toNat (by omega)
    rw [this]; omega
  · rw [if_neg (by omega), wrapU32_id (by omega) (by omega), decide_eq_false h, cond_false, fltOf_pos (by omega)]
    omega
theorem rp_ok0 (x : List UInt8) (hx : x.length ≤ 1048576) : CallOK Tryd.prog 40 [.s false x] [] (.tup [.f false .f32 (rpX x), .b false (rpB x)]) [] := by
  have r0 : Reach Tryd.prog [.code rpC] ([.s false x] ++ undefs (Tryd.f40.ntmps - 1)) [] [.code rpC] (.s false x :: undefs 33) [] := .refl _ _ _
  have hl : lnC x = true := by simp [lnC, hx]
  unfold rpX rpB rpG
  cases hp : piOk x with
  | false =>
    have h := rp0_b2 x
    simp only [Prod.mk.injEq] at h
    have := jend_call tabRp_sound fn40 body40 r0 (by show allT (condsP (rp0 x) [false]) = true; rw [h.1, hp]; rfl) h.2 (by rw [hl]; rfl)
    exact this.reT rfl
  | true =>
    cases hm : inM (piVal x) with
    | false =>
      have h := rp0_b1 x
      simp only [Prod.mk.injEq] at h
      have := jend_call tabRp_sound fn40 body40 r0 (by show allT (condsP (rp0 x) [true, true]) = true; rw [h.1, hp, hm]; rfl) h.2 (by rw [hl]; rfl)
      exact this.reT rfl
    | true =>
      have h := rp0_go x
      simp only [Prod.mk.injEq] at h
      have r1 := r0.trans (way_reach (stop := atReg 4) (n := 100) (R := [.code rpC]) (p := [true, false]) (M := rpM) tabRp_sound rfl (by show allT (condsP (rp0 x) [true, false]) = true; rw [h.1, hp, hm]; rfl) h.2 (by rw [hl]; rfl))
      have hb := hm
      rw [inM_eq] at hb
      simp only [Bool.and_eq_true, decide_eq_true_eq] at hb
      obtain ⟨b0, b1⟩ := hb
      generalize piVal x = n at r1 b0 b1
      rw [rpL_eq] at r1
      have hq := rpP_ok x n
      simp only [Prod.mk.injEq] at hq
      obtain ⟨⟨p1, p2⟩, p3, p4, p5⟩ := hq
      have hO := rpO_ok
      cases ho : rpO with
      | none => rw [ho] at hO; cases hO
      | some o =>
        rw [ho] at hO p5
        simp only [Option.map_some, Option.some.injEq, Prod.mk.injEq] at hO
        unfold callOf at p5
        split at p5 <;> try (cases p5; done)
        rename_i o' heq
        cases heq
        split at p5 <;> try (cases p5; done)
        rename_i c hop
        have hopx := from_op (ops := opsOf rpL) (k := 5) (o := o) (c := c) (t := (rpP x n).tOf) (H := (rpP x n).HOf) ho hO.1 hop hO.2 p5
        rw [p4] at hopx
        have hk : 5 < (opsOf rpL).size := (Array.getElem?_eq_some_iff.1 ho).1
        have r2 := r1.trans (region1 (P := Tryd.prog) (T := tabRp) (ops := opsOf rpL) (id := 4) (k := 5) (todo := tlOf rpL) (M := rpM2) tabRp_sound hk (by show ((rpP x n).isStop, (rpP x n).todo) = _; rw [p1, p2]) (by show allT (rpP x n).nds = true; rw [p3]; rfl) (by show Op1 _ _ _ (rpP x n).tOf (rpP x n).HOf _ _; rw [p4]; exact hopx) (rp_post x n (mxU n).toNat) rfl)
        have h3 := rp3_ok x n (mxU n).toNat
        simp only [Prod.mk.injEq] at h3
        rw [mx_word b0 b1, plI_fltOf b0 b1, flt_fltOf b0 b1, plW_fltOf b0 b1] at h3
        obtain ⟨f1, f2⟩ := fmS_eq b0 b1
        rw [f1] at h3
        exact jend_call tabRp_sound fn40 body40 r2 (by show allT (condsP (rp3 x n (mxU n).toNat) []) = true; rw [h3.1]; rfl) h3.2 (by
          rw [allT_append, f2, not_nan (by omega)]; rfl)
noncomputable def gRp : List AV → Option (AV × List Bool)
  | [.s _ x] => some (.tup [.f false .f32 (rpX x), .b false (rpB x)], [decide (x.length ≤ 1048576)])
  | _ => none
theorem rp_at : SoundAt Tryd.prog 40 (pureT gRp) := fun args H nd K => by
  refine pureT_sound (fun args v n h hn H => ?_) args H nd K
  unfold gRp at h
  split at h <;> (try (cases h; done))
  rename_i l x
  cases h
  simp only [allT, Bool.and_true, decide_eq_true_eq] at hn
  exact ((rp_ok0 x hn).lift rfl rfl H rfl).bare (args' := [.s l x]) rfl
end Go.Ax

/- Texts of places: impl's reading and the reference's are the same. -/
namespace Go.Ax
open Go Go.Proofs

/-! ### Tables of signs -/
theorem tab_dg : ((List.range 16).all fun v => hexV (dgC v) == some v) = true := by kernel_rfl
theorem tab_hx : ((List.range 256).all fun c => match hexV (UInt8.ofNat c) with
  | some v => dgC v == UInt8.ofNat c && (hexAny (UInt8.ofNat c) == some v && (c == 48 || decide (1 ≤ v)))
  | none => true) = true := by kernel_rfl
theorem hexV_dg {v : Nat} (h : v < 16) : hexV (dgC v) = some v := by
  have := List.all_eq_true.1 tab_dg v (List.mem_range.2 h)
  simpa using this
theorem hexV_spec {c : UInt8} {v : Nat} (h : hexV c = some v) : dgC v = c ∧ hexAny c = some v ∧ (c ≠ 48 → 1 ≤ v) := by
  have := List.all_eq_true.1 tab_hx c.toNat (List.mem_range.2 c.toNat_lt)
  have e : UInt8.ofNat c.toNat = c := by simp
  rw [e, h] at this
  simp only [Bool.and_eq_true, beq_iff_eq, Bool.or_eq_true, decide_eq_true_eq] at this
  refine ⟨this.1, this.2.1, fun hc => ?_⟩
  rcases this.2.2 with h1 | h1
  · exfalso; apply hc; rw [← e, h1]; rfl
  · exact h1

/-! ### Reading digits -/
theorem hexF_append : ∀ (p q : List UInt8) (a : Nat), hexF (p ++ q) a = match hexF p a with
    | some m => hexF q m
    | none => none
  | [], q, a => by simp [hexF]
  | c :: p, q, a => by
    simp only [List.cons_append, hexF]
    cases hexV c with
    | none => rfl
    | some v => exact hexF_append p q _
theorem hexF_le : ∀ (p : List UInt8) {a m : Nat}, hexF p a = some m → a ≤ m
  | [], a, m, h => by simp [hexF] at h; omega
  | c :: p, a, m, h => by
    simp only [hexF] at h
    cases hv : hexV c with
    | none => rw [hv] at h; cases h
    | some v =>
      rw [hv] at h
      have := hexF_le p h
      omega
theorem hexF_pos {c : UInt8} {p : List UInt8} {m : Nat} (h : hexF (c :: p) 0 = some m) (hc : c ≠ 48) : 1 ≤ m := by
  simp only [hexF] at h
  cases hv : hexV c with
  | none => rw [hv] at h; cases h
  | some v =>
    rw [hv] at h
    have := hexF_le p h
    have := (hexV_spec hv).2.2 hc
    omega
theorem hexF_hexT : ∀ (f n : Nat), 0 < f → n < 16 ^ f → hexF (hexT f n) 0 = some n
  | 0, _, h, _ => by omega
  | f + 1, n, _, hn => by
    unfold hexT
    by_cases h : n < 16
    · simp [h, hexF, hexV_dg h]
    · simp only [h, decide_false, cond_false]
      have hf : 0 < f := by
        rcases Nat.eq_zero_or_pos f with rfl | h'
        · simp at hn; omega
        · exact h'
      have hd : n / 16 < 16 ^ f := by
        rw [Nat.pow_succ] at hn
        omega
      rw [hexF_append, hexF_hexT f (n / 16) hf hd]
      simp only [hexF, hexV_dg (Nat.mod_lt n (by decide : 16 > 0))]
      congr 1
      omega
theorem hexT_of : ∀ (f : Nat) (y : List UInt8) (n : Nat), y.length ≤ f → y ≠ [] → (y.getD 0 0 = 48 → y = [48]) → hexF y 0 = some n → hexT f n = y
  | 0, y, n, hl, hne, _, _ => by
    exfalso; apply hne; exact List.length_eq_zero_iff.1 (by omega)
  | f + 1, y, n, hl, hne, h0, h => by
    rcases List.eq_nil_or_concat y with rfl | ⟨p, c, rfl⟩
    · exact absurd rfl hne
    rw [List.concat_eq_append] at *
    rw [hexF_append] at h
    cases hp : hexF p 0 with
    | none => rw [hp] at h; cases h
    | some m =>
      rw [hp] at h
      simp only [hexF] at h
      cases hv : hexV c with
      | none => rw [hv] at h; cases h
      | some v =>
        rw [hv] at h
        simp only [Option.some.injEq] at h
        have hv16 := hexV_lt hv
        have hdc := (hexV_spec hv).1
        cases p with
        | nil =>
          simp [hexF] at hp
          subst hp
          have : n = v := by omega
          subst this
          simp [hexT, hv16, hdc]
        | cons b q =>
          have hb : b ≠ 48 := fun e => by
            subst e
            have := h0 (by simp)
            simp at this
          have hm := hexF_pos hp hb
          have hn : ¬ n < 16 := by omega
          have ih := hexT_of f (b :: q) m (by simp at hl ⊢; omega) (by simp) (fun e => absurd (by simpa using e) hb) hp
          simp only [hexT, hn, decide_false, cond_false]
          have e1 : n / 16 = m := by omega
          have e2 : n % 16 = v := by omega
          rw [e1, e2, ih, hdc]
theorem hexT_len : ∀ (f n : Nat), (hexT f n).length ≤ f
  | 0, _ => by simp [hexT]
  | f + 1, n => by
    have := hexT_len f (n / 16)
    unfold hexT
    by_cases h : n < 16
    · simp [h]
    · simp [h]; omega
theorem hexT_head : ∀ (f n : Nat), 0 < f → n < 16 ^ f → ∃ v t, hexT f n = dgC v :: t ∧ v < 16 ∧ (1 ≤ n → 1 ≤ v) ∧ (n = 0 → t = [])
  | 0, _, h, _ => by omega
  | f + 1, n, _, hn => by
    unfold hexT
    by_cases h : n < 16
    · exact ⟨n, [], by simp [h], h, fun h => h, fun _ => rfl⟩
    · have hf : 0 < f := by
        rcases Nat.eq_zero_or_pos f with rfl | h'
        · simp at hn; omega
        · exact h'
      have hd : n / 16 < 16 ^ f := by
        rw [Nat.pow_succ] at hn
        omega
      obtain ⟨v, t, e, h1, h2, h3⟩ := hexT_head f (n / 16) hf hd
      refine ⟨v, t ++ [dgC (n % 16)], by simp [h, e], h1, fun _ => h2 (by omega), fun h0 => by omega⟩
theorem dgC_ne {v : Nat} (h : v < 16) : dgC v ≠ 45 ∧ dgC v ≠ 43 ∧ (1 ≤ v → dgC v ≠ 48) := by
  have : ((List.range 16).all fun v => dgC v != 45 && (dgC v != 43 && (v == 0 || dgC v != 48))) = true := by kernel_rfl
  have := List.all_eq_true.1 this v (List.mem_range.2 h)
  simp only [Bool.and_eq_true, Bool.or_eq_true, bne_iff_ne, ne_eq, beq_iff_eq] at this
  refine ⟨this.1, this.2.1, fun h1 => ?_⟩
  rcases this.2.2 with h2 | h2
  · omega
  · exact h2
theorem dgC_zero : dgC 0 = 48 := by kernel_rfl

/-! ### The reference -/
theorem max8 {m : Nat} (h : m ≤ 2139095039) : m < 16 ^ 8 := Nat.lt_of_le_of_lt h (by decide)
theorem seen_txt {k : Int} (h0 : -2139095039 ≤ k) (h1 : k ≤ 2139095039) : seenR (txt k) = some k := by
  have hm : k.natAbs ≤ 2139095039 := by omega
  obtain ⟨v, t, e, hv, hv1, hv0⟩ := hexT_head 8 k.natAbs (by decide) (max8 hm)
  have hF := hexF_hexT 8 k.natAbs (by decide) (max8 hm)
  have hL := hexT_len 8 k.natAbs
  obtain ⟨n1, n2, n3⟩ := dgC_ne hv
  rw [e] at hF hL
  have hL : t.length + 1 ≤ 8 := by simpa using hL
  have hdg : (dgC v).toNat = 48 → dgC v = 48 := fun h => by
    have : (dgC v).toNat = (48 : UInt8).toNat := h
    exact UInt8.toNat_inj.1 this
  unfold txt
  by_cases hk : k < 0
  · rw [decide_eq_true hk]
    unfold fbV hexN
    dsimp only
    rw [e]
    have hne := n3 (hv1 (by omega))
    have hng : isNeg (45 :: dgC v :: t) = true := by simp [isNeg]
    unfold seenR
    rw [hng, cond_true]
    unfold seenD
    have hb : badD (45 :: dgC v :: t) ((45 :: dgC v :: t).drop 1) = false := by
      have h8 : ¬ 8 < t.length + 1 := by omega
      have h48 : ¬ (dgC v).toNat = 48 := fun h => hne (hdg h)
      simp [badD, h8, h48]
    rw [hb, cond_false]
    have e3 : (45 :: dgC v :: t).drop 1 = dgC v :: t := rfl
    rw [e3, hF]
    have : ¬ 2139095039 < k.natAbs := by omega
    simp [finO, this]; omega
  · rw [decide_eq_false hk]
    unfold fbV hexN
    dsimp only
    rw [e]
    have hng : isNeg (dgC v :: t) = false := by
      have : ¬ (dgC v).toNat = 45 := fun h => n1 (UInt8.toNat_inj.1 (show (dgC v).toNat = (45 : UInt8).toNat from h))
      simp [isNeg, this]
    unfold seenR
    rw [hng, cond_false]
    unfold seenD
    have hb : badD (dgC v :: t) (dgC v :: t) = false := by
      have h8 : ¬ 8 < t.length + 1 := by omega
      by_cases h48 : (dgC v).toNat = 48
      · have hz : k.natAbs = 0 := by
          rcases Nat.eq_zero_or_pos k.natAbs with h | h
          · exact h
          · exact absurd (hdg h48) (n3 (hv1 h))
        have ht := hv0 hz
        subst ht
        simp [badD, hdg h48]
      · simp [badD, h8, h48]
    rw [hb, cond_false, hF]
    have : ¬ 2139095039 < k.natAbs := by omega
    simp [finO, this]; omega
theorem finO_some {s : Int} {o : Option Nat} {k : Int} (h : finO s o = some k) : ∃ n, o = some n ∧ n ≤ 2139095039 ∧ k = s * n := by
  cases o with
  | none => cases h
  | some n =>
    simp only [finO] at h
    by_cases hb : 2139095039 < n
    · simp [hb] at h
    · simp only [hb, decide_false, cond_false, Option.some.injEq] at h
      exact ⟨n, rfl, by omega, h.symm⟩
theorem badD_false {x y : List UInt8} (h : badD x y = false) : y ≠ [] ∧ y.length ≤ 8 ∧ ((y.getD 0 0) = 48 → x = [48]) := by
  unfold badD at h
  by_cases h0 : y.length = 0
  · simp [h0] at h
  · by_cases h8 : 8 < y.length
    · simp [h0, h8] at h
    · refine ⟨fun e => h0 (by rw [e]; rfl), by omega, fun e => ?_⟩
      have e2 : (y.getD 0 0).toNat = 48 := by rw [e]; rfl
      simp only [h0, decide_false, cond_false, h8, e2, decide_true, cond_true, Bool.not_eq_false'] at h
      simpa using h
theorem txt_seen {x : List UInt8} {k : Int} (h : seenR x = some k) : x = txt k ∧ -2139095039 ≤ k ∧ k ≤ 2139095039 := by
  unfold seenR at h
  cases hg : isNeg x with
  | true =>
    rw [hg, cond_true] at h
    unfold seenD at h
    cases hb : badD x (x.drop 1) with
    | true => rw [hb] at h; cases h
    | false =>
      rw [hb, cond_false] at h
      obtain ⟨n, h1, h2, rfl⟩ := finO_some h
      obtain ⟨b1, b2, b3⟩ := badD_false hb
      match x, hg, b1, b2, b3, h1 with
      | c :: y, hg, b1, b2, b3, h1 =>
        have hc : c = 45 := by
          have : c.toNat = 45 := by simpa [isNeg] using hg
          exact UInt8.toNat_inj.1 (show c.toNat = (45 : UInt8).toNat from this)
        subst hc
        have e3 : (45 :: y).drop 1 = y := rfl
        rw [e3] at b1 b2 b3 h1
        have hy : y.getD 0 0 ≠ 48 := fun e => by
          have := b3 e
          simp at this
        have hn1 : 1 ≤ n := by
          cases y with
          | nil => exact absurd rfl b1
          | cons d z => exact hexF_pos h1 (by simpa using hy)
        have ht := hexT_of 8 y n b2 b1 (fun e => absurd e hy) h1
        refine ⟨?_, by omega, by omega⟩
        unfold txt
        have hneg : (-1 : Int) * n < 0 := by omega
        rw [decide_eq_true hneg]
        unfold fbV hexN
        dsimp only
        have : ((-1 : Int) * n).natAbs = n := by omega
        rw [this, ht]
  | false =>
    rw [hg, cond_false] at h
    unfold seenD at h
    cases hb : badD x x with
    | true => rw [hb] at h; cases h
    | false =>
      rw [hb, cond_false] at h
      obtain ⟨n, h1, h2, rfl⟩ := finO_some h
      obtain ⟨b1, b2, b3⟩ := badD_false hb
      have ht := hexT_of 8 x n b2 b1 b3 h1
      refine ⟨?_, by omega, by omega⟩
      unfold txt
      have hneg : ¬ (1 : Int) * n < 0 := by omega
      rw [decide_eq_false hneg]
      unfold fbV hexN
      dsimp only
      have : ((1 : Int) * n).natAbs = n := by omega
      rw [this, ht]

/-! ### ParseInt -/
theorem puF_hex : ∀ (y : List UInt8) {a n : Nat}, hexF y a = some n → n < 1152921504606846976 → puF y a = .ok n
  | [], a, n, h, _ => by simp [hexF] at h; simp [puF, h]
  | c :: y, a, n, h, hn => by
    have hle := hexF_le (c :: y) h
    simp only [hexF] at h
    cases hv : hexV c with
    | none => rw [hv] at h; cases h
    | some v =>
      rw [hv] at h
      have ha : ¬ 1152921504606846976 ≤ a := by omega
      simp only [puF, (hexV_spec hv).2.1, ha, decide_false, cond_false]
      exact puF_hex y h hn
theorem pi_txt {k : Int} (h0 : -2139095039 ≤ k) (h1 : k ≤ 2139095039) : piOk (txt k) = true ∧ piVal (txt k) = k := by
  have hm : k.natAbs ≤ 2139095039 := by omega
  obtain ⟨v, t, e, hv, _, _⟩ := hexT_head 8 k.natAbs (by decide) (max8 hm)
  have hF := hexF_hexT 8 k.natAbs (by decide) (max8 hm)
  obtain ⟨n1, n2, _⟩ := dgC_ne hv
  rw [e] at hF
  have hP : puV (dgC v :: t) = .ok k.natAbs := puF_hex _ hF (by omega)
  have key : strQ (txt k) = false ∧ ngB (txt k) = decide (k < 0) ∧ drV (txt k) = dgC v :: t := by
    unfold txt
    by_cases hk : k < 0
    · rw [decide_eq_true hk]
      unfold fbV hexN
      dsimp only
      rw [e]
      refine ⟨rfl, rfl, ?_⟩
      unfold drV
      have a1 : eqQ false (x0 (45 :: dgC v :: t)) 43 = false := rfl
      have a2 : eqQ false (x0 (45 :: dgC v :: t)) 45 = true := rfl
      rw [a1, a2]
      simp
    · rw [decide_eq_false hk]
      unfold fbV hexN
      dsimp only
      rw [e]
      have c1 : ¬ (dgC v).toNat = 43 := fun h => n2 (UInt8.toNat_inj.1 (show (dgC v).toNat = (43 : UInt8).toNat from h))
      have c2 : ¬ (dgC v).toNat = 45 := fun h => n1 (UInt8.toNat_inj.1 (show (dgC v).toNat = (45 : UInt8).toNat from h))
      have a0 : x0 (dgC v :: t) = ((dgC v).toNat : Int) := rfl
      have a1 : eqQ false (x0 (dgC v :: t)) 43 = false := by rw [a0, eqQ_eq]; simp; omega
      have a2 : eqQ false (x0 (dgC v :: t)) 45 = false := by rw [a0, eqQ_eq]; simp; omega
      refine ⟨rfl, ?_, ?_⟩
      · unfold ngB; rw [a1, a2]; rfl
      · unfold drV; rw [a1, a2]; rfl
  obtain ⟨k1, k2, k3⟩ := key
  have hu : unV (txt k) = (k.natAbs : Int) := by unfold unV; rw [k3, hP]; rfl
  have b1 : big1 (decide (k < 0)) (k.natAbs : Int) = false := by
    unfold big1
    rw [leQ_eq]
    have : decide ((9223372036854775808 : Int) ≤ (k.natAbs : Int)) = false := by simp; omega
    rw [this]; cases decide (k < 0) <;> rfl
  have b2 : big2 (decide (k < 0)) (k.natAbs : Int) = false := by
    unfold big2
    rw [ltQ_eq]
    have : decide ((9223372036854775808 : Int) < (k.natAbs : Int)) = false := by simp; omega
    rw [this]; cases decide (k < 0) <;> rfl
  constructor
  · unfold piOk
    rw [k1, k2, k3, hP, hu, b1, b2]; rfl
  · unfold piVal
    rw [k2, hu]
    have w1 : IntKind.i64.wrap (k.natAbs : Int) = k.natAbs := wrap64_id (by omega) (by omega)
    by_cases hk : k < 0
    · rw [decide_eq_true hk, cond_true, w1, wrap64_id (by omega) (by omega)]; omega
    · rw [decide_eq_false hk, cond_false, w1]; omega

/-! ### Both -/
theorem rp_seen (x : List UInt8) : rpB x = seB x ∧ (seB x = true → rpX x = seX x) := by
  cases hs : seenR x with
  | some k =>
    obtain ⟨rfl, h0, h1⟩ := txt_seen hs
    obtain ⟨p1, p2⟩ := pi_txt h0 h1
    have hG : rpG (txt k) = true := by
      unfold rpG
      rw [p1, p2, cond_true, inM_eq]
      simp [h0, h1]
    have hB : rpB (txt k) = true := by
      unfold rpB
      rw [hG, p2, cond_true]; simp
    refine ⟨by rw [hB]; unfold seB; rw [hs]; rfl, fun _ => ?_⟩
    unfold rpX seX
    rw [hG, p2, cond_true, hs]
  | none =>
    have hB : seB x = false := by unfold seB; rw [hs]; rfl
    rw [hB]
    refine ⟨?_, fun h => by cases h⟩
    unfold rpB
    cases hG : rpG x with
    | false => rfl
    | true =>
      rw [cond_true]
      unfold rpG at hG
      cases hp : piOk x with
      | false => rw [hp] at hG; cases hG
      | true =>
        rw [hp, cond_true, inM_eq] at hG
        simp only [Bool.and_eq_true, decide_eq_true_eq] at hG
        cases ht : (txt (piVal x) == x) with
        | false => rfl
        | true =>
          have := seen_txt hG.1 hG.2
          rw [beq_iff_eq.1 ht, hs] at this
          cases this
end Go.Ax

/- strings.Cut and strings.Split: rows out of the kit's contracts; impl.readComplex. -/
namespace Go.Ax
open Go Go.Proofs Go.RowKit

/-- Where the byte is: the text ahead of it, and behind it. -/
theorem idx_spl (b : UInt8) : ∀ s : List UInt8, (Lib.index s [b] = -1 ∧ spl b s = [s]) ∨ ∃ i : Nat, Lib.index s [b] = i ∧ i < s.length ∧ spl b s = s.take i :: spl b (s.drop (i + 1))
  | [] => .inl ⟨by simp [Lib.index], rfl⟩
  | c :: l => by
    have hp : [b].isPrefixOf (c :: l) = (c == b) := by
      simp [List.isPrefixOf]
      rw [Bool.eq_iff_iff]; simp; exact eq_comm
    cases hc : c == b with
    | true =>
      have hcb : c = b := by simpa using hc
      subst hcb
      refine .inr ⟨0, ?_, by simp, ?_⟩
      · unfold Lib.index; rw [hp, hc]; rfl
      · rw [spl_hit]; rfl
    | false =>
      rcases idx_spl b l with ⟨h1, h2⟩ | ⟨i, h1, h2, h3⟩
      · refine .inl ⟨?_, ?_⟩
        · unfold Lib.index; rw [hp, hc, h1]; rfl
        · rw [spl_miss hc, h2]; rfl
      · refine .inr ⟨i + 1, ?_, by simp; omega, ?_⟩
        · unfold Lib.index; rw [hp, hc, h1]
          have : ¬ ((i : Int) == -1) = true := by simp
          simp [this]
        · rw [spl_miss hc, h3]; rfl
theorem splitK_spl (b : UInt8) : ∀ (k : Nat) (s : List UInt8), (spl b s).length ≤ k + 1 → Lib.splitK [b] 0 k s = spl b s
  | 0, s, h => by
    rcases idx_spl b s with ⟨h1, h2⟩ | ⟨i, h1, h2, h3⟩
    · rw [h2]; rfl
    · rw [h3] at h
      have := spl_ne b (s.drop (i + 1))
      have : 0 < (spl b (s.drop (i + 1))).length := List.length_pos_iff.2 this
      simp only [List.length_cons] at h; omega
  | k + 1, s, h => by
    unfold Lib.splitK
    rcases idx_spl b s with ⟨h1, h2⟩ | ⟨i, h1, h2, h3⟩
    · rw [h1, if_pos (by decide), h2]
    · rw [h1, if_neg (by simp), h3]
      rw [h3] at h
      have e : (i : Int).toNat = i := by omega
      simp only [e, Nat.add_zero, List.length_cons, List.length_nil, Nat.zero_add]
      rw [splitK_spl b k (s.drop (i + 1)) (by simp at h; omega)]
theorem count_spl (b : UInt8) : ∀ (f : Nat) (s : List UInt8), s.length < f → (spl b s).length = Lib.countFrom [b] f s + 1
  | 0, _, h => by omega
  | f + 1, s, h => by
    unfold Lib.countFrom
    rcases idx_spl b s with ⟨h1, h2⟩ | ⟨i, h1, h2, h3⟩
    · rw [h1, if_pos (by decide), h2]; rfl
    · rw [h1, if_neg (by simp), h3]
      have e : (i : Int).toNat = i := by omega
      have := count_spl b f (s.drop (i + 1)) (by simp; omega)
      simp only [e, List.length_cons, List.length_nil, Nat.zero_add]
      rw [this]; omega
theorem split_spl (b : UInt8) (s : List UInt8) : (Lib.splitB ⟨#[b]⟩ 0 (Lib.countB ⟨s.toArray⟩ ⟨#[b]⟩) ⟨s.toArray⟩).map (·.data.toList) = spl b s ∧ Lib.countB ⟨s.toArray⟩ ⟨#[b]⟩ + 1 = (spl b s).length := by
  have hc : Lib.countB ⟨s.toArray⟩ ⟨#[b]⟩ + 1 = (spl b s).length := by
    rw [count_spl b (s.length + 1) s (by omega)]
    rfl
  refine ⟨?_, hc⟩
  rw [Lib.splitB_data]
  exact splitK_spl b _ s (by rw [← hc]; exact Nat.le_refl _)
/-- The row of strings.Split at a text of one sign. -/
noncomputable def sptT : Table := fun _ args H nd K => match args with
  | [.s _ x, .s _ y] => K (.sl false H.length 0 (spl (y.getD 0 0) x).length 1) (H ++ sb (spl (y.getD 0 0) x)) ((decide (x.length ≤ 1048576) && decide (y.length = 1)) :: nd)
  | _ => .fail
theorem bytes_eq (s : ByteArray) : s = ⟨s.data.toList.toArray⟩ := by
  apply ByteArray.ext
  simp
theorem spt_at : SoundAt Tryd.prog 16 sptT := fun args H nd K => by
  unfold sptT
  split
  case h_2 => exact .inl rfl
  rename_i l x l' y
  refine .inr ⟨_, _, _, rfl, fun hn => ?_⟩
  simp only [allT, Bool.and_eq_true, decide_eq_true_eq] at hn
  obtain ⟨⟨h1, h2⟩, hnd⟩ := hn
  refine ⟨hnd, ?_⟩
  match y, h2 with
  | [b], _ =>
  have eb : ([b] : List UInt8).getD 0 0 = b := rfl
  rw [eb]
  intro σ w rargs s hra
  rw [two_strs hra]
  obtain ⟨ev, hc, m, rfl⟩ := (s.base (2, 0, isI64) (by simp [baseC])).1
  obtain ⟨hs1, hs2⟩ := split_spl b x
  refine (Any.strings_Split laysSplit (by kernel_rfl) ⟨x.toArray⟩ ⟨#[b]⟩ m w (Nat.lt_of_le_of_lt (size_le h1) (by decide)) hc (Nat.le_refl 1)).mono ?_
  rintro e w' ⟨rfl, rfl⟩
  have hcells : ((Lib.splitB ⟨#[b]⟩ 0 (Lib.countB ⟨x.toArray⟩ ⟨#[b]⟩) ⟨x.toArray⟩).map Value.string).toArray.size = (spl b x).length := by
    rw [← hs1]; simp
  have hrel : RelA σ (Cells.strs (spl b x)).toL ((Lib.splitB ⟨#[b]⟩ 0 (Lib.countB ⟨x.toArray⟩ ⟨#[b]⟩) ⟨x.toArray⟩).map Value.string).toArray := fun j a ha => by
    simp only [Cells.toL, List.getElem?_map, Option.map_eq_some_iff] at ha
    obtain ⟨p, hp, rfl⟩ := ha
    rw [← hs1, List.getElem?_map, Option.map_eq_some_iff] at hp
    obtain ⟨q, hq, rfl⟩ := hp
    refine ⟨.string q, by simp [hq], ?_⟩
    have := Rel.s (σ := σ) (l := false) q.data.toList
    rwa [← bytes_eq] at this
  have hal := s.alloc (A := .strs (spl b x)) (c := ((Lib.splitB ⟨#[b]⟩ 0 (Lib.countB ⟨x.toArray⟩ ⟨#[b]⟩) ⟨x.toArray⟩).map Value.string).toArray) (t := laysSplit_ren.t 9) hrel
  refine ⟨_, rfl, _, ?_, hal, Fr.alloc σ H w (.cells true (.strs (spl b x))) _ _ s.len⟩
  rw [hs2]
  refine .sl (b := w.heap.size) (c := (spl b x).length) ?_ (Nat.le_refl _) (by omega)
  rw [← s.len, hcells]; simp
/-- What strings.Cut gives. -/
def cu1 (x y : List UInt8) : List UInt8 := (Lib.cut x y).1
def cu2 (x y : List UInt8) : List UInt8 := (Lib.cut x y).2.1
def cu3 (x y : List UInt8) : Bool := (Lib.cut x y).2.2
def gCut : List AV → Option (AV × List Bool)
  | [.s _ x, .s _ y] => some (.tup [.s false (cu1 x y), .s false (cu2 x y), .b false (cu3 x y)], [decide (x.length ≤ 1048576)])
  | _ => none
theorem cut_at : SoundAt Tryd.prog 39 (pureT gCut) := fun args H nd K => by
  refine pureT_sound (fun args v n h hn H => ?_) args H nd K
  unfold gCut at h
  split at h <;> (try (cases h; done))
  rename_i l x l' y
  cases h
  simp only [allT, Bool.and_true, decide_eq_true_eq] at hn
  intro σ w rargs s hra
  rw [two_strs hra]
  obtain ⟨ev, hc, m, rfl⟩ := (s.base (2, 0, isI64) (by simp [baseC])).1
  refine (Any.strings_Cut laysCut ⟨x.toArray⟩ ⟨y.toArray⟩ m w (Nat.lt_of_le_of_lt (size_le hn) (by decide)) hc).mono ?_
  rintro e w' ⟨rfl, n, rfl⟩
  have hsm : Same w (w.drewN n) := ⟨rfl, rfl, rfl, rfl⟩
  exact ⟨_, rfl, σ, .tup (.cons (.s _) (.cons (.s _) (.cons (.b _) .nil))), hsm.sim s, hsm.fr⟩
theorem cut_comma (x : List UInt8) : (cu1 x [44] = x ∧ cu2 x [44] = [] ∧ spl 44 x = [x]) ∨ (spl 44 x = cu1 x [44] :: spl 44 (cu2 x [44])) := by
  unfold cu1 cu2 Lib.cut
  rcases idx_spl 44 x with ⟨h1, h2⟩ | ⟨i, h1, h2, h3⟩
  · rw [h1]; exact .inl ⟨rfl, rfl, h2⟩
  · rw [h1, if_pos (by omega)]
    exact .inr h3
theorem cu_len (x : List UInt8) : (cu1 x [44]).length ≤ x.length ∧ (cu2 x [44]).length ≤ x.length := by
  unfold cu1 cu2 Lib.cut
  split
  · simp only [List.length_take, List.length_drop]; omega
  · simp
end Go.Ax

/- spec.l01Complex and spec.l01Number of one sign: rows. -/
namespace Go.Ax
open Go Go.Proofs

/-- The row of l01Split. -/
noncomputable def splT : Table := fun _ args H nd K => match args with
  | [.s _ x, .i _ .u8 b] => K (.sl false H.length 0 (spl (UInt8.ofNat b.toNat) x).length 1) (H ++ sb (spl (UInt8.ofNat b.toNat) x)) ((decide (x.length ≤ 1048576) && (decide (0 ≤ b) && decide (b < 256))) :: nd)
  | _ => .fail
theorem spl_at : SoundAt Tryd.prog 29 splT := fun args H nd K => by
  unfold splT
  split
  case h_2 => exact .inl rfl
  rename_i l x l' b
  refine .inr ⟨_, _, _, rfl, fun hn => ?_⟩
  simp only [allT, Bool.and_eq_true, decide_eq_true_eq] at hn
  obtain ⟨⟨h1, h2, h3⟩, hnd⟩ := hn
  refine ⟨hnd, ?_⟩
  have e : ((UInt8.ofNat b.toNat).toNat : Int) = b := by
    rw [UInt8.toNat_ofNat']; omega
  have := sp_ok x (UInt8.ofNat b.toNat) h1 H
  rw [e] at this
  exact this.bare rfl

noncomputable def tabCp : Table := tabOf (jdeep Tryd.prog [(29, splT), (46, pureT gSee)] [] 3000 8)
theorem tabCp_sound : SoundT Tryd.prog tabCp := jdeep_sound (fun p hp => by
  simp only [List.mem_cons, List.not_mem_nil, or_false] at hp
  rcases hp with rfl | rfl
  · exact spl_at
  · exact see_at) 8

/-! ### l01Complex -/
def cpP (x : List UInt8) (i : Nat) : List UInt8 := (spl 44 x).getD i []
def cpB (x : List UInt8) : Bool := bif decide ((spl 44 x).length = 2) then (bif seB (cpP x 0) then seB (cpP x 1) else false) else false
noncomputable def cpX (x : List UInt8) : Nat := bif decide ((spl 44 x).length = 2) then seX (cpP x 0) else 0
noncomputable def cpY (x : List UInt8) : Nat := bif decide ((spl 44 x).length = 2) then seX (cpP x 1) else 0
noncomputable def cpC : Code := Tryd.f33.body.getD .skip
noncomputable def cp0 (x : List UInt8) : Res := jupto Tryd.prog tabCp atLoop 100 [.code cpC] (.s false x :: undefs 34) []
def s44 (x : List UInt8) : List (List UInt8) := spl (UInt8.ofNat (Int.toNat 44)) x
def lenQ (x : List UInt8) : Bool := decide (x.length ≤ 1048576) && (decide ((0 : Int) ≤ 44) && decide ((44 : Int) < 256))
def s44P (x : List UInt8) (i : Int) : List UInt8 := (s44 x).getD (0 + Int.toNat i * 1) []
def same2 {α : Type} (b : Bool) (x : α) : α := bif b then x else x
theorem same2_eq {α : Type} (b : Bool) (x : α) : same2 b x = x := by cases b <;> rfl
theorem cp0_bad (x : List UInt8) : (condsP (cp0 x) [true], leafE Tryd.prog Tryd.f33.results.toList 0 [0] ((cp0 x).at [true])) = ([!eqQ false (s44 x).length 2], some (.tup [.c true .f32 0 0, .b true false], [], allT [lenQ x])) := by kernel_rfl
theorem cp0_go (x : List UInt8) : (condsP (cp0 x) [false], leafE Tryd.prog Tryd.f33.results.toList 0 [0] ((cp0 x).at [false])) =
    ([!!eqQ false (s44 x).length 2], some (.tup [.c false .f32 (same2 (seB (s44P x 0)) (seX (s44P x 0))) (same2 (seB (s44P x 0)) (seX (s44P x 1))), .b false (bif seB (s44P x 0) then seB (s44P x 1) else false)], [],
      allT (guardL (seB (s44P x 0)) [] ++ (guardL (!seB (s44P x 0)) [] ++ [decide (0 + Int.toNat 1 * 1 < (Cells.strs (s44 x)).len), decide ((0 : Int) ≤ 1) && decide ((1 : Int) < (s44 x).length), decide (0 + Int.toNat 0 * 1 < (Cells.strs (s44 x)).len), decide ((0 : Int) ≤ 0) && decide ((0 : Int) < (s44 x).length), lenQ x])))) := by kernel_rfl
theorem fn33 : Tryd.prog.funcs[33]? = some Tryd.f33 := Tryd.func33
theorem body33 : Tryd.f33.body = some cpC := rfl
theorem eqQ_len2 (l : List (List UInt8)) : eqQ false (l.length : Int) 2 = decide (l.length = 2) := by
  rw [eqQ_eq, Bool.eq_iff_iff]; simp; omega
theorem cp_ok0 (x : List UInt8) (hx : x.length ≤ 1048576) : CallOK Tryd.prog 33 [.s false x] [] (.tup [.c false .f32 (cpX x) (cpY x), .b false (cpB x)]) [] := by
  have hq : lenQ x = true := by simp [lenQ, hx]
  have e44 : s44 x = spl 44 x := rfl
  have r0 : Reach Tryd.prog [.code cpC] ([.s false x] ++ undefs (Tryd.f33.ntmps - 1)) [] [.code cpC] (.s false x :: undefs 34) [] := .refl _ _ _
  unfold cpX cpY cpB
  by_cases h2 : (spl 44 x).length = 2
  · have h := cp0_go x
    simp only [Prod.mk.injEq] at h
    have := jend_call tabCp_sound fn33 body33 r0 (by show allT (condsP (cp0 x) [false]) = true; rw [h.1, eqQ_len2, e44, decide_eq_true h2]; rfl) h.2 (by
      rw [allT_append, allT_append, guardL_ok fun _ => rfl, guardL_ok fun _ => rfl]
      simp [allT, hq, e44, Cells.len, h2])
    rw [decide_eq_true h2]
    simp only [cond_true]
    refine this.reT ?_
    rw [same2_eq, same2_eq]
    rfl
  · have h := cp0_bad x
    simp only [Prod.mk.injEq] at h
    have := jend_call tabCp_sound fn33 body33 r0 (by show allT (condsP (cp0 x) [true]) = true; rw [h.1, eqQ_len2, e44, decide_eq_false h2]; rfl) h.2 (by simp [allT, hq])
    rw [decide_eq_false h2]
    simp only [cond_false]
    exact this.reT rfl
noncomputable def gCpx : List AV → Option (AV × List Bool)
  | [.s _ x] => some (.tup [.c false .f32 (cpX x) (cpY x), .b false (cpB x)], [decide (x.length ≤ 1048576)])
  | _ => none
theorem cpx_at : SoundAt Tryd.prog 33 (pureT gCpx) := fun args H nd K => by
  refine pureT_sound (fun args v n h hn H => ?_) args H nd K
  unfold gCpx at h
  split at h <;> (try (cases h; done))
  rename_i l x
  cases h
  simp only [allT, Bool.and_true, decide_eq_true_eq] at hn
  exact ((cp_ok0 x hn).lift rfl rfl H rfl).bare (args' := [.s l x]) rfl

/-! ### l01Number of one sign -/
def nmV (c : UInt8) : Int := bif decide (c.toNat < 48) then -1 else bif decide (57 < c.toNat) then -1 else (c.toNat : Int) - 48
noncomputable def nmC : Code := Tryd.f31.body.getD .skip
noncomputable def nm0 (c : UInt8) : Res := jupto Tryd.prog tabSp (fun _ => false) 100 [.code nmC] (.s false [c] :: undefs 47) []
def nmQ (c : UInt8) : Bool := bif ltQ false (c.toNat : Int) 48 then true else ltQ false 57 (c.toNat : Int)
def nmN (c : UInt8) : List Bool := guardL (ltQ false (c.toNat : Int) 48) [true] ++ (guardL (!ltQ false (c.toNat : Int) 48) [true, true] ++ [true])
theorem nmN_ok (c : UInt8) : allT (nmN c) = true := by
  unfold nmN
  rw [allT_append, allT_append, guardL_ok fun _ => rfl, guardL_ok fun _ => rfl]; rfl
theorem nm0_bad (c : UInt8) : (condsP (nm0 c) [false, true, true], leafE Tryd.prog Tryd.f31.results.toList 0 [] ((nm0 c).at [false, true, true])) = ([true, true, nmQ c], some (.i true .i64 (-1), [], allT (nmN c))) := by kernel_rfl
theorem nm0_go (c : UInt8) : (condsP (nm0 c) [false, true, false, false], leafE Tryd.prog Tryd.f31.results.toList 0 [] ((nm0 c).at [false, true, false, false])) = ([true, true, !nmQ c, true], some (.i false .i64 (wrapQ false .i64 (0 + IntKind.i64.wrap (wrapQ false .u8 ((c.toNat : Int) - 48)))), [], allT (true :: nmN c))) := by kernel_rfl
theorem fn31 : Tryd.prog.funcs[31]? = some Tryd.f31 := Tryd.func31
theorem body31 : Tryd.f31.body = some nmC := rfl
theorem nm_ok0 (c : UInt8) : CallOK Tryd.prog 31 [.s false [c]] [] (.i false .i64 (nmV c)) [] := by
  have r0 : Reach Tryd.prog [.code nmC] ([.s false [c]] ++ undefs (Tryd.f31.ntmps - 1)) [] [.code nmC] (.s false [c] :: undefs 47) [] := .refl _ _ _
  have hb := c.toNat_lt
  have hq : nmQ c = (decide (c.toNat < 48) || decide (57 < c.toNat)) := by
    unfold nmQ
    rw [ltQ_eq, ltQ_eq]
    have e1 : decide ((c.toNat : Int) < 48) = decide (c.toNat < 48) := by rw [Bool.eq_iff_iff]; simp; omega
    have e2 : decide ((57 : Int) < (c.toNat : Int)) = decide (57 < c.toNat) := by rw [Bool.eq_iff_iff]; simp; omega
    rw [e1, e2]
    cases decide (c.toNat < 48) <;> rfl
  by_cases h : c.toNat < 48 ∨ 57 < c.toNat
  · have h0 := nm0_bad c
    simp only [Prod.mk.injEq] at h0
    have := jend_call tabSp_sound fn31 body31 r0 (by show allT (condsP (nm0 c) [false, true, true]) = true; rw [h0.1, hq]; simp [allT]; omega) h0.2 (nmN_ok c)
    have e : nmV c = -1 := by
      unfold nmV
      rcases h with h | h
      · simp [h]
      · simp [h]
    rw [e]
    exact this.re rfl
  · have h0 := nm0_go c
    simp only [Prod.mk.injEq] at h0
    have := jend_call tabSp_sound fn31 body31 r0 (by show allT (condsP (nm0 c) [false, true, false, false]) = true; rw [h0.1, hq]; simp [allT]; omega) h0.2 (by rw [allT, nmN_ok]; rfl)
    have e : nmV c = (c.toNat : Int) - 48 := by
      unfold nmV
      have h1 : ¬ c.toNat < 48 := by omega
      have h2 : ¬ 57 < c.toNat := by omega
      simp [h1, h2]
    have e2 : wrapQ false .i64 (0 + IntKind.i64.wrap (wrapQ false .u8 ((c.toNat : Int) - 48))) = (c.toNat : Int) - 48 := by
      rw [wrapQ_eq false .u8, wrapU8_id (by omega) (by omega), wrap64_id (n := (c.toNat : Int) - 48) (by omega) (by omega), wrapQ_id (by omega) (by omega)]
      omega
    rw [e2] at this
    rw [e]
    exact this
/-- The one sign's number; a text of another length is not told. -/
noncomputable def gNum : List AV → Option (AV × List Bool)
  | [.s _ x] => some (.i false .i64 (nmV (x.getD 0 0)), [decide (x.length = 1)])
  | _ => none
theorem num_at : SoundAt Tryd.prog 31 (pureT gNum) := fun args H nd K => by
  refine pureT_sound (fun args v n h hn H => ?_) args H nd K
  unfold gNum at h
  split at h <;> (try (cases h; done))
  rename_i l x
  cases h
  simp only [allT, Bool.and_true, decide_eq_true_eq] at hn
  match x, hn with
  | [c], _ => exact ((nm_ok0 c).lift rfl rfl H rfl).bare (args' := [.s l [c]]) rfl
end Go.Ax

/- impl.readComplex: a row. -/
namespace Go.Ax
open Go Go.Proofs

noncomputable def tabRc : Table := tabOf (jdeep Tryd.prog [(39, pureT gCut), (40, pureT gRp)] [20] 3000 8)
theorem tabRc_sound : SoundT Tryd.prog tabRc := jdeep_sound (fun p hp => by
  simp only [List.mem_cons, List.not_mem_nil, or_false] at hp
  rcases hp with rfl | rfl
  · exact cut_at
  · exact rp_at) 8
noncomputable def rc0 (x : List UInt8) : Res := tabRc 20 [.s false x] [] [] fun v H nd => .ret v H nd
def rcA (x : List UInt8) : List UInt8 := cu1 x [44]
def rcD (x : List UInt8) : List UInt8 := cu2 x [44]
theorem rc0_ok (x : List UInt8) : (condsP (rc0 x) [], leafD 0 [] ((rc0 x).at [])) = ([], some (.tup [.c false .f32 (same2 (rpB (rcA x)) (rpX (rcA x))) (same2 (rpB (rcA x)) (rpX (rcD x))), .b false (bif rpB (rcA x) then rpB (rcD x) else false)], [],
    guardL (rpB (rcA x)) [] ++ (guardL (!rpB (rcA x)) [] ++ [decide ((rcD x).length ≤ 1048576), decide ((rcA x).length ≤ 1048576), decide (x.length ≤ 1048576)]))) := by kernel_rfl
theorem seB_comma {p : List UInt8} (h : seB p = true) : ∀ c ∈ p, c ≠ 44 ∧ c ≠ 58 ∧ c ≠ 32 := by
  unfold seB at h
  cases hs : seenR p with
  | none => rw [hs] at h; cases h
  | some k =>
    obtain ⟨rfl, h0, h1⟩ := txt_seen hs
    have key : ∀ (f n : Nat), ∀ c ∈ hexT f n, c ≠ 44 ∧ c ≠ 58 ∧ c ≠ 32 := by
      have tab : ((List.range 16).all fun v => dgC v != 44 && (dgC v != 58 && dgC v != 32)) = true := by kernel_rfl
      have one : ∀ v, v < 16 → dgC v ≠ 44 ∧ dgC v ≠ 58 ∧ dgC v ≠ 32 := fun v hv => by
        have := List.all_eq_true.1 tab v (List.mem_range.2 hv)
        simpa [bne_iff_ne] using this
      intro f
      induction f with
      | zero => intro n c hc; simp [hexT] at hc
      | succ f ih =>
        intro n c hc
        unfold hexT at hc
        by_cases hn : n < 16
        · simp [hn] at hc
          subst hc
          exact one n hn
        · simp only [hn, decide_false, cond_false, List.mem_append, List.mem_cons, List.not_mem_nil, or_false] at hc
          rcases hc with hc | rfl
          · exact ih _ c hc
          · exact one _ (Nat.mod_lt _ (by decide))
    intro c hc
    unfold txt fbV hexN at hc
    split at hc
    · rcases List.mem_cons.1 hc with rfl | hc
      · decide
      · exact key _ _ c hc
    · exact key _ _ c hc
theorem spl_one {b : UInt8} : ∀ {s : List UInt8}, (∀ c ∈ s, c ≠ b) → spl b s = [s]
  | [], _ => rfl
  | c :: s, h => by
    have hc : (c == b) = false := by simpa using h c (by simp)
    rw [spl_miss hc, spl_one fun d hd => h d (by simp [hd])]; rfl
theorem seB_nil : seB [] = false := by decide
/-- Both readings of a complex number. -/
theorem rc_cp (x : List UInt8) : (bif rpB (rcA x) then rpB (rcD x) else false) = cpB x ∧ (cpB x = true → rpX (rcA x) = cpX x ∧ rpX (rcD x) = cpY x) := by
  have eA := (rp_seen (rcA x)).1
  have eD := (rp_seen (rcD x)).1
  rw [eA, eD]
  unfold cpB cpX cpY cpP
  rcases cut_comma x with ⟨h1, h2, h3⟩ | h
  · have eD0 : rcD x = [] := h2
    rw [eD0, seB_nil, h3]
    refine ⟨by cases seB (rcA x) <;> rfl, fun h => by cases h⟩
  · cases hD : seB (rcD x) with
    | true =>
      have h1 : spl 44 (cu2 x [44]) = [rcD x] := spl_one fun c hc => ((seB_comma hD) c hc).1
      rw [h1] at h
      rw [h]
      have e0 : ([cu1 x [44], rcD x] : List (List UInt8)).getD 0 [] = rcA x := rfl
      have e1 : ([cu1 x [44], rcD x] : List (List UInt8)).getD 1 [] = rcD x := rfl
      rw [e0, e1, hD]
      refine ⟨rfl, fun hB => ?_⟩
      have hA : seB (rcA x) = true := by
        cases hA : seB (rcA x) with
        | true => rfl
        | false => rw [hA] at hB; cases hB
      exact ⟨(rp_seen _).2 hA, (rp_seen _).2 hD⟩
    | false =>
      have hz : (bif seB (rcA x) then false else false) = false := by cases seB (rcA x) <;> rfl
      rw [hz]
      have : (bif decide ((spl 44 x).length = 2) then (bif seB ((spl 44 x).getD 0 []) then seB ((spl 44 x).getD 1 []) else false) else false) = false := by
        rw [h]
        by_cases hl : (spl 44 (cu2 x [44])).length = 1
        · match hq : spl 44 (cu2 x [44]), hl with
          | [q], _ =>
            have hqe : q = rcD x := by
              rcases idx_spl 44 (cu2 x [44]) with ⟨_, e⟩ | ⟨i, _, _, e⟩
              · rw [e] at hq; cases hq; rfl
              · rw [e] at hq
                simp only [List.cons.injEq] at hq
                exact absurd hq.2 (spl_ne _ _)
            subst hqe
            have e1 : ([cu1 x [44], rcD x] : List (List UInt8)).getD 1 [] = rcD x := rfl
            rw [e1, hD]
            cases seB (([cu1 x [44], rcD x] : List (List UInt8)).getD 0 []) <;> rfl
        · have : ¬ (cu1 x [44] :: spl 44 (cu2 x [44])).length = 2 := by simp; omega
          rw [decide_eq_false this]; rfl
      rw [this]
      exact ⟨rfl, fun h => by cases h⟩
noncomputable def rcX (x : List UInt8) : Nat := rpX (rcA x)
noncomputable def rcY (x : List UInt8) : Nat := rpX (rcD x)
noncomputable def gRc : List AV → Option (AV × List Bool)
  | [.s _ x] => some (.tup [.c false .f32 (rcX x) (rcY x), .b false (cpB x)], [decide (x.length ≤ 1048576)])
  | _ => none
theorem rc_at : SoundAt Tryd.prog 20 (pureT gRc) := fun args H nd K => by
  refine pureT_sound (fun args v n h hn H => ?_) args H nd K
  unfold gRc at h
  split at h <;> (try (cases h; done))
  rename_i l x
  cases h
  simp only [allT, Bool.and_true, decide_eq_true_eq] at hn
  obtain ⟨c1, c2⟩ := cu_len x
  have h0 := rc0_ok x
  have := call_of_leaf tabRc_sound h0 rfl (by
    rw [allT_append, allT_append, guardL_ok fun _ => rfl, guardL_ok fun _ => rfl]
    simp only [allT, Bool.true_and, Bool.and_true, Bool.and_eq_true, decide_eq_true_eq]
    exact ⟨Nat.le_trans c2 hn, Nat.le_trans c1 hn, hn⟩)
  rw [same2_eq, same2_eq, (rc_cp x).1] at this
  exact (this.lift rfl rfl H rfl).bare (args' := [.s l x]) rfl
end Go.Ax

/- strings.CutPrefix: a row. -/
namespace Go.Ax
open Go Go.Proofs

noncomputable def tabPf : Table := tabOf (jdeep Tryd.prog [] [14, 35] 3000 8)
theorem tabPf_sound : SoundT Tryd.prog tabPf := jdeep_sound (fun p hp => by cases hp) 8
noncomputable def pf0 (x y : List UInt8) : Res := tabPf 14 [.s false x, .s false y] [] [] fun v H nd => .ret v H nd
def pfG (x y : List UInt8) : Bool := bif leQ false y.length x.length then List.drop 0 (List.take (y.length : Int).toNat x) == y else false
def pfN (x y : List UInt8) : Bool := bif leQ false y.length x.length then andT [true && decide (0 ≤ (y.length : Int)) && decide (0 ≤ (y.length : Int).toNat) && decide ((y.length : Int).toNat ≤ x.length)] else true
theorem pf_no (x y : List UInt8) : (condsP (pf0 x y) [true], leafD 0 [] ((pf0 x y).at [true])) = ([!pfG x y], some (.tup [.s false x, .b true false], [], [pfN x y])) := by kernel_rfl
theorem pf_yes (x y : List UInt8) : (condsP (pf0 x y) [false], leafD 0 [] ((pf0 x y).at [false])) = ([!!pfG x y], some (.tup [.s false (List.drop (y.length : Int).toNat (List.take x.length x)), .b true true], [], [decide (0 ≤ (y.length : Int)) && true && decide ((y.length : Int).toNat ≤ x.length) && decide (x.length ≤ x.length), pfN x y])) := by kernel_rfl
theorem pfN_ok (x y : List UInt8) : pfN x y = true := by
  unfold pfN
  rw [leQ_eq]
  by_cases h : (y.length : Int) ≤ x.length
  · have h' : y.length ≤ x.length := by omega
    simp [h, andT, h']
  · simp [h]
/-- Does a text begin with another? -/
def pfB (x y : List UInt8) : Bool := y.isPrefixOf x
theorem pfG_eq (x y : List UInt8) : pfG x y = pfB x y := by
  unfold pfG pfB
  rw [leQ_eq, Bool.eq_iff_iff, List.isPrefixOf_iff_prefix]
  by_cases h : (y.length : Int) ≤ x.length
  · simp only [h, decide_true, cond_true, List.drop_zero, Int.toNat_natCast, beq_iff_eq]
    constructor
    · intro e; exact ⟨x.drop y.length, by have := List.take_append_drop y.length x; rwa [e] at this⟩
    · rintro ⟨t, rfl⟩; simp
  · simp only [h, decide_false, cond_false]
    constructor
    · intro e; cases e
    · rintro ⟨t, rfl⟩; simp at h; omega
noncomputable def pfRow : Table := fun _ args H nd K => match args with
  | [.s _ x, .s _ y] => .ite (pfB x y) (K (.tup [.s false (x.drop y.length), .b true true]) H nd) (K (.tup [.s false x, .b true false]) H nd)
  | _ => .fail
theorem pf_at : SoundAt Tryd.prog 14 pfRow := fun args H nd K => by
  unfold pfRow
  split
  case h_2 => exact .inl rfl
  rename_i l x l' y
  cases hp : pfB x y with
  | true =>
    refine .inr ⟨_, _, _, by simp only [Res.sel, if_true]; rfl, fun hn => ⟨hn, ?_⟩⟩
    have hle : y.length ≤ x.length := by
      unfold pfB at hp
      rw [List.isPrefixOf_iff_prefix] at hp
      obtain ⟨t, rfl⟩ := hp
      simp
    have := call_of_leaf tabPf_sound (pf_yes x y) (by rw [pfG_eq, hp]; rfl) (by simp [allT, pfN_ok, hle])
    have e : List.drop (y.length : Int).toNat (List.take x.length x) = x.drop y.length := by simp
    rw [e] at this
    exact (this.lift rfl rfl H rfl).bare rfl
  | false =>
    refine .inr ⟨_, _, _, by simp only [Res.sel]; rfl, fun hn => ⟨hn, ?_⟩⟩
    have := call_of_leaf tabPf_sound (pf_no x y) (by rw [pfG_eq, hp]; rfl) (by simp [allT, pfN_ok])
    exact (this.lift rfl rfl H rfl).bare rfl
end Go.Ax
