/- Finite floats of 32 bits as whole numbers of the least unit. -/
import Derived.Test.YtdcjjibekhcplaaCag
namespace Go.Ax
open Go Ieee

/-- A finite number in units of the least one. -/
def fint (x : Nat) : Option Int :=
  match single.read x with
  | .number s m i => some (signed s m (i + 149).toNat)
  | _ => none
theorem least32 : single.leastPlace = -149 := by decide
theorem bin32 : single.binade = 8388608 := rfl
theorem inf32 : single.infRung = 2139095040 := rfl
theorem frac32 : single.fractionBits = 23 := rfl
theorem read_form (x : Nat) : (∃ s m r, single.read x = .number s m (-149 + (r : Nat)) ∧ m < 16777216 ∧ (r = 0 ∨ 8388608 ≤ m) ∧ r ≤ 253) ∨ (∃ s, single.read x = .infinity s) ∨ ∃ s t, single.read x = .nan s t := by
  unfold Format.read
  rw [least32, bin32, inf32]
  generalize x % single.signWeight = k
  generalize (x / single.signWeight % 2 == 1) = s
  dsimp only
  split
  · exact .inl ⟨s, k, 0, by simp, by omega, .inl rfl, by omega⟩
  · split
    · refine .inl ⟨s, 8388608 + k % 8388608, k / 8388608 - 1, rfl, by omega, .inr (by omega), by omega⟩
    · split
      · exact .inr (.inl ⟨s, rfl⟩)
      · exact .inr (.inr ⟨s, _, rfl⟩)
theorem fint_form {x : Nat} {a : Int} (h : fint x = some a) : ∃ s m r, single.read x = .number s m (-149 + (r : Nat)) ∧ a = signed s m r ∧ m < 16777216 ∧ (r = 0 ∨ 8388608 ≤ m) ∧ r ≤ 253 := by
  unfold fint at h
  rcases read_form x with ⟨s, m, r, e, h1, h2, h3⟩ | ⟨s, e⟩ | ⟨s, t, e⟩
  · rw [e] at h
    simp only [Option.some.injEq] at h
    refine ⟨s, m, r, e, ?_, h1, h2, h3⟩
    rw [← h]
    congr 1
    omega
  · rw [e] at h; cases h
  · rw [e] at h; cases h
theorem fint_of {x : Nat} {s : Bool} {m r : Nat} (e : single.read x = .number s m (-149 + (r : Nat))) : fint x = some (signed s m r) := by
  unfold fint
  rw [e]
  simp only [Option.some.injEq]
  congr 1
  omega
theorem signed_eq (s : Bool) (m r : Nat) : signed s m r = (if s then -1 else 1) * ((m : Int) * 2 ^ r) := by
  unfold signed
  rw [Nat.shiftLeft_eq]
  cases s <;> simp
theorem signed_scale (s : Bool) (m r b : Nat) : signed s m (r + b) = signed s m r * 2 ^ b := by
  rw [signed_eq, signed_eq, Int.pow_add]
  cases s <;> simp [Int.mul_assoc, Int.neg_mul]
theorem pow_pos' (b : Nat) : (0 : Int) < 2 ^ b := Int.pow_pos (by decide)
theorem scale_inj {a c : Int} {b : Nat} : a * 2 ^ b = c * 2 ^ b ↔ a = c := Int.mul_eq_mul_right_iff (Int.ne_of_gt (pow_pos' b))
theorem scale_lt {a c : Int} {b : Nat} : a * 2 ^ b < c * 2 ^ b ↔ a < c := ⟨fun h => Int.lt_of_mul_lt_mul_right h (Int.le_of_lt (pow_pos' b)), fun h => Int.mul_lt_mul_of_pos_right h (pow_pos' b)⟩
/-- Two finite numbers in units of one place. -/
theorem two_units {s t : Bool} {m n r q : Nat} : ∃ b, signed s m r = signed s m (-149 + (r : Int) - min (-149 + (r : Int)) (-149 + (q : Int))).toNat * 2 ^ b ∧ signed t n q = signed t n (-149 + (q : Int) - min (-149 + (r : Int)) (-149 + (q : Int))).toNat * 2 ^ b ∧ (min (-149 + (r : Int)) (-149 + (q : Int))) = -149 + (b : Nat) := by
  refine ⟨min r q, ?_, ?_, by omega⟩
  · rw [← signed_scale]
    congr 1
    omega
  · rw [← signed_scale]
    congr 1
    omega
theorem order_fint {x y : Nat} {a b : Int} (hx : fint x = some a) (hy : fint y = some b) : single.order x y = some (compare a b) := by
  obtain ⟨s, m, r, e1, rfl, _⟩ := fint_form hx
  obtain ⟨t, n, q, e2, rfl, _⟩ := fint_form hy
  unfold Format.order
  rw [e1, e2]
  obtain ⟨k, h1, h2, _⟩ := two_units (s := s) (t := t) (m := m) (n := n) (r := r) (q := q)
  simp only [Datum.order, Option.some.injEq]
  rw [h1, h2]
  generalize signed s m _ = u
  generalize signed t n _ = v
  simp only [compare, compareOfLessAndEq, scale_lt, scale_inj]
theorem feq_fint {x y : Nat} {a b : Int} (hx : fint x = some a) (hy : fint y = some b) : feq .f32 x y = (a == b) := by
  unfold feq
  rw [show FloatKind.f32.format = single from rfl, order_fint hx hy]
  rw [Bool.eq_iff_iff]
  simp [compare, compareOfLessAndEq]
  constructor
  · intro h
    by_cases h1 : a < b
    · simp [h1] at h
    · by_cases h2 : a = b
      · exact h2
      · simp [h1, h2] at h
  · rintro rfl; simp
theorem flt_fint {x y : Nat} {a b : Int} (hx : fint x = some a) (hy : fint y = some b) : flt .f32 x y = decide (a < b) := by
  unfold flt
  rw [show FloatKind.f32.format = single from rfl, order_fint hx hy]
  rw [Bool.eq_iff_iff]
  simp [compare, compareOfLessAndEq]
  constructor
  · intro h
    by_cases h1 : a < b
    · exact h1
    · by_cases h2 : a = b
      · simp [h2] at h
      · simp [h1, h2] at h
  · intro h h2; omega
theorem feq_fin {x y : Nat} {a : Int} (h : feq .f32 x y = true) (hx : fint x = some a) : fint y = some a := by
  rcases read_form y with ⟨s, m, r, e, h1, h2, h3⟩ | ⟨s, e⟩ | ⟨s, t, e⟩
  · have hy := fint_of e
    rw [feq_fint hx hy, beq_iff_eq] at h
    rw [hy, h]
  · exfalso
    obtain ⟨s', m', r', e', _⟩ := fint_form hx
    unfold feq Format.order at h
    rw [show FloatKind.f32.format = single from rfl, e, e'] at h
    cases s <;> simp [Datum.order] at h
  · exfalso
    obtain ⟨s', m', r', e', _⟩ := fint_form hx
    unfold feq Format.order at h
    rw [show FloatKind.f32.format = single from rfl, e, e'] at h
    simp [Datum.order] at h
theorem feq_fin' {x y : Nat} {a : Int} (h : feq .f32 x y = true) (hy : fint y = some a) : fint x = some a := by
  rcases read_form x with ⟨s, m, r, e, h1, h2, h3⟩ | ⟨s, e⟩ | ⟨s, t, e⟩
  · have hx := fint_of e
    rw [feq_fint hx hy, beq_iff_eq] at h
    rw [hx, h]
  · exfalso
    obtain ⟨s', m', r', e', _⟩ := fint_form hy
    unfold feq Format.order at h
    rw [show FloatKind.f32.format = single from rfl, e, e'] at h
    cases s <;> simp [Datum.order] at h
  · exfalso
    obtain ⟨s', m', r', e', _⟩ := fint_form hy
    unfold feq Format.order at h
    rw [show FloatKind.f32.format = single from rfl, e, e'] at h
    simp [Datum.order] at h
theorem fint_zero : fint 0 = some 0 := by decide +kernel

/-! ### What is written -/
/-- A number that the format has. -/
def Rep (n : Nat) : Prop := ∃ m r, n = m * 2 ^ r ∧ m < 16777216 ∧ (r = 0 ∨ 8388608 ≤ m) ∧ r ≤ 253
theorem fint_rep {x : Nat} {a : Int} (h : fint x = some a) : Rep a.natAbs := by
  obtain ⟨s, m, r, _, rfl, h1, h2, h3⟩ := fint_form h
  refine ⟨m, r, ?_, h1, h2, h3⟩
  unfold signed
  rw [Nat.shiftLeft_eq]
  have : ((m : Int) * 2 ^ r).natAbs = m * 2 ^ r := by
    have e : (m : Int) * 2 ^ r = ((m * 2 ^ r : Nat) : Int) := by push_cast; rfl
    rw [e, Int.natAbs_natCast]
  cases s <;> simp [this]
theorem fint_canon (g : Bool) {m r : Nat} (h1 : m < 16777216) (h2 : r = 0 ∨ 8388608 ≤ m) (h3 : r ≤ 253) : fint (canon single g m r) = some (signed g m r) := by
  refine fint_of ?_
  rw [read_canon single g m r (by rw [frac32]; exact h1) (by rw [frac32]; exact h2) (by rw [bin32, inf32]; omega), least32]
theorem pow_cancel {a b c d : Nat} (h : a * 2 ^ c = b * 2 ^ d) (hcd : c ≤ d) : a = b * 2 ^ (d - c) := by
  have : b * 2 ^ d = b * 2 ^ (d - c) * 2 ^ c := by rw [Nat.mul_assoc, ← Nat.pow_add]; congr 2; omega
  rw [this] at h
  exact Nat.eq_of_mul_eq_mul_right (Nat.two_pow_pos c) h
theorem nearest_rep (g : Bool) (mag p : Nat) (h : Rep (mag * 2 ^ p)) : fint (single.nearest g mag (-149 + (p : Nat))) = some (signed g mag p) := by
  obtain ⟨m, r, e, h1, h2, h3⟩ := h
  have key : single.nearest g mag (-149 + (p : Nat)) = canon single g m r := by
    by_cases hz : mag = 0
    · subst hz
      have hm : m = 0 := by
        rcases Nat.eq_zero_or_pos m with h | h
        · exact h
        · have := Nat.mul_pos h (Nat.two_pow_pos r)
          simp at e; omega
      subst hm
      have hr : r = 0 := by rcases h2 with h | h <;> omega
      subst hr
      unfold Format.nearest
      simp [canon]
    rcases Nat.lt_or_ge r p with hrp | hrp
    · have em := pow_cancel e.symm (Nat.le_of_lt hrp)
      rcases h2 with h2 | h2
      · subst h2
        rw [Nat.sub_zero] at em
        -- a number at the least places
        by_cases hfull : 8388608 ≤ m
        · rw [em] at hfull h1 ⊢
          exact nearest_up single g mag p 0 _ (by rw [frac32]; exact hfull) (by rw [frac32]; exact h1) (by rw [least32]; omega) (by rw [bin32, inf32]; omega)
        · have hlog : mag.log2 + p ≤ 22 := by
            have h2 : mag * 2 ^ p < 2 ^ 23 := by rw [← em]; omega
            have h3 : 2 ^ (mag.log2 + p) ≤ mag * 2 ^ p := by rw [Nat.pow_add]; exact Nat.mul_le_mul_right _ (Nat.log2_self_le hz)
            have h4 : 2 ^ (mag.log2 + p) < 2 ^ 23 := Nat.lt_of_le_of_lt h3 h2
            have := (Nat.pow_lt_pow_iff_right (by decide : 1 < 2)).1 h4
            omega
          unfold Format.nearest
          rw [if_neg hz, least32, frac32]
          have hlast : max (-149 + (p : Int) + (mag.log2 : Nat) - (23 : Nat)) (-149) = -149 := by omega
          simp only [hlast]
          have e1 : (-149 + (p : Int) - -149).toNat = p := by omega
          have e2 : ((-149 : Int) - (-149 + (p : Int))).toNat = 0 := by omega
          have e3 : ((-149 : Int) - -149).toNat = 0 := by omega
          rw [e1, e2, e3, Nat.shiftLeft_eq, cut_zero, ← em, Nat.min_eq_left (by rw [inf32]; omega)]
          simp [canon]
      · rw [em] at h1 h2 ⊢
        exact nearest_up single g mag (p - r) r _ (by rw [frac32]; exact h2) (by rw [frac32]; exact h1) (by rw [least32]; omega) (by rw [bin32, inf32]; omega)
    · have em := pow_cancel e hrp
      rcases h2 with h2 | h2
      · subst h2
        have hp : p = 0 := by omega
        subst hp
        have em : mag = m * 2 ^ 0 := em
        rw [em]
        exact nearest_sub single g m 0 _ (by rw [frac32]; exact h1) (by rw [least32]; rfl) (by rw [inf32]; omega)
      · rw [em]
        exact nearest_down single g m (r - p) r _ (by rw [frac32]; exact h2) (by rw [frac32]; exact h1) (by rw [least32]; omega) (by rw [bin32, inf32]; omega)
  rw [key, fint_canon g h1 h2 h3, signed_eq, signed_eq]
  have : (m : Int) * 2 ^ r = (mag : Int) * 2 ^ p := by exact_mod_cast e.symm
  rw [this]
theorem signed_abs (n : Int) (p : Nat) : signed (decide (n < 0)) n.natAbs p = n * 2 ^ p := by
  rw [signed_eq]
  by_cases h : n < 0
  · simp [h]
    have : (n.natAbs : Int) = -n := by omega
    rw [this, Int.neg_mul, Int.neg_neg]
  · simp [h]
    have : (n.natAbs : Int) = n := by omega
    rw [this]
theorem sum_fint {s t : Bool} {m n r q : Nat} (h : Rep (signed s m r + signed t n q).natAbs) : ∃ z, ((Datum.number s m (-149 + (r : Nat))).sum (.number t n (-149 + (q : Nat)))).map single.write = some z ∧ fint z = some (signed s m r + signed t n q) := by
  obtain ⟨b, h1, h2, h3⟩ := two_units (s := s) (t := t) (m := m) (n := n) (r := r) (q := q)
  simp only [Datum.sum, Option.map_some]
  refine ⟨_, rfl, ?_⟩
  rw [h1, h2, ← Int.add_mul] at h ⊢
  rw [h3] at h ⊢
  generalize signed s m _ + signed t n _ = T at h ⊢
  have hT : (T * 2 ^ b).natAbs = T.natAbs * 2 ^ b := by
    rw [Int.natAbs_mul, Int.natAbs_pow]; rfl
  rw [hT] at h
  show fint (single.nearest _ T.natAbs (-149 + (b : Nat))) = _
  rw [nearest_rep _ _ _ h]
  by_cases h0 : T = 0
  · subst h0
    simp [signed_eq]
  · rw [if_neg h0]
    rw [signed_abs]
theorem fadd_fint {x y : Nat} {a b : Int} (hx : fint x = some a) (hy : fint y = some b) (h : Rep (a + b).natAbs) : fint (fadd .f32 x y) = some (a + b) := by
  obtain ⟨s, m, r, e1, rfl, _⟩ := fint_form hx
  obtain ⟨t, n, q, e2, rfl, _⟩ := fint_form hy
  obtain ⟨z, h1, h2⟩ := sum_fint h
  unfold fadd Format.add
  rw [show FloatKind.f32.format = single from rfl, e1, e2, h1]
  exact h2
theorem signed_neg (t : Bool) (n q : Nat) : signed (!t) n q = - signed t n q := by
  rw [signed_eq, signed_eq]
  cases t <;> simp
theorem fsub_fint {x y : Nat} {a b : Int} (hx : fint x = some a) (hy : fint y = some b) (h : Rep (a - b).natAbs) : fint (fsub .f32 x y) = some (a - b) := by
  obtain ⟨s, m, r, e1, rfl, _⟩ := fint_form hx
  obtain ⟨t, n, q, e2, rfl, _⟩ := fint_form hy
  have e : signed s m r - signed t n q = signed s m r + signed (!t) n q := by rw [signed_neg]; rfl
  rw [e] at h ⊢
  obtain ⟨z, h1, h2⟩ := sum_fint h
  unfold fsub Format.sub
  rw [show FloatKind.f32.format = single from rfl, e1, e2]
  show fint ((((Datum.number s m (-149 + (r : Nat))).sum (.number (!t) n (-149 + (q : Nat)))).map single.write).getD _) = _
  rw [h1]
  exact h2
theorem rep_zero : Rep 0 := ⟨0, 0, by simp, by omega, .inl rfl, by omega⟩
theorem fint_finB {x : Nat} {a : Int} (h : fint x = some a) : feq .f32 (fsub .f32 x x) 0 = true := by
  have := fsub_fint h h (by simp; exact rep_zero)
  rw [feq_fint this fint_zero]
  simp
theorem finB_fint {x : Nat} (h : feq .f32 (fsub .f32 x x) 0 = true) : ∃ a, fint x = some a := by
  rcases read_form x with ⟨s, m, r, e, h1, h2, h3⟩ | ⟨s, e⟩ | ⟨s, t, e⟩
  · exact ⟨_, fint_of e⟩
  · exfalso
    unfold fsub Format.sub at h
    rw [show FloatKind.f32.format = single from rfl, e] at h
    have : (((Datum.infinity s).sum (Datum.infinity s).opposite).map single.write).getD (qnan .f32) = qnan .f32 := by cases s <;> rfl
    rw [this] at h
    have e : feq .f32 (qnan .f32) 0 = false := by decide +kernel
    rw [e] at h; cases h
  · exfalso
    unfold fsub Format.sub at h
    rw [show FloatKind.f32.format = single from rfl, e] at h
    have : (((Datum.nan s t).sum (Datum.nan s t).opposite).map single.write).getD (qnan .f32) = qnan .f32 := rfl
    rw [this] at h
    have e : feq .f32 (qnan .f32) 0 = false := by decide +kernel
    rw [e] at h; cases h
end Go.Ax

/- Small whole numbers as floats; what is not finite stays so. -/
namespace Go.Ax
open Go Ieee

def oneU : Int := 2 ^ 149
/-- A float that is a whole number. -/
def isI (x : Nat) (v : Int) : Prop := fint x = some (v * 2 ^ 149)
theorem rep_small {v : Int} (h : v.natAbs < 16777216) : Rep (v * 2 ^ 149).natAbs := by
  rw [Int.natAbs_mul, Int.natAbs_pow]
  show Rep (v.natAbs * 2 ^ 149)
  generalize v.natAbs = n at h
  rcases Nat.eq_zero_or_pos n with h0 | h0
  · subst h0; rw [Nat.zero_mul]; exact rep_zero
  · have hn : n ≠ 0 := by omega
    have hl : n.log2 < 24 := (Nat.log2_lt hn).2 (by rw [show 2 ^ 24 = 16777216 from rfl]; exact h)
    refine ⟨n * 2 ^ (23 - n.log2), 126 + n.log2, ?_, ?_, .inr ?_, by omega⟩
    · rw [Nat.mul_assoc, ← Nat.pow_add]
      congr 2
      omega
    · have : n * 2 ^ (23 - n.log2) < 2 ^ (n.log2 + 1) * 2 ^ (23 - n.log2) := Nat.mul_lt_mul_of_pos_right Nat.lt_log2_self (Nat.two_pow_pos _)
      rw [← Nat.pow_add, show n.log2 + 1 + (23 - n.log2) = 24 by omega] at this
      exact this
    · have : 2 ^ n.log2 * 2 ^ (23 - n.log2) ≤ n * 2 ^ (23 - n.log2) := Nat.mul_le_mul_right _ (Nat.log2_self_le hn)
      rw [← Nat.pow_add, show n.log2 + (23 - n.log2) = 23 by omega] at this
      exact this
theorem isI_add {x y : Nat} {a b : Int} (hx : isI x a) (hy : isI y b) (h : (a + b).natAbs < 16777216) : isI (fadd .f32 x y) (a + b) := by
  have := fadd_fint hx hy (by rw [← Int.add_mul]; exact rep_small h)
  rw [← Int.add_mul] at this
  exact this
theorem isI_sub {x y : Nat} {a b : Int} (hx : isI x a) (hy : isI y b) (h : (a - b).natAbs < 16777216) : isI (fsub .f32 x y) (a - b) := by
  have := fsub_fint hx hy (by rw [← Int.sub_mul]; exact rep_small h)
  rw [← Int.sub_mul] at this
  exact this
theorem isI_zero : isI 0 0 := by unfold isI; rw [fint_zero]; rfl
theorem isI_feq {x y : Nat} {a b : Int} (hx : isI x a) (hy : isI y b) : feq .f32 x y = (a == b) := by
  rw [feq_fint hx hy, Bool.eq_iff_iff]
  simp only [beq_iff_eq]
  exact scale_inj
/-- A whole number's parts. -/
theorem isI_parts {x : Nat} {a : Int} (hx : isI x a) (ha : a.natAbs < 16777216) : ∃ s m r, single.read x = .number s m (-149 + (r : Nat)) ∧ signed s m r = a * 2 ^ 149 ∧ m * 2 ^ r = a.natAbs * 2 ^ 149 ∧ m < 16777216 ∧ (a ≠ 0 → 8388608 ≤ m ∧ 126 ≤ r ∧ r ≤ 149) ∧ (a = 0 → m = 0) := by
  obtain ⟨s, m, r, e, h1, h2, h3, _⟩ := fint_form hx
  have hm : m * 2 ^ r = a.natAbs * 2 ^ 149 := by
    have h := congrArg Int.natAbs h1
    rw [Int.natAbs_mul, Int.natAbs_pow] at h
    unfold signed at h
    rw [Nat.shiftLeft_eq] at h
    have e2 : (if s = true then -((m * 2 ^ r : Nat) : Int) else ((m * 2 ^ r : Nat) : Int)).natAbs = m * 2 ^ r := by
      cases s <;> simp only [if_true, Bool.false_eq_true, if_false, Int.natAbs_neg, Int.natAbs_natCast]
    rw [e2] at h
    exact h.symm
  refine ⟨s, m, r, e, h1.symm, hm, h2, fun h0 => ?_, fun h0 => ?_⟩
  · have hpos : 1 ≤ a.natAbs := by omega
    have hr : 126 ≤ r := by
      rcases Nat.lt_or_ge r 126 with h | h
      · exfalso
        have h5 : m * 2 ^ r < 2 ^ 24 * 2 ^ 125 := Nat.mul_lt_mul_of_lt_of_le h2 (Nat.pow_le_pow_right (by decide) (by omega)) (Nat.two_pow_pos _)
        have h6 : 1 * 2 ^ 149 ≤ a.natAbs * 2 ^ 149 := Nat.mul_le_mul_right _ hpos
        rw [hm, ← Nat.pow_add] at h5
        omega
      · exact h
    have hmm : 8388608 ≤ m := by rcases h3 with h | h <;> omega
    refine ⟨hmm, hr, ?_⟩
    rcases Nat.lt_or_ge 149 r with h | h
    · exfalso
      have h5 : 2 ^ 23 * 2 ^ 150 ≤ m * 2 ^ r := Nat.mul_le_mul hmm (Nat.pow_le_pow_right (by decide) (by omega))
      have h6 : a.natAbs * 2 ^ 149 < 2 ^ 24 * 2 ^ 149 := Nat.mul_lt_mul_of_pos_right ha (Nat.two_pow_pos _)
      rw [hm, ← Nat.pow_add] at h5
      rw [← Nat.pow_add] at h6
      omega
    · exact h
  · subst h0
    rcases Nat.eq_zero_or_pos m with h | h
    · exact h
    · have := Nat.mul_pos h (Nat.two_pow_pos r)
      simp at hm; omega
theorem signed_xor (s t : Bool) (m n r q : Nat) : signed (s ^^ t) (m * n) (r + q) = signed s m r * signed t n q := by
  rw [signed_eq, signed_eq, signed_eq, Int.pow_add]
  push_cast
  have e : ((m : Int) * n) * (2 ^ r * 2 ^ q) = (m * 2 ^ r) * (n * 2 ^ q) := by
    rw [Int.mul_assoc, Int.mul_assoc, Int.mul_left_comm (n : Int)]
  cases s <;> cases t <;> simp [e, Int.neg_mul, Int.mul_neg]
theorem isI_mul {x y : Nat} {a b : Int} (hx : isI x a) (hy : isI y b) (ha : a.natAbs < 16777216) (hb : b.natAbs < 16777216) (h : (a * b).natAbs < 16777216) : isI (fmul .f32 x y) (a * b) := by
  obtain ⟨s, m, r, e1, h1, m1, _, p1, z1⟩ := isI_parts hx ha
  obtain ⟨t, n, q, e2, h2, m2, _, p2, z2⟩ := isI_parts hy hb
  unfold isI fmul Format.mul
  rw [show FloatKind.f32.format = single from rfl, e1, e2]
  show fint (single.nearest (s ^^ t) (m * n) (-149 + (r : Int) + (-149 + (q : Int)))) = _
  by_cases h0 : a = 0 ∨ b = 0
  · have hmn : m * n = 0 := by
      rcases h0 with h0 | h0
      · rw [z1 h0]; simp
      · rw [z2 h0]; simp
    have hab : a * b = 0 := by rcases h0 with h0 | h0 <;> simp [h0]
    rw [hmn, hab]
    unfold Format.nearest
    rw [if_pos rfl]
    cases (s ^^ t) <;> decide +kernel
  · have ha0 : a ≠ 0 := fun h => h0 (.inl h)
    have hb0 : b ≠ 0 := fun h => h0 (.inr h)
    obtain ⟨_, r1, _⟩ := p1 ha0
    obtain ⟨_, r2, _⟩ := p2 hb0
    have hp : -149 + (r : Int) + (-149 + (q : Int)) = -149 + ((r + q - 149 : Nat) : Int) := by omega
    have key : m * n * 2 ^ (r + q - 149) = (a * b).natAbs * 2 ^ 149 := by
      have h3 : m * n * 2 ^ (r + q - 149) * 2 ^ 149 = (a * b).natAbs * 2 ^ 149 * 2 ^ 149 := by
        have e3 : m * n * 2 ^ (r + q - 149) * 2 ^ 149 = (m * 2 ^ r) * (n * 2 ^ q) := by
          rw [Nat.mul_assoc (m * n), ← Nat.pow_add, show r + q - 149 + 149 = r + q by omega, Nat.pow_add]
          exact Nat.mul_mul_mul_comm m n (2 ^ r) (2 ^ q)
        rw [e3, m1, m2, Int.natAbs_mul]
        rw [Nat.mul_mul_mul_comm]
        rw [Nat.mul_assoc (a.natAbs * b.natAbs)]
      exact Nat.eq_of_mul_eq_mul_right (Nat.two_pow_pos _) h3
    rw [hp, nearest_rep _ _ _ (by rw [key]; have := rep_small h; rwa [Int.natAbs_mul, Int.natAbs_pow] at this)]
    have h4 : signed (s ^^ t) (m * n) (r + q) = a * b * 2 ^ 149 * 2 ^ 149 := by
      rw [signed_xor, h1, h2]
      rw [Int.mul_assoc, Int.mul_left_comm (2 ^ 149) b, ← Int.mul_assoc, Int.mul_assoc (a * b)]
    have h5 : signed (s ^^ t) (m * n) (r + q) = signed (s ^^ t) (m * n) (r + q - 149) * 2 ^ 149 := by
      have e4 : r + q = r + q - 149 + 149 := by omega
      exact (congrArg (signed (s ^^ t) (m * n)) e4).trans (signed_scale _ _ _ _)
    rw [h5] at h4
    exact congrArg some (scale_inj.1 h4)
theorem isI_div {x y : Nat} {c d : Int} (hx : isI x (c * d)) (hy : isI y d) (hd : 0 < d) (hd' : d.natAbs < 16777216) (hc : c.natAbs < 16777216) (h : (c * d).natAbs < 16777216) : isI (fdiv .f32 x y) c := by
  obtain ⟨s, m, r, e1, h1, m1, l1, p1, z1⟩ := isI_parts hx h
  obtain ⟨t, n, q, e2, h2, m2, l2, p2, _⟩ := isI_parts hy hd'
  obtain ⟨n1, q1, q2⟩ := p2 (by omega)
  have ht : t = false := by
    cases t with
    | false => rfl
    | true =>
      exfalso
      rw [signed_eq] at h2
      have h3 : (0 : Int) < d * 2 ^ 149 := Int.mul_pos hd (pow_pos' _)
      have h4 : (0 : Int) ≤ (n : Int) * 2 ^ q := Int.mul_nonneg (by omega) (Int.le_of_lt (pow_pos' _))
      simp only [if_true] at h2
      omega
  subst ht
  have hn : n ≠ 0 := by omega
  have hlog : n.log2 = 23 := log2_eq (by omega) (by omega)
  unfold isI fdiv Format.div
  rw [show FloatKind.f32.format = single from rfl, e1, e2]
  show fint (((Datum.quotient (23 + 2) (.number s m (-149 + (r : Nat))) (.number false n (-149 + (q : Nat)))).map single.write).getD (qnan .f32)) = _
  simp only [Datum.quotient, if_neg hn, Option.map_some, Option.getD_some]
  by_cases h0 : c = 0
  · subst h0
    have hm := z1 (by simp)
    subst hm
    rw [Nat.zero_shiftLeft, Nat.zero_div, Nat.zero_mod]
    show fint (single.nearest (s ^^ false) 0 _) = _
    unfold Format.nearest
    rw [if_pos rfl]
    cases s <;> decide +kernel
  · have hcd : c * d ≠ 0 := Int.mul_ne_zero h0 (by omega)
    obtain ⟨n3, r1, r2⟩ := p1 hcd
    have hlm : m.log2 = 23 := log2_eq (by omega) (by omega)
    have hmore : 23 + 2 + n.log2 - m.log2 = 25 := by omega
    rw [hmore]
    -- m 2^r = |c| n 2^q
    have key : m * 2 ^ r = c.natAbs * n * 2 ^ q := by
      rw [m1, Int.natAbs_mul, Nat.mul_assoc c.natAbs n, m2, Nat.mul_assoc]
    have hrq : r ≤ q + 25 := by
      rcases Nat.lt_or_ge (q + 25) r with hlt | hge
      · exfalso
        have h5 : 2 ^ 23 * 2 ^ (q + 26) ≤ m * 2 ^ r := Nat.mul_le_mul n3 (Nat.pow_le_pow_right (by decide) (by omega))
        have h6 : c.natAbs * n < 2 ^ 24 * 2 ^ 24 := Nat.mul_lt_mul_of_lt_of_le hc (Nat.le_of_lt l2) (by decide)
        have h7 : c.natAbs * n * 2 ^ q < 2 ^ 24 * 2 ^ 24 * 2 ^ q := Nat.mul_lt_mul_of_pos_right h6 (Nat.two_pow_pos _)
        rw [key] at h5
        have e3 : (2 : Nat) ^ 23 * 2 ^ (q + 26) = 2 ^ 24 * 2 ^ 24 * 2 ^ q * 2 := by
          rw [← Nat.pow_add, ← Nat.pow_add, ← Nat.pow_add, ← Nat.pow_succ]; congr 1; omega
        omega
      · exact hge
    have hdiv : m <<< 25 = n * (c.natAbs * 2 ^ (q + 25 - r)) := by
      rw [Nat.shiftLeft_eq]
      have h5 : m * 2 ^ 25 * 2 ^ r = n * (c.natAbs * 2 ^ (q + 25 - r)) * 2 ^ r := by
        have e3 : m * 2 ^ 25 * 2 ^ r = m * 2 ^ r * 2 ^ 25 := by rw [Nat.mul_assoc, Nat.mul_comm (2 ^ 25), ← Nat.mul_assoc]
        have e4 : n * (c.natAbs * 2 ^ (q + 25 - r)) * 2 ^ r = c.natAbs * n * (2 ^ (q + 25 - r) * 2 ^ r) := by
          rw [← Nat.mul_assoc n, Nat.mul_comm n, Nat.mul_assoc]
        rw [e3, e4, key, ← Nat.pow_add, Nat.mul_assoc, ← Nat.pow_add]
        congr 2; omega
      exact Nat.eq_of_mul_eq_mul_right (Nat.two_pow_pos _) h5
    rw [hdiv, Nat.mul_div_cancel_left _ (by omega), Nat.mul_mod_right]
    show fint (single.nearest (s ^^ false) (2 * (c.natAbs * 2 ^ (q + 25 - r)) + 0) (-149 + (r : Int) - (-149 + (q : Int)) - ((25 : Nat) : Int) - 1)) = _
    rw [Nat.add_zero]
    have hp : -149 + (r : Int) - (-149 + (q : Int)) - ((25 : Nat) : Int) - 1 = -149 + ((123 + r - q : Nat) : Int) := by omega
    rw [hp]
    have hval : 2 * (c.natAbs * 2 ^ (q + 25 - r)) * 2 ^ (123 + r - q) = c.natAbs * 2 ^ 149 := by
      have e6 : q + 25 - r + (123 + r - q) + 1 = 149 := by omega
      have e7 : ∀ C X Y : Nat, 2 * (C * X) * Y = C * (X * Y * 2) := fun C X Y => by ac_rfl
      rw [e7, ← Nat.pow_add, ← Nat.pow_succ]
      exact congrArg (fun k => c.natAbs * 2 ^ k) e6
    have hrep : Rep (2 * (c.natAbs * 2 ^ (q + 25 - r)) * 2 ^ (123 + r - q)) := by
      rw [hval]
      have := rep_small hc
      rwa [Int.natAbs_mul, Int.natAbs_pow] at this
    rw [nearest_rep _ _ _ hrep]
    refine congrArg some ?_
    -- signs
    have hs : s = decide (c < 0) := by
      rw [signed_eq] at h1
      have h4 : (0 : Int) < (m : Int) * 2 ^ r := Int.mul_pos (by omega) (pow_pos' _)
      have h5 : (0 : Int) < 2 ^ 149 := pow_pos' _
      cases s with
      | true =>
        simp only [if_true] at h1
        have : c * d * 2 ^ 149 < 0 := by omega
        have hcd' : c * d < 0 := by
          rcases Int.lt_or_le (c * d) 0 with h | h
          · exact h
          · have := Int.mul_nonneg h (Int.le_of_lt h5); omega
        have : c < 0 := by
          rcases Int.lt_or_le c 0 with h | h
          · exact h
          · have := Int.mul_nonneg h (Int.le_of_lt hd); omega
        simp [this]
      | false =>
        simp only [Bool.false_eq_true, if_false] at h1
        have : 0 < c * d * 2 ^ 149 := by omega
        have : ¬ c < 0 := fun hneg => by
          have h6 : c * d < 0 := Int.mul_neg_of_neg_of_pos hneg hd
          have h7 : c * d * 2 ^ 149 < 0 := Int.mul_neg_of_neg_of_pos h6 h5
          omega
        simp [this]
    rw [Bool.xor_false, hs, signed_eq]
    have hval' : ((2 * (c.natAbs * 2 ^ (q + 25 - r)) : Nat) : Int) * 2 ^ (123 + r - q) = (c.natAbs : Int) * 2 ^ 149 := by exact_mod_cast hval
    rw [hval']
    by_cases hneg : c < 0
    · have e5 : (c.natAbs : Int) = -c := by omega
      simp only [hneg, decide_true, if_true]
      rw [e5]
      simp [Int.neg_mul]
    · have e5 : (c.natAbs : Int) = c := by omega
      simp only [hneg, decide_false, Bool.false_eq_true, if_false]
      rw [e5]; simp

/-! ### What is not finite -/
theorem inf_not (s : Bool) : feq .f32 (fsub .f32 (single.word s single.infRung) (single.word s single.infRung)) 0 = false := by cases s <;> decide +kernel
theorem qnan_not : feq .f32 (fsub .f32 (qnan .f32) (qnan .f32)) 0 = false := by decide +kernel
theorem fadd_absorb {x y : Nat} (h : feq .f32 (fsub .f32 (fadd .f32 x y) (fadd .f32 x y)) 0 = true) : ∃ a, fint x = some a := by
  rcases read_form x with ⟨s, m, r, e, _⟩ | ⟨s, e⟩ | ⟨s, t, e⟩
  · exact ⟨_, fint_of e⟩
  · exfalso
    have key : fadd .f32 x y = qnan .f32 ∨ fadd .f32 x y = single.word s single.infRung := by
      unfold fadd Format.add
      rw [show FloatKind.f32.format = single from rfl, e]
      cases single.read y with
      | number t n j => exact .inr rfl
      | infinity t =>
        by_cases hst : s = t
        · subst hst
          right
          simp [Datum.sum, Format.write]
        · left
          simp [Datum.sum, hst]
      | nan t n => exact .inl rfl
    rcases key with k | k
    · rw [k, qnan_not] at h; cases h
    · rw [k, inf_not] at h; cases h
  · exfalso
    have key : fadd .f32 x y = qnan .f32 := by
      unfold fadd Format.add
      rw [show FloatKind.f32.format = single from rfl, e]; rfl
    rw [key, qnan_not] at h; cases h
theorem fdiv_absorb {x y n : Nat} {j : Int} {t : Bool} (hy : single.read y = .number t n j) (h : feq .f32 (fsub .f32 (fdiv .f32 x y) (fdiv .f32 x y)) 0 = true) : ∃ a, fint x = some a := by
  rcases read_form x with ⟨s, m, r, e, _⟩ | ⟨s, e⟩ | ⟨s, t', e⟩
  · exact ⟨_, fint_of e⟩
  · exfalso
    have key : fdiv .f32 x y = single.word (s ^^ t) single.infRung := by
      unfold fdiv Format.div
      rw [show FloatKind.f32.format = single from rfl, e, hy]; rfl
    rw [key, inf_not] at h; cases h
  · exfalso
    have key : fdiv .f32 x y = qnan .f32 := by
      unfold fdiv Format.div
      rw [show FloatKind.f32.format = single from rfl, e]; rfl
    rw [key, qnan_not] at h; cases h
theorem cut_le_gap (w : Toward) (g : Bool) (n d : Nat) : w.cut g n d ≤ n / 2 ^ min d (n.log2 + 2) + 1 := by
  unfold Toward.cut
  simp only [Nat.one_shiftLeft]
  have : ∀ b : Bool, b.toNat ≤ 1 := fun b => by cases b <;> decide
  exact Nat.add_le_add_left (this _) _
theorem kept_le (g : Bool) (mag : Nat) (place last : Int) (hl3 : place + (mag.log2 : Int) - 23 ≤ last) : Toward.even.cut g (mag <<< (place - last).toNat) (last - place).toNat ≤ 2 ^ 24 := by
  refine Nat.le_trans (cut_le_gap _ _ _ _) ?_
  have hmag : mag < 2 ^ (mag.log2 + 1) := Nat.lt_log2_self
  generalize mag.log2 = L at hl3 hmag
  rcases Int.lt_or_le place last with hp | hp
  · have e1 : (place - last).toNat = 0 := by omega
    rw [e1, Nat.shiftLeft_zero]
    have hL : 2 ^ (L + 1) ≤ 2 ^ 24 * 2 ^ min (last - place).toNat (mag.log2 + 2) ∨ mag < 2 ^ 24 * 2 ^ min (last - place).toNat (mag.log2 + 2) := by
      right
      have h2 : mag < 2 ^ (mag.log2 + 1) := Nat.lt_log2_self
      rw [← Nat.pow_add]
      rcases Nat.lt_or_ge (last - place).toNat (mag.log2 + 2) with h | h
      · rw [Nat.min_eq_left (by omega)]
        exact Nat.lt_of_lt_of_le hmag (Nat.pow_le_pow_right (by decide) (by omega))
      · rw [Nat.min_eq_right h]
        exact Nat.lt_of_lt_of_le h2 (Nat.pow_le_pow_right (by decide) (by omega))
    have hd : mag / 2 ^ min (last - place).toNat (mag.log2 + 2) < 2 ^ 24 := by
      rw [Nat.div_lt_iff_lt_mul (Nat.two_pow_pos _)]
      rcases hL with h | h
      · exact Nat.lt_of_lt_of_le hmag h
      · exact h
    exact hd
  · have e2 : (last - place).toNat = 0 := by omega
    rw [e2, Nat.zero_min, Nat.pow_zero, Nat.div_one, Nat.shiftLeft_eq]
    have h4 : mag * 2 ^ (place - last).toNat < 2 ^ (L + 1) * 2 ^ (place - last).toNat := Nat.mul_lt_mul_of_pos_right hmag (Nat.two_pow_pos _)
    rw [← Nat.pow_add] at h4
    have h5 : (2 : Nat) ^ (L + 1 + (place - last).toNat) ≤ 2 ^ 24 := Nat.pow_le_pow_right (by decide) (by omega)
    exact Nat.lt_of_lt_of_le h4 h5
theorem word_fin (g : Bool) (k : Nat) (h : k < 2139095040) : ∃ a, fint (single.word g k) = some a := by
  have hw : single.signWeight = 2147483648 := rfl
  obtain ⟨e1, e2⟩ := read_word single g k (by rw [hw]; omega)
  unfold fint Format.read
  rw [e1, e2, bin32, inf32]
  dsimp only
  by_cases hb : k < 8388608
  · rw [if_pos hb]; exact ⟨_, rfl⟩
  · rw [if_neg hb, if_pos h]; exact ⟨_, rfl⟩
/-- A number that is not too great is written as a finite one. -/
theorem nearest_fin (g : Bool) (mag : Nat) (place : Int) (h : place + mag.log2 ≤ 126) : ∃ a, fint (single.nearest g mag place) = some a := by
  unfold Format.nearest
  split
  · exact word_fin g 0 (by decide)
  · rw [least32, frac32, bin32, inf32]
    dsimp only
    generalize hlast : max (place + (mag.log2 : Nat) - (23 : Nat)) (-149) = last
    have hl1 : last ≤ 103 := by omega
    have hl2 : -149 ≤ last := by omega
    have hl3 : place + (mag.log2 : Int) - 23 ≤ last := by omega
    have hk := kept_le g mag place last hl3
    generalize Toward.even.cut g (mag <<< (place - last).toNat) (last - place).toNat = k at hk ⊢
    have hr : (last - -149).toNat ≤ 252 := by omega
    generalize (last - -149).toNat = r at hr ⊢
    have hk' : k ≤ 16777216 := hk
    refine word_fin g _ ?_
    omega
theorem fdiv_fin {x y n : Nat} {q : Nat} (hy : single.read y = .number false n (-149 + (q : Nat))) (hn : 8388608 ≤ n) (hn' : n < 16777216) (hq : 127 ≤ q) {a : Int} (hx : fint x = some a) : ∃ b, fint (fdiv .f32 x y) = some b := by
  obtain ⟨s, m, r, e1, _, l1, _, r1⟩ := fint_form hx
  have hlog : n.log2 = 23 := log2_eq (by omega) (by omega)
  unfold fdiv Format.div
  rw [show FloatKind.f32.format = single from rfl, e1, hy]
  show ∃ b, fint (((Datum.quotient (23 + 2) (.number s m (-149 + (r : Nat))) (.number false n (-149 + (q : Nat)))).map single.write).getD (qnan .f32)) = some b
  simp only [Datum.quotient, if_neg (show n ≠ 0 by omega), Option.map_some, Option.getD_some]
  generalize hmore : 23 + 2 + n.log2 - m.log2 = more
  refine nearest_fin _ _ _ ?_
  have hb : 2 * (m <<< more / n) + (m <<< more % n != 0).toNat < 2 ^ (more + 2) := by
    rw [Nat.shiftLeft_eq]
    have h1 : m * 2 ^ more / n < 2 ^ (more + 1) := by
      rw [Nat.div_lt_iff_lt_mul (by omega), Nat.pow_succ, Nat.mul_assoc, Nat.mul_comm (2 ^ more)]
      exact Nat.mul_lt_mul_of_pos_right (by omega) (Nat.two_pow_pos _)
    have h2 : (m * 2 ^ more % n != 0).toNat ≤ 1 := by cases (m * 2 ^ more % n != 0) <;> decide
    have h3 : (2 : Nat) ^ (more + 2) = 2 * 2 ^ (more + 1) := by rw [Nat.pow_succ]; omega
    omega
  generalize 2 * (m <<< more / n) + (m <<< more % n != 0).toNat = mag at hb
  have hl : mag.log2 ≤ more + 1 := by
    rcases Nat.eq_zero_or_pos mag with h | h
    · subst h; simp
    · have := (Nat.log2_lt (k := more + 2) (by omega)).2 hb; omega
  omega
end Go.Ax

/- Lists or none: from evaluations to one answer. -/
namespace Go.Ax
open Go Go.Proofs

section
variable {P : Program} {T : Table} {f : FuncId} {args : List AV} {H0 : List AB}
theorem CallOK.refit {v : AV} {H1 : List AB} {id : Nat} {r : Bool} {A : Cells} {ys : List Nat} (h : CallOK P f args H0 v H1) (hB : getB H1 id = .cells r A) (hA : f32Of A = some ys) : CallOK P f args H0 v (setB H1 id (.cells r (.f32 ys))) := by
  refine h.post ⟨(setB_length _ _ _).symm, fun i => ?_⟩
  by_cases hi : id = i
  · subst hi
    rw [getB_setB_same (getB_lt hB), hB]
    refine ⟨rfl, rfl, fun σ z o hb => ?_⟩
    cases A
    case f32 xs => cases hA; exact hb
    case lit L =>
      obtain ⟨c, e, fr, h1, h2, h3⟩ := hb
      refine ⟨c, e, fr, h1, relA_bare (A := L) ?_ h2, h3⟩
      rw [asF32_bare hA]
      simp [Cells.toL, AV.bare]
    all_goals cases hA
  · rw [getB_setB_ne hi]
    exact ⟨rfl, rfl, fun _ _ _ h => h⟩
theorem out_call {r : Res} {ys : List Nat} {l : Bool} {c : Int} (hT : SoundT P T) (hs : (T f args H0 [] fun v H nd => .ret v H nd).sel = r.sel) (ho : outK H0.length r = some (ys, .i l .i64 c, true)) (hro : ∀ i, (getB H0 i).rw = false) :
    CallOK P f args H0 (uniV H0.length true ys.length c) (H0 ++ [uniB true ys]) := by
  unfold outK at ho
  split at ho <;> (try (cases ho; done))
  rename_i v H nd
  split at ho <;> (try (cases ho; done))
  split at ho <;> (try (cases ho; done))
  rename_i k l' id off len z
  split at ho <;> (try (cases ho; done))
  rename_i hc
  split at ho <;> (try (cases ho; done))
  rename_i rw A hg
  split at ho <;> (try (cases ho; done))
  rename_i xs hA
  split at ho <;> (try (cases ho; done))
  rename_i hlen
  simp only [Option.some.injEq, Prod.mk.injEq] at ho
  obtain ⟨rfl, rfl, hnd⟩ := ho
  simp only [Bool.and_eq_true] at hc
  obtain ⟨h0, hz, hid⟩ := hc
  have h0 := Nat.eq_of_beq_eq_true h0
  have hlen := Nat.eq_of_beq_eq_true hlen
  subst h0; subst hlen
  have hcall := (call_of_sel hT (v := .tup [.sl l' id 0 xs.length z, .i l .i64 c]) (H' := H) (nd := nd) hs hnd).refit hg hA
  exact uni_good hcall hro (Nat.le_of_ble_eq_true hid) (blt_true hz) (getB_setB_same (getB_lt hg))
theorem bad_call {r : Res} {c : Nat} (hT : SoundT P T) (hs : (T f args H0 [] fun v H nd => .ret v H nd).sel = r.sel) (ho : badK H0.length c r = true) (hro : ∀ i, (getB H0 i).rw = false) (n : Nat) (ys : List Nat) :
    CallOK P f args H0 (uniV H0.length false n (Int.ofNat c)) (H0 ++ [uniB false ys]) := by
  unfold badK at ho
  split at ho <;> (try (cases ho; done))
  rename_i v H nd
  split at ho <;> (try (cases ho; done))
  rename_i s k
  split at ho <;> (try (cases ho; done))
  rename_i l m
  simp only [Bool.and_eq_true] at ho
  obtain ⟨hm, hnd, ho⟩ := ho
  rw [eqL_eq, beq_iff_eq] at hm
  subst hm
  have hcall := call_of_sel hT (v := .tup [s, .i l .i64 (Int.ofNat c)]) (H' := H) (nd := nd) hs hnd
  split at ho <;> (try (cases ho; done))
  · split at ho <;> (try (cases ho; done))
    rename_i r A hg
    exact uni_bad hcall hro (Nat.le_refl _) hg
  · rename_i l' id off len z
    simp only [Bool.and_eq_true] at ho
    obtain ⟨h0, hl, hid, ho⟩ := ho
    have h0 := Nat.eq_of_beq_eq_true h0
    have hl := Nat.eq_of_beq_eq_true hl
    subst h0; subst hl
    split at ho <;> (try (cases ho; done))
    rename_i r hg
    exact uni_empty hcall hro (Nat.le_of_ble_eq_true hid) hg
theorem chain_cases (k0 c : Nat) : ∀ (n : Nat) (r : Res), offK k0 c n r = true → (allT (condsP r (List.replicate n false)) = true ∧ r.sel = (r.at (List.replicate n false)).sel) ∨ (allT (condsP r (List.replicate n false)) = false ∧ ∃ x, badK k0 c x = true ∧ r.sel = x.sel)
  | 0, r, _ => .inl ⟨by cases r <;> rfl, by cases r <;> rfl⟩
  | n + 1, .ite b x y, h => by
    simp only [offK, Bool.and_eq_true] at h
    rw [List.replicate_succ]
    simp only [condsP, allT, Res.at, Res.sel]
    cases b with
    | true => exact .inr ⟨rfl, x, h.1, rfl⟩
    | false =>
      rcases chain_cases k0 c n y h.2 with ⟨h1, h2⟩ | ⟨h1, x', h2, h3⟩
      · exact .inl ⟨by simp [h1], h2⟩
      · exact .inr ⟨by simp [h1], x', h2, h3⟩
  | n + 1, .ret _ _ _, h => by cases h
  | n + 1, .stop _ _ _ _, h => by cases h
  | n + 1, .fail, h => by cases h
theorem offB_K (c : Nat) : ∀ (n : Nat) (r : Res), offB c n r = offK 1 c n r
  | 0, _ => rfl
  | n + 1, .ite b x y => by
    simp only [offB, offK, offB_K c n y]
    rfl
  | n + 1, .ret _ _ _ => rfl
  | n + 1, .stop _ _ _ _ => rfl
  | n + 1, .fail => rfl
end

/-! ### Sums that are finite -/
theorem finB_iff {x : Nat} : finB x = true ↔ ∃ a, fint x = some a := ⟨fun h => finB_fint h, fun ⟨_, h⟩ => fint_finB h⟩
theorem acc_prefix {t : Nat → Nat} {m : Nat} : ∀ {k : Nat}, m ≤ k → finB (accF t k) = true → finB (accF t m) = true
  | 0, h, hf => by
    have : m = 0 := by omega
    subst this; exact hf
  | k + 1, h, hf => by
    by_cases hm : m = k + 1
    · subst hm; exact hf
    · exact acc_prefix (k := k) (by omega) (finB_iff.2 (fadd_absorb hf))
theorem allT_map {α : Type} (l : List α) (g : α → Bool) : allT (l.map g) = true ↔ ∀ x ∈ l, g x = true := by
  induction l with
  | nil => simp [allT]
  | cons a l ih => simp [allT, ih]
theorem finL_iff (xs : List Nat) : finL xs = true ↔ ∀ j, j < xs.length → finB (xs.getD j 0) = true := by
  unfold finL
  rw [allN_iff]
  constructor
  · intro h j hj
    have := h j hj
    simpa [finI] using this
  · intro h j hj
    have := h j hj
    simpa [finI] using this
theorem finL_map (n : Nat) (g : Nat → Nat) : finL ((List.range n).map g) = true ↔ ∀ k, k < n → finB (g k) = true := by
  rw [finL_iff]
  constructor
  · intro h k hk
    have := h k (by simpa using hk)
    rwa [List.getD_eq_getElem?_getD, List.getElem?_map, List.getElem?_range hk] at this
  · intro h k hk
    have hk : k < n := by simpa using hk
    rw [List.getD_eq_getElem?_getD, List.getElem?_map, List.getElem?_range hk]
    exact h k hk
/-- The tests of the sums on the way are the test of the sums. -/
theorem tests_eq {n : Nat} {T : Nat → Nat → Nat} {D : Nat → Nat} (hn : 0 < n) (hD : ∀ s, finB (D s) = finB s) : allT (testL n T) = finL (sumL n T D) := by
  rw [Bool.eq_iff_iff]
  unfold testL sumL
  rw [allT_map, finL_map]
  constructor
  · intro h k hk
    have h1 := h (k * n + (n - 1)) (by
      rw [List.mem_range]
      have : (k + 1) * n ≤ n * n := Nat.mul_le_mul_right _ hk
      rw [Nat.succ_mul] at this
      omega)
    have e1 : (k * n + (n - 1)) / n = k := by rw [Nat.add_comm, Nat.add_mul_div_right _ _ hn, Nat.div_eq_of_lt (by omega), Nat.zero_add]
    have e2 : Nat.succ ((k * n + (n - 1)) % n) = n := by rw [Nat.add_comm, Nat.add_mul_mod_self_right, Nat.mod_eq_of_lt (by omega)]; omega
    rw [e1, e2, Bool.not_not] at h1
    rw [hD]; exact h1
  · intro h i hi
    rw [List.mem_range] at hi
    rw [Bool.not_not]
    have hk : i / n < n := Nat.div_lt_of_lt_mul hi
    have := h (i / n) hk
    rw [hD] at this
    exact acc_prefix (Nat.mod_lt _ hn) this
theorem xL_eq (xs : List Nat) : xL xs.length (fun j => xs.getD j 0) = xs := by
  have := map_range_getD (fun z : Nat => z) 0 xs xs.length rfl
  simpa [xL] using this.symm
end Go.Ax

/- Functions that draw a value out of a text of bytes: table rows. -/
namespace Go.Ax
open Go Go.Proofs

/-- A call that only reads the bytes leaves every memory that begins with them as it was. -/
theorem CallOK.read {P : Program} {f : FuncId} {args : List AV} {v : AV} {c : Cd} {H1 : List AB} (h : CallOK P f args [codeB c false] v H1) (hv : below 0 v = true) (ha : belowL 1 args = true) (Hr : List AB) :
    CallOK P f args (codeB c false :: Hr) v (codeB c false :: Hr) := fun σ w rargs s hra => by
  have hl : 0 < σ.length := by rw [s.len]; simp
  obtain ⟨x, hx⟩ : ∃ x, σ[0]? = some x := ⟨_, List.getElem?_eq_getElem hl⟩
  have e0 : Ext [x] σ := fun i b hb => by
    match i, hb with
    | 0, hb => cases hb; exact hx
    | i + 1, hb => simp at hb
  have s0 : Sim [x] [codeB c false] w := by
    refine ⟨rfl, fun i b z hb => ?_, fun i j b z z' hi hj hr _ => ?_⟩
    · match i, hb with
      | 0, hb =>
        cases hb
        exact low_blk e0 rfl (by rfl : lowB 1 (codeB c false) = true) (s.blk 0 b z hx)
      | i + 1, hb => simp at hb
    · match i, hi with
      | 0, _ => simp [getB, codeB, AB.rw] at hr
      | i + 1, hi => simp at hi
  refine (h [x] w rargs s0 (belowL_rel e0 rfl ha hra)).mono ?_
  rintro e w' ⟨rv, rfl, σ', r1, s1, f1⟩
  have hE : ∀ τ : List (Nat × Nat), Ext [] τ := fun τ i b hb => by simp at hb
  refine ⟨rv, rfl, σ, (below_rel (σ := []) (τ := σ') (hE _) rfl hv r1).mono (hE _), ?_⟩
  have f2 : Fr σ (roH (codeB c false :: Hr)) w σ (roH (codeB c false :: Hr)) w' := ⟨f1.os, f1.tape, f1.output, f1.size, fun b hb _ => f1.old b hb fun i z hr => by
      match i with
      | 0 => simp [getB, codeB, AB.rw] at hr
      | i + 1 => simp [getB, AB.rw] at hr, Ext.refl σ, fun i b z h h' => (by rw [h'] at h; cases h), fun i _ h => h⟩
  exact s.ro_back f2

/-- The ways of a result joined; what is asked is asked on all ways. -/
def flatR : Res → Option (AV × List Bool)
  | .ret v _ nd => match below 0 v with
    | true => some (v, nd)
    | false => none
  | .fail => none
  | .stop _ _ _ _ => none
  | .ite b x y => match flatR x, flatR y with
    | some (v, nd), some (v', nd') => match mergeV b v v' with
      | some z => some (z, nd ++ nd')
      | none => none
    | _, _ => none
theorem flatR_spec : ∀ {r : Res} {v : AV} {nd : List Bool}, flatR r = some (v, nd) → allT nd = true →
    ∃ v' H' nd', r.sel = .ret v' H' nd' ∧ allT nd' = true ∧ below 0 v' = true ∧ ∀ (σ : List (Nat × Nat)) (x : Value), Rel σ v' x → Rel σ v x
  | .ret v0 H0 nd0, v, nd, hj, hn => by
    simp only [flatR] at hj
    split at hj <;> cases hj
    rename_i hb
    exact ⟨_, H0, _, rfl, hn, hb, fun _ _ r => r⟩
  | .fail, v, nd, hj, hn => by simp [flatR] at hj
  | .stop _ _ _ _, v, nd, hj, hn => by simp [flatR] at hj
  | .ite b x y, v, nd, hj, hn => by
    simp only [flatR] at hj
    split at hj <;> (try (cases hj; done))
    rename_i v1 nd1 v2 nd2 e1 e2
    split at hj <;> cases hj
    rename_i hz
    rw [allT_append, Bool.and_eq_true] at hn
    cases b with
    | true =>
      obtain ⟨v', H', nd', g1, g2, g3, g4⟩ := flatR_spec e1 hn.1
      exact ⟨v', H', nd', g1, g2, g3, fun σ x r => mergeV_left hz (g4 σ x r)⟩
    | false =>
      obtain ⟨v', H', nd', g1, g2, g3, g4⟩ := flatR_spec e2 hn.2
      exact ⟨v', H', nd', g1, g2, g3, fun σ x r => mergeV_right hz (g4 σ x r)⟩

/-- What a drawing function must be: some value of a form, whatever memory is behind the bytes. -/
def DrawOK (P : Program) (f : FuncId) (c : Cd) (v : AV) : Prop := ∀ Hr, CallOK P f [.sl false 0 c.off c.len 0] (codeB c false :: Hr) v (codeB c false :: Hr)
def drawEx {α : Type} (F : Form α) (r : Res) : Option (α × List Bool) :=
  match flatR r with
  | some (v, nd) => match F.get v with
    | some x => some (x, nd)
    | none => none
  | none => none
theorem drawOK_of {α : Type} {F : Form α} {P : Program} {T : Table} {f : FuncId} {c : Cd} {x : α} {nd : List Bool} (hT : SoundT P T)
    (he : drawEx F (T f [.sl false 0 c.off c.len 0] [codeB c false] [] fun v H nd => .ret v H nd) = some (x, nd)) (hn : allT nd = true) : DrawOK P f c (F.val x) := fun Hr => by
  unfold drawEx at he
  split at he <;> (try (cases he; done))
  rename_i v nd1 hj
  split at he <;> cases he
  rename_i hx
  obtain ⟨v', H', nd', g1, g2, g3, g4⟩ := flatR_spec hj hn
  exact ((call_of_sel hT g1 g2).read g3 rfl Hr).weaken fun σ y r => F.rel hx σ y (g4 σ y r)
theorem drawOK_some {α : Type} {F : Form α} {P : Program} {T : Table} {f : FuncId} {c : Cd} {m : Nat} (hT : SoundT P T) (hc : goodB c = true)
    (hn : ((drawEx F (T f [.sl false 0 c.off c.len 0] [codeB c false] [] fun v H nd => .ret v H nd)).map fun r => r.2) = some (List.replicate m (okB c c.off c.len))) : ∃ x, DrawOK P f c (F.val x) := by
  cases hr : drawEx F (T f [.sl false 0 c.off c.len 0] [codeB c false] [] fun v H nd => .ret v H nd) with
  | none => rw [hr] at hn; cases hn
  | some r =>
    obtain ⟨x, nd⟩ := r
    rw [hr] at hn
    simp only [Option.map_some, Option.some.injEq] at hn
    refine ⟨x, drawOK_of hT hr ?_⟩
    have hok : okB c c.off c.len = true := by simp [okB, hc]
    rw [hn, hok]
    exact allT_rep m

def formI : Form Int where
  get := fun | .i _ .i64 x => some x | _ => none
  val := fun x => .i false .i64 x
  rel := fun {v x} h σ y r => by
    split at h <;> cases h
    cases r; exact .i _ _
  low := fun _ => rfl
noncomputable def tab3 : Table := deep Try.prog rows3 [95] 2000 6
theorem tab3_sound : SoundT Try.prog tab3 := deep_sound (allAt_mem rows3_at) 6
theorem drawPhase_nd (c : Cd) : ((drawEx formI (runF Try.prog tab3 1000 9 [.sl false 0 c.off c.len 0] [codeB c false] [] fun v H nd => .ret v H nd)).map fun r => r.2) = some (List.replicate 20 (okB c c.off c.len)) := by kernel_rfl
theorem drawPhase_ok {c : Cd} (hc : goodB c = true) : ∃ k, DrawOK Try.prog 9 c (.i false .i64 k) := drawOK_some (F := formI) (runF_sound tab3_sound 1000) hc (drawPhase_nd c)
end Go.Ax

/- spec.l01Next as a table's row: numbers below a bound are told one by one. -/
namespace Go.Ax
open Go Go.Proofs

noncomputable def nextM (mx : Int) : Table := fun _ args H nd K =>
  match args with
  | [p, .i l .i64 n] => match p with
    | .p _ id off => match readCode (getB H 0), readSrc (getB H id), decide (off = 0) && !decide (id = 0) with
      | some (o', b), some (o, m, a, h), true =>
        match l && decide (1 ≤ n) && decide (n ≤ mx) with
        | true => splitK (fun v => K v (setB H id (srcR o m (nxA ⟨b, o', m⟩ a n) (nxS h n))) (okB ⟨b, o', m⟩ o m :: nd)) (nxV ⟨b, o', m⟩ a h n) (n.toNat - 1)
        | false => K (.i false .i64 (nxV ⟨b, o', m⟩ a h n)) (setB H id (srcR o m (nxA ⟨b, o', m⟩ a n) (nxS h n))) (okB ⟨b, o', m⟩ o m :: nd)
      | _, _, _ => .fail
    | _ => .fail
  | _ => .fail

theorem nextM_at (mx : Int) : SoundAt Try.prog 96 (nextM mx) := fun args H nd K => by
  unfold nextM
  split
  case h_2 => exact .inl rfl
  rename_i p l n
  split
  case h_2 => exact .inl rfl
  rename_i lp id off
  split
  case h_2 => exact .inl rfl
  rename_i o' b o m a h hc hs h0
  simp only [Bool.and_eq_true, decide_eq_true_eq, Bool.not_eq_true', decide_eq_false_iff_not] at h0
  obtain ⟨rfl, h0⟩ := h0
  have main : ∀ v : AV, (okB ⟨b, o', m⟩ o m = true → v.bare = .i false .i64 (nxV ⟨b, o', m⟩ a h n)) → allT (okB ⟨b, o', m⟩ o m :: nd) = true →
      allT nd = true ∧ CallOK Try.prog 96 [.p lp id 0, .i l .i64 n] H v (setB H id (srcR o m (nxA ⟨b, o', m⟩ a n) (nxS h n))) := fun v hv hn => by
    simp only [allT, Bool.and_eq_true] at hn
    have hg : goodB ⟨b, o', m⟩ = true := by have := hn.1; simp only [okB, Bool.and_eq_true] at this; exact this.1.1
    have ho : o = o' := by have := hn.1; simp only [okB, Bool.and_eq_true, decide_eq_true_eq] at this; exact this.1.2
    subst ho
    obtain ⟨H2, k, e1, e2, e3⟩ := next_ok hg a h n
    refine ⟨hn.2, ?_⟩
    have hk := (k.src e1 e2 e3 (l := lp) (id := id) (H := H) hc h0 hs).bare (args' := [.p lp id 0, .i l .i64 n]) rfl
    refine hk.weaken fun σ x r => ?_
    have := hv hn.1
    rw [← this] at r
    exact r.unbare
  split
  · rename_i hl
    simp only [Bool.and_eq_true, decide_eq_true_eq] at hl
    obtain ⟨k, e1, e2⟩ := splitK_sel (fun v => K v (setB H id (srcR o m (nxA ⟨b, o', m⟩ a n) (nxS h n))) (okB ⟨b, o', m⟩ o m :: nd)) (nxV ⟨b, o', m⟩ a h n) (n.toNat - 1)
    refine .inr ⟨_, _, _, e1, fun hn => main _ (fun hk => ?_) hn⟩
    have hg : goodB ⟨b, o', m⟩ = true := by simp only [okB, Bool.and_eq_true] at hk; exact hk.1.1
    have hb := nxV_bound hg a h n
    have hb2 := hb.2 hl.1.2
    have := e2 hb.1 (by omega)
    rw [this]; rfl
  · exact .inr ⟨_, _, _, rfl, fun hn => main _ (fun _ => rfl) hn⟩


noncomputable def rows4 (mx : Int) : List (FuncId × Table) := (96, nextM mx) :: rows3
theorem rows4_at (mx : Int) : allAt Try.prog (rows4 mx) := ⟨nextM_at mx, rows3_at⟩
noncomputable def tab4 (mx : Int) : Table := deep Try.prog (rows4 mx) [95] 2000 6
theorem tab4_sound (mx : Int) : SoundT Try.prog (tab4 mx) := deep_sound (allAt_mem (rows4_at mx)) 6
def formI3 : Form (Int × Int × Int) where
  get := fun
    | .tup [a, b, c] => match formI.get a, formI.get b, formI.get c with
      | some x, some y, some z => some (x, y, z)
      | _, _, _ => none
    | _ => none
  val := fun x => .tup [.i false .i64 x.1, .i false .i64 x.2.1, .i false .i64 x.2.2]
  rel := fun {v x} h σ y r => by
    split at h <;> (try (cases h; done))
    split at h <;> cases h
    rename_i a b c x1 x2 x3 h1 h2 h3
    cases r with | tup hr =>
    generalize hal : Array.toList _ = al at hr
    cases hr with | cons r1 hr => cases hr with | cons r2 hr => cases hr with | cons r3 hr => cases hr with | nil =>
    refine .tup ?_
    rw [hal]
    exact .cons (formI.rel h1 σ _ r1) (.cons (formI.rel h2 σ _ r2) (.cons (formI.rel h3 σ _ r3) .nil))
  low := fun _ => rfl
theorem drawPlane_nd (c : Cd) : ((drawEx formI3 (runF Try.prog (tab4 7) 1000 12 [.sl false 0 c.off c.len 0] [codeB c false] [] fun v H nd => .ret v H nd)).map fun r => r.2) = some (List.replicate 224 (okB c c.off c.len)) := by kernel_rfl
theorem drawPlane_ok {c : Cd} (hc : goodB c = true) : ∃ x : Int × Int × Int, DrawOK Try.prog 12 c (formI3.val x) := drawOK_some (F := formI3) (runF_sound (tab4_sound 7) 1000) hc (drawPlane_nd c)
end Go.Ax

/- Drawing functions that give lists. -/
namespace Go.Ax
open Go Go.Proofs

def fitN (n : Nat) (xs : List Nat) : List Nat := (List.range n).map fun j => xs.getD j 0
theorem fitN_eq {n : Nat} {xs : List Nat} (h : xs.length = n) : fitN n xs = xs := by
  subst h
  have := map_range_getD (fun z : Nat => z) 0 xs xs.length rfl
  simpa [fitN] using this.symm
/-- Like 'l10T', with the list's length to be seen. -/
noncomputable def l10F : Table := fun _ args H nd K =>
  match args, H with
  | [p, .i l .i64 n], B :: S :: Hr => match p with
    | .p _ id off => match readCode B, readSrc S, decide (off = 0) && decide (id = 1) with
      | some (o', b), some (o, m, a, h), true => match chk l (decide (0 ≤ n) && decide (n ≤ 5000)) with
        | some q => K (.sl l (Hr.length + 2) 0 n.toNat 1) (B :: srcR o m (l10V ⟨b, o', m⟩ a h n).2.1 (l10V ⟨b, o', m⟩ a h n).2.2 :: (Hr ++ [.cells true (.f32 (fitN n.toNat (l10V ⟨b, o', m⟩ a h n).1))])) (okB ⟨b, o', m⟩ o m :: (q ++ nd))
        | none => .fail
      | _, _, _ => .fail
    | _ => .fail
  | _, _ => .fail
theorem fit_l10 (c : Cd) (a : Nat) (h n : Int) : fitN n.toNat (l10V c a h n).1 = (l10V c a h n).1 := fitN_eq (l10V_length _ _ _ _)
theorem l10F_eq : l10F = l10T := by
  funext f args H nd K
  unfold l10F l10T
  simp only [fit_l10]
  rfl
noncomputable def rowsDL (mx : Int) : List (FuncId × Table) := (135, l10F) :: rows4 mx
theorem rowsDL_at (mx : Int) : allAt Try.prog (rowsDL mx) := ⟨by rw [l10F_eq]; exact l10_at, rows4_at mx⟩
def inlD : List FuncId := [95, 47, 50, 53, 56, 142, 143, 59]
noncomputable def tabDL (mx : Int) : Table := tabOf (cdeep Try.prog (rowsDL mx) inlD 2000 6)
theorem tabDL_sound (mx : Int) : SoundT Try.prog (tabDL mx) := cdeep_sound (allAt_mem (rowsDL_at mx)) 6

/-! ### All answers -/
structure LeafR where
  v : AV
  H : List AB
  nd : List Bool
def Res.rets : Res → List LeafR
  | .ret v H nd => [⟨v, H, nd⟩]
  | .ite _ x y => x.rets ++ y.rets
  | .stop _ _ _ _ => []
  | .fail => []
def Res.allRet : Res → Bool
  | .ret _ _ _ => true
  | .ite _ x y => x.allRet && y.allRet
  | .stop _ _ _ _ => false
  | .fail => false
theorem Res.rets_sel : ∀ {r : Res}, r.allRet = true → ∃ x ∈ r.rets, r.sel = .ret x.v x.H x.nd
  | .ret v H nd, _ => ⟨⟨v, H, nd⟩, by simp [Res.rets], rfl⟩
  | .ite b x y, h => by
    simp only [Res.allRet, Bool.and_eq_true] at h
    cases b with
    | true =>
      obtain ⟨z, h1, h2⟩ := Res.rets_sel h.1
      exact ⟨z, by simp [Res.rets, h1], h2⟩
    | false =>
      obtain ⟨z, h1, h2⟩ := Res.rets_sel h.2
      exact ⟨z, by simp [Res.rets, h1], h2⟩
  | .stop _ _ _ _, h => by cases h
  | .fail, h => by cases h
/-- The list that an answer names: its length, where it is known. -/
def lenR (x : LeafR) : Option Nat := match x.v with
  | .sl _ id off len z => match Nat.beq off 0 && Nat.blt 0 z && Nat.blt 0 id with
    | true => match getB x.H id with
      | .cells _ (.f32 xs) => match Nat.beq xs.length len with
        | true => some len
        | false => none
      | _ => none
    | false => none
  | _ => none
noncomputable def drawR (T : Table) (f : FuncId) (c : Cd) : Res := T f [.sl false 0 c.off c.len 0] [codeB c false] [] fun v H nd => .ret v H nd
/-- A drawing function that gives a list: whatever memory there is. -/
def DrawL (f : FuncId) (c : Cd) (xs : List Nat) : Prop := ∀ Hr, CallOK Try.prog f [.sl false 0 c.off c.len 0] (codeB c false :: Hr) (.sl false (Hr.length + 1) 0 xs.length 1) (codeB c false :: (Hr ++ [.cells false (.f32 xs)]))
theorem keep1s {P : Program} {f : FuncId} {args : List AV} {H0 H1 : List AB} {l r : Bool} {id off len z : Nat} {ys : List Nat} (h : CallOK P f args H0 (.sl l id off len z) H1) (hro : ∀ i, (getB H0 i).rw = false) (hid : H0.length ≤ id) (hB : getB H1 id = .cells r (.f32 ys)) :
    CallOK P f args H0 (.sl l H0.length off len z) (H0 ++ [.cells false (.f32 ys)]) := fun σ w rargs s hra => by
  refine (h σ w rargs s hra).mono ?_
  rintro e w' ⟨rv, rfl, σ1, r1, s1, F⟩
  have hold : ∀ b, b < w.heap.size → w'.heap[b]? = w.heap[b]? := fun b hb => F.old b hb fun i z hr => by rw [hro] at hr; cases hr
  have hlt : id < σ1.length := by rw [s1.len]; exact getB_lt hB
  obtain ⟨b0, z0, hb0⟩ : ∃ b0 z0, σ1[id]? = some (b0, z0) := ⟨(σ1[id]).1, (σ1[id]).2, by rw [List.getElem?_eq_getElem hlt]⟩
  have hnew : σ[id]? = none := List.getElem?_eq_none (by rw [s.len]; exact hid)
  have hge : w.heap.size ≤ b0 := by
    rcases F.new id b0 z0 hb0 hnew with h' | ⟨j, z', hj, _⟩
    · exact h'
    · rw [hro] at hj; cases hj
  have gl : ∀ i, i < H0.length → getB (H0 ++ [.cells false (.f32 ys)]) i = getB H0 i := fun i hi => getB_append_left hi
  have hrw : ∀ i, (getB (H0 ++ [.cells false (.f32 ys)]) i).rw = false := fun i => by
    rcases Nat.lt_or_ge i H0.length with hi | hi
    · rw [gl i hi]; exact hro i
    · rw [getB_append_right hi]
      match i - H0.length with
      | 0 => rfl
      | k + 1 => rfl
  have hσl := s.len
  refine ⟨rv, rfl, σ ++ [(b0, z0)], ?_, ⟨by simp [s.len], fun i b z hbz => ?_, fun i j b z z' _ _ hr _ => by rw [hrw] at hr; cases hr⟩, ⟨F.os, F.tape, F.output, F.size, fun b hb _ => hold b hb, Ext.append _ _, fun i b z hbz hn => ?_, fun i hi hr => by rw [hrw] at hr; cases hr⟩⟩
  · cases r1 with
    | sl h1 h2 h3 =>
      rw [hb0] at h1
      cases h1
      refine .sl ?_ h2 h3
      rw [List.getElem?_append_right (by omega), hσl, Nat.sub_self]; rfl
    | slz => exact .slz
  · rcases snoc_cases hbz with ⟨hi, hb'⟩ | ⟨rfl, hb'⟩
    · rw [gl i (by omega)]
      have hbl := (s.blk i b z hb').mono (Ext.append σ [(b0, z0)])
      cases hg : getB H0 i with
      | dead => trivial
      | cells r A => rw [hold b (s.lt hb' (by rw [hg]; rfl)), ← hg]; exact hbl
      | code o xs => rw [hold b (s.lt hb' (by rw [hg]; rfl)), ← hg]; exact hbl
    · cases hb'
      rw [getB_append_right (by omega), hσl, Nat.sub_self]
      have := s1.blk id _ _ hb0
      rw [hB] at this
      exact ro_f32 this
  · rcases snoc_cases hbz with ⟨hi, hb'⟩ | ⟨rfl, hb'⟩
    · rw [hn] at hb'; cases hb'
    · cases hb'; exact .inl hge
theorem drawL_of {T : Table} {f : FuncId} {c : Cd} {qs : List (Nat × Nat)} (hT : SoundT Try.prog T) (hc : goodB c = true) (ha : (drawR T f c).allRet = true)
    (h : (drawR T f c).rets.map (fun x => (lenR x, x.nd)) = qs.map fun q => (some q.2, List.replicate q.1 (okB c c.off c.len))) : ∃ xs, xs.length ∈ qs.map (·.2) ∧ DrawL f c xs := by
  obtain ⟨x, hx, hs⟩ := Res.rets_sel ha
  have hm : (lenR x, x.nd) ∈ qs.map fun q => (some q.2, List.replicate q.1 (okB c c.off c.len)) := by
    rw [← h]; exact List.mem_map.2 ⟨x, hx, rfl⟩
  obtain ⟨q, hq, he⟩ := List.mem_map.1 hm
  simp only [Prod.mk.injEq] at he
  obtain ⟨e1, e2⟩ := he
  have hk : okB c c.off c.len = true := by simp [okB, hc]
  have hnd : allT x.nd = true := allT_of fun b hb => by
    rw [← e2] at hb
    have := (List.mem_replicate.1 hb).2
    rw [this, hk]
  have hcall := call_of_sel hT hs hnd
  unfold lenR at e1
  split at e1 <;> (try (cases e1; done))
  rename_i l id off len z hv
  split at e1 <;> (try (cases e1; done))
  rename_i hcond
  split at e1 <;> (try (cases e1; done))
  rename_i r xs hg
  split at e1 <;> cases e1
  rename_i hlen
  simp only [Bool.and_eq_true] at hcond
  obtain ⟨⟨h0, hz⟩, hid⟩ := hcond
  have h0 := Nat.eq_of_beq_eq_true h0
  have hlen := Nat.eq_of_beq_eq_true hlen
  subst h0
  rw [← hlen] at hv
  rw [hv] at hcall
  have k1 := keep1s hcall (fun i => by match i with
    | 0 => rfl
    | i + 1 => rfl) (blt_true hid) hg
  refine ⟨xs, List.mem_map.2 ⟨q, hq, hlen.symm⟩, fun Hr => ?_⟩
  have k2 := k1.frame rfl rfl rfl Hr
  have e : frameH [codeB c false] Hr ([codeB c false] ++ [.cells false (.f32 xs)]) = codeB c false :: (Hr ++ [.cells false (.f32 xs)]) := rfl
  rw [e] at k2
  refine k2.weaken fun σ v r => ?_
  have e2 : upV [codeB c false].length Hr.length (.sl l [codeB c false].length 0 xs.length z) = .sl l (1 + Hr.length) 0 xs.length z := rfl
  rw [e2, Nat.add_comm] at r
  exact sl_z1 r (blt_true hz)
theorem shadow_all (c : Cd) : (drawR (tabDL 7) 47 c).allRet = true := by kernel_rfl
def shadowQ : List (Nat × Nat) := [(3, 5), (3, 31), (3, 23), (3, 19), (3, 11), (3, 7), (3, 3)]
theorem shadow_rets (c : Cd) : (drawR (tabDL 7) 47 c).rets.map (fun x => (lenR x, x.nd)) = shadowQ.map fun q => (some q.2, List.replicate q.1 (okB c c.off c.len)) := by kernel_rfl
theorem drawShadow_ok {c : Cd} (hc : goodB c = true) : ∃ xs, xs.length ∈ shadowQ.map (·.2) ∧ DrawL 47 c xs := drawL_of (tabDL_sound 7) hc (shadow_all c) (shadow_rets c)
end Go.Ax

/- Drawing functions that give lists, whatever way the lists were made. -/
namespace Go.Ax
open Go Go.Proofs

/-- The length of the list that an answer names. -/
def lenF (x : LeafR) : Option Nat := match x.v with
  | .sl _ id off len z => match Nat.beq off 0 && (Nat.blt 0 z && Nat.blt 0 id) with
    | true => match getB x.H id with
      | .cells _ A => match f32Of A with
        | some xs => match Nat.beq xs.length len with
          | true => some len
          | false => none
        | none => none
      | _ => none
    | false => none
  | _ => none
def lenOK (ok : Nat → Bool) (x : LeafR) : Bool := match lenF x with
  | some n => ok n
  | none => false
theorem code_ro (c : Cd) : ∀ i, (getB [codeB c false] i).rw = false := fun i => by
  match i with
  | 0 => rfl
  | i + 1 => rfl
theorem lenF_spec {f : FuncId} {c : Cd} {x : LeafR} {n : Nat} (h : lenF x = some n) (hk : CallOK Try.prog f [.sl false 0 c.off c.len 0] [codeB c false] x.v x.H) : ∃ xs, xs.length = n ∧ DrawL f c xs := by
  unfold lenF at h
  split at h <;> (try (cases h; done))
  rename_i l id off len z hv
  split at h <;> (try (cases h; done))
  rename_i hcond
  split at h <;> (try (cases h; done))
  rename_i r A hg
  split at h <;> (try (cases h; done))
  rename_i xs hA
  split at h <;> cases h
  rename_i hlen
  simp only [Bool.and_eq_true] at hcond
  obtain ⟨h0, hz, hid⟩ := hcond
  have h0 := Nat.eq_of_beq_eq_true h0
  have hlen := Nat.eq_of_beq_eq_true hlen
  subst h0
  rw [← hlen] at hv
  rw [hv] at hk
  have k0 := hk.refit hg hA
  have k1 := keep1s k0 (code_ro c) (blt_true hid) (getB_setB_same (getB_lt hg))
  refine ⟨xs, hlen, fun Hr => ?_⟩
  have k2 := k1.frame rfl rfl rfl Hr
  have e : frameH [codeB c false] Hr ([codeB c false] ++ [.cells false (.f32 xs)]) = codeB c false :: (Hr ++ [.cells false (.f32 xs)]) := rfl
  rw [e] at k2
  refine k2.weaken fun σ v r => ?_
  have e2 : upV [codeB c false].length Hr.length (.sl l [codeB c false].length 0 xs.length z) = .sl l (1 + Hr.length) 0 xs.length z := rfl
  rw [e2, Nat.add_comm] at r
  exact sl_z1 r (blt_true hz)
theorem drawF_of {T : Table} {f : FuncId} {c : Cd} {ok : Nat → Bool} (hT : SoundT Try.prog T) (hc : goodB c = true) (ha : (drawR T f c).allRet = true) (hl : (drawR T f c).rets.all (lenOK ok) = true)
    {G : List (List Bool)} (hn : (drawR T f c).rets.map (fun x => x.nd) = G) (hG : okB c c.off c.len = true → ∀ l ∈ G, allT l = true) : ∃ xs, ok xs.length = true ∧ DrawL f c xs := by
  obtain ⟨x, hx, hs⟩ := Res.rets_sel ha
  have hk : okB c c.off c.len = true := by simp [okB, hc]
  have hnd : allT x.nd = true := hG hk _ (hn ▸ List.mem_map.2 ⟨x, hx, rfl⟩)
  have hcall := call_of_sel hT hs hnd
  have h1 := List.all_eq_true.1 hl x hx
  unfold lenOK at h1
  split at h1
  · rename_i n hlen
    obtain ⟨xs, e, hd⟩ := lenF_spec hlen hcall
    exact ⟨xs, by rw [e]; exact h1, hd⟩
  · cases h1

/-! ### Two lists -/
/-- Of what a call made only its two lists are kept. -/
theorem keep2s {P : Program} {f : FuncId} {args : List AV} {H0 H1 : List AB} {l r l' r' : Bool} {id off len z id' off' len' z' : Nat} {ys zs : List Nat} (h : CallOK P f args H0 (.tup [.sl l id off len z, .sl l' id' off' len' z']) H1) (hro : ∀ i, (getB H0 i).rw = false)
    (hid : H0.length ≤ id) (hB : getB H1 id = .cells r (.f32 ys)) (hid' : H0.length ≤ id') (hB' : getB H1 id' = .cells r' (.f32 zs)) :
    CallOK P f args H0 (.tup [.sl l H0.length off len z, .sl l' (H0.length + 1) off' len' z']) (H0 ++ [.cells false (.f32 ys), .cells false (.f32 zs)]) := fun σ w rargs s hra => by
  refine (h σ w rargs s hra).mono ?_
  rintro e w' ⟨rv, rfl, σ1, r1, s1, F⟩
  have hold : ∀ b, b < w.heap.size → w'.heap[b]? = w.heap[b]? := fun b hb => F.old b hb fun i z hr => by rw [hro] at hr; cases hr
  have look : ∀ {i : Nat} {B : AB}, B ≠ .dead → getB H1 i = B → H0.length ≤ i → ∃ b z, σ1[i]? = some (b, z) ∧ w.heap.size ≤ b := fun {i B} hd hB hi => by
    have hlt : i < σ1.length := by
      rw [s1.len]
      rcases Nat.lt_or_ge i H1.length with h | h
      · exact h
      · rw [getB_none h] at hB; exact absurd hB.symm hd
    refine ⟨(σ1[i]).1, (σ1[i]).2, by rw [List.getElem?_eq_getElem hlt], ?_⟩
    rcases F.new i (σ1[i]).1 (σ1[i]).2 (by rw [List.getElem?_eq_getElem hlt]) (List.getElem?_eq_none (by rw [s.len]; exact hi)) with h' | ⟨j, z', hj, _⟩
    · exact h'
    · rw [hro] at hj; cases hj
  obtain ⟨b0, z0, hb0, hge⟩ := look (by simp) hB hid
  obtain ⟨b1, z1, hb1, hge'⟩ := look (by simp) hB' hid'
  have gl : ∀ i, i < H0.length → getB (H0 ++ [.cells false (.f32 ys), .cells false (.f32 zs)]) i = getB H0 i := fun i hi => getB_append_left hi
  have hrw : ∀ i, (getB (H0 ++ [.cells false (.f32 ys), .cells false (.f32 zs)]) i).rw = false := fun i => by
    rcases Nat.lt_or_ge i H0.length with hi | hi
    · rw [gl i hi]; exact hro i
    · rw [getB_append_right hi]
      match i - H0.length with
      | 0 => rfl
      | 1 => rfl
      | k + 2 => rfl
  have hσl := s.len
  have cases2 : ∀ {i b z : Nat}, (σ ++ [(b0, z0), (b1, z1)])[i]? = some (b, z) → (i < σ.length ∧ σ[i]? = some (b, z)) ∨ (i = σ.length ∧ b = b0 ∧ z = z0) ∨ (i = σ.length + 1 ∧ b = b1 ∧ z = z1) := fun {i b z} hb => by
    rcases Nat.lt_or_ge i σ.length with hi | hi
    · rw [List.getElem?_append_left hi] at hb; exact .inl ⟨hi, hb⟩
    · rw [List.getElem?_append_right hi] at hb
      match hd : i - σ.length with
      | 0 => rw [hd] at hb; cases hb; exact .inr (.inl ⟨by omega, rfl, rfl⟩)
      | 1 => rw [hd] at hb; cases hb; exact .inr (.inr ⟨by omega, rfl, rfl⟩)
      | k + 2 => rw [hd] at hb; simp at hb
  refine ⟨rv, rfl, σ ++ [(b0, z0), (b1, z1)], ?_, ⟨by simp [s.len], fun i b z hbz => ?_, fun i j b z z' _ _ hr _ => by rw [hrw] at hr; cases hr⟩, ⟨F.os, F.tape, F.output, F.size, fun b hb _ => hold b hb, Ext.append _ _, fun i b z hbz hn => ?_, fun i hi hr => by rw [hrw] at hr; cases hr⟩⟩
  · cases r1 with | tup hr =>
    generalize hal : Array.toList _ = al at hr
    cases hr with | cons r1 hr => cases hr with | cons r2 hr => cases hr with | nil =>
    refine .tup ?_
    rw [hal]
    refine .cons ?_ (.cons ?_ .nil)
    · cases r1 with
      | sl h1 h2 h3 =>
        rw [hb0] at h1
        cases h1
        refine .sl ?_ h2 h3
        rw [List.getElem?_append_right (by omega), hσl, Nat.sub_self]; rfl
      | slz => exact .slz
    · cases r2 with
      | sl h1 h2 h3 =>
        rw [hb1] at h1
        cases h1
        refine .sl ?_ h2 h3
        rw [List.getElem?_append_right (by omega), hσl, Nat.add_sub_cancel_left]; rfl
      | slz => exact .slz
  · rcases cases2 hbz with ⟨hi, hb'⟩ | ⟨rfl, rfl, rfl⟩ | ⟨rfl, rfl, rfl⟩
    · rw [gl i (by omega)]
      have hbl := (s.blk i b z hb').mono (Ext.append σ [(b0, z0), (b1, z1)])
      cases hg : getB H0 i with
      | dead => trivial
      | cells r A => rw [hold b (s.lt hb' (by rw [hg]; rfl)), ← hg]; exact hbl
      | code o xs => rw [hold b (s.lt hb' (by rw [hg]; rfl)), ← hg]; exact hbl
    · rw [getB_append_right (by omega), hσl, Nat.sub_self]
      have := s1.blk id _ _ hb0
      rw [hB] at this
      exact ro_f32 this
    · rw [getB_append_right (by omega), hσl, Nat.add_sub_cancel_left]
      have := s1.blk id' _ _ hb1
      rw [hB'] at this
      exact ro_f32 this
  · rcases cases2 hbz with ⟨hi, hb'⟩ | ⟨rfl, rfl, rfl⟩ | ⟨rfl, rfl, rfl⟩
    · rw [hn] at hb'; cases hb'
    · exact .inl hge
    · exact .inl hge'
def lenG (x : LeafR) : Option (Nat × Nat) := match x.v with
  | .tup [a, b] => match lenF ⟨a, x.H, []⟩, lenF ⟨b, x.H, []⟩ with
    | some n, some m => some (n, m)
    | _, _ => none
  | _ => none
def lenOK2 (ok : Nat → Nat → Bool) (x : LeafR) : Bool := match lenG x with
  | some (n, m) => ok n m
  | none => false
def DrawLL (f : FuncId) (c : Cd) (xs ys : List Nat) : Prop := ∀ Hr, CallOK Try.prog f [.sl false 0 c.off c.len 0] (codeB c false :: Hr) (.tup [.sl false (Hr.length + 1) 0 xs.length 1, .sl false (Hr.length + 2) 0 ys.length 1]) (codeB c false :: (Hr ++ [.cells false (.f32 xs), .cells false (.f32 ys)]))
theorem lenF_parts {v : AV} {H : List AB} {n : Nat} (h : lenF ⟨v, H, []⟩ = some n) : ∃ l id z r A xs, v = .sl l id 0 xs.length z ∧ 0 < z ∧ 0 < id ∧ getB H id = .cells r A ∧ f32Of A = some xs ∧ xs.length = n := by
  unfold lenF at h
  split at h <;> (try (cases h; done))
  rename_i l id off len z hv
  split at h <;> (try (cases h; done))
  rename_i hcond
  split at h <;> (try (cases h; done))
  rename_i r A hg
  split at h <;> (try (cases h; done))
  rename_i xs hA
  split at h <;> cases h
  rename_i hlen
  simp only [Bool.and_eq_true] at hcond
  obtain ⟨h0, hz, hid⟩ := hcond
  have h0 := Nat.eq_of_beq_eq_true h0
  have hlen := Nat.eq_of_beq_eq_true hlen
  subst h0; subst hlen
  exact ⟨l, id, z, r, A, xs, hv, blt_true hz, blt_true hid, hg, hA, rfl⟩
theorem lenG_spec {f : FuncId} {c : Cd} {x : LeafR} {n m : Nat} (h : lenG x = some (n, m)) (hk : CallOK Try.prog f [.sl false 0 c.off c.len 0] [codeB c false] x.v x.H) : ∃ xs ys, xs.length = n ∧ ys.length = m ∧ DrawLL f c xs ys := by
  unfold lenG at h
  split at h <;> (try (cases h; done))
  rename_i a b hv
  split at h <;> cases h
  rename_i h1 h2
  obtain ⟨l, id, z, r, A, xs, rfl, hz, hid, hg, hA, hn⟩ := lenF_parts h1
  obtain ⟨l', id', z', r', A', ys, rfl, hz', hid', hg', hA', hm⟩ := lenF_parts h2
  rw [hv] at hk
  refine ⟨xs, ys, hn, hm, fun Hr => ?_⟩
  have k0 := hk.refit hg hA
  have hx : ∃ r2 A2, getB (setB x.H id (.cells r (.f32 xs))) id' = .cells r2 A2 ∧ f32Of A2 = some ys := by
    by_cases hi : id = id'
    · subst hi
      rw [getB_setB_same (getB_lt hg)]
      rw [hg] at hg'
      cases hg'
      rw [hA] at hA'
      cases hA'
      exact ⟨r, _, rfl, rfl⟩
    · rw [getB_setB_ne hi]
      exact ⟨r', A', hg', hA'⟩
  obtain ⟨r2, A2, g2, a2⟩ := hx
  have k1 := k0.refit g2 a2
  have g1 : getB (setB (setB x.H id (.cells r (.f32 xs))) id' (.cells r2 (.f32 ys))) id = .cells r (.f32 xs) ∨ (id = id' ∧ xs = ys) := by
    by_cases hi : id' = id
    · refine .inr ⟨hi.symm, ?_⟩
      subst hi
      rw [getB_setB_same (getB_lt hg)] at g2
      cases g2
      cases a2; rfl
    · rw [getB_setB_ne hi]
      exact .inl (getB_setB_same (getB_lt hg))
  have g2' : getB (setB (setB x.H id (.cells r (.f32 xs))) id' (.cells r2 (.f32 ys))) id' = .cells r2 (.f32 ys) := getB_setB_same (getB_lt g2)
  have g1 : ∃ r3, getB (setB (setB x.H id (.cells r (.f32 xs))) id' (.cells r2 (.f32 ys))) id = .cells r3 (.f32 xs) := by
    rcases g1 with h | ⟨rfl, rfl⟩
    · exact ⟨_, h⟩
    · exact ⟨_, g2'⟩
  obtain ⟨r3, g1⟩ := g1
  have k2 := (keep2s k1 (code_ro c) hid g1 hid' g2').frame rfl rfl rfl Hr
  have e : frameH [codeB c false] Hr ([codeB c false] ++ [.cells false (.f32 xs), .cells false (.f32 ys)]) = codeB c false :: (Hr ++ [.cells false (.f32 xs), .cells false (.f32 ys)]) := rfl
  rw [e] at k2
  refine k2.weaken fun σ v r => ?_
  have e2 : upV [codeB c false].length Hr.length (.tup [.sl l [codeB c false].length 0 xs.length z, .sl l' ([codeB c false].length + 1) 0 ys.length z']) = .tup [.sl l (1 + Hr.length) 0 xs.length z, .sl l' (2 + Hr.length) 0 ys.length z'] := rfl
  rw [e2, Nat.add_comm 1, Nat.add_comm 2] at r
  cases r with | tup hr =>
  generalize hal : Array.toList _ = al at hr
  cases hr with | cons r1 hr => cases hr with | cons r2 hr => cases hr with | nil =>
  refine .tup ?_
  rw [hal]
  exact .cons (sl_z1 r1 hz) (.cons (sl_z1 r2 hz') .nil)
theorem drawG_of {T : Table} {f : FuncId} {c : Cd} {ok : Nat → Nat → Bool} (hT : SoundT Try.prog T) (hc : goodB c = true) (ha : (drawR T f c).allRet = true) (hl : (drawR T f c).rets.all (lenOK2 ok) = true)
    {G : List (List Bool)} (hn : (drawR T f c).rets.map (fun x => x.nd) = G) (hG : okB c c.off c.len = true → ∀ l ∈ G, allT l = true) : ∃ xs ys, ok xs.length ys.length = true ∧ DrawLL f c xs ys := by
  obtain ⟨x, hx, hs⟩ := Res.rets_sel ha
  have hk : okB c c.off c.len = true := by simp [okB, hc]
  have hnd : allT x.nd = true := hG hk _ (hn ▸ List.mem_map.2 ⟨x, hx, rfl⟩)
  have hcall := call_of_sel hT hs hnd
  have h1 := List.all_eq_true.1 hl x hx
  unfold lenOK2 at h1
  split at h1
  · rename_i n m hlen
    obtain ⟨xs, ys, e, e', hd⟩ := lenG_spec hlen hcall
    exact ⟨xs, ys, by rw [e, e']; exact h1, hd⟩
  · cases h1
end Go.Ax
