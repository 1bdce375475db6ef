/- Finite floats of 32 bits as whole numbers of the least unit. -/
import Derived.Test.YtdcjjibekhcplaaDag
namespace Go.Ax
open Go Ieee

/-- A finite number in units of the least one. -/
def fint (x : Nat) : Option Int :=
  match single.read x with
  | .number s m i => some (signed s m (i + 149).toNat)
  | _ => none
theorem least32 : single.leastPlace = -149 := by decide
theorem bin32 : single.binade = 8388608 := rfl
theorem inf32 : single.infRung = 2139095040 := rfl
theorem frac32 : single.fractionBits = 23 := rfl
theorem read_form (x : Nat) : (∃ s m r, single.read x = .number s m (-149 + (r : Nat)) ∧ m < 16777216 ∧ (r = 0 ∨ 8388608 ≤ m) ∧ r ≤ 253) ∨ (∃ s, single.read x = .infinity s) ∨ ∃ s t, single.read x = .nan s t := by
  unfold Format.read
  rw [least32, bin32, inf32]
  generalize x % single.signWeight = k
  generalize (x / single.signWeight % 2 == 1) = s
  dsimp only
  split
  · exact .inl ⟨s, k, 0, by simp, by omega, .inl rfl, by omega⟩
  · split
    · refine .inl ⟨s, 8388608 + k % 8388608, k / 8388608 - 1, rfl, by omega, .inr (by omega), by omega⟩
    · split
      · exact .inr (.inl ⟨s, rfl⟩)
      · exact .inr (.inr ⟨s, _, rfl⟩)
theorem fint_form {x : Nat} {a : Int} (h : fint x = some a) : ∃ s m r, single.read x = .number s m (-149 + (r : Nat)) ∧ a = signed s m r ∧ m < 16777216 ∧ (r = 0 ∨ 8388608 ≤ m) ∧ r ≤ 253 := by
  unfold fint at h
  rcases read_form x with ⟨s, m, r, e, h1, h2, h3⟩ | ⟨s, e⟩ | ⟨s, t, e⟩
  · rw [e] at h
    simp only [Option.some.injEq] at h
    refine ⟨s, m, r, e, ?_, h1, h2, h3⟩
    rw [← h]
    congr 1
    omega
  · rw [e] at h; cases h
  · rw [e] at h; cases h
theorem fint_of {x : Nat} {s : Bool} {m r : Nat} (e : single.read x = .number s m (-149 + (r : Nat))) : fint x = some (signed s m r) := by
  unfold fint
  rw [e]
  simp only [Option.some.injEq]
  congr 1
  omega
theorem signed_eq (s : Bool) (m r : Nat) : signed s m r = (if s then -1 else 1) * ((m : Int) * 2 ^ r) := by
  unfold signed
  rw [Nat.shiftLeft_eq]
  cases s <;> simp
theorem signed_scale (s : Bool) (m r b : Nat) : signed s m (r + b) = signed s m r * 2 ^ b := by
  rw [signed_eq, signed_eq, Int.pow_add]
  cases s <;> simp [Int.mul_assoc, Int.neg_mul]
theorem pow_pos' (b : Nat) : (0 : Int) < 2 ^ b := Int.pow_pos (by decide)
theorem scale_inj {a c : Int} {b : Nat} : a * 2 ^ b = c * 2 ^ b ↔ a = c := Int.mul_eq_mul_right_iff (Int.ne_of_gt (pow_pos' b))
theorem scale_lt {a c : Int} {b : Nat} : a * 2 ^ b < c * 2 ^ b ↔ a < c := ⟨fun h => Int.lt_of_mul_lt_mul_right h (Int.le_of_lt (pow_pos' b)), fun h => Int.mul_lt_mul_of_pos_right h (pow_pos' b)⟩
/-- Two finite numbers in units of one place. -/
theorem two_units {s t : Bool} {m n r q : Nat} : ∃ b, signed s m r = signed s m (-149 + (r : Int) - min (-149 + (r : Int)) (-149 + (q : Int))).toNat * 2 ^ b ∧ signed t n q = signed t n (-149 + (q : Int) - min (-149 + (r : Int)) (-149 + (q : Int))).toNat * 2 ^ b ∧ (min (-149 + (r : Int)) (-149 + (q : Int))) = -149 + (b : Nat) := by
  refine ⟨min r q, ?_, ?_, by omega⟩
  · rw [← signed_scale]
    congr 1
    omega
  · rw [← signed_scale]
    congr 1
    omega
theorem order_fint {x y : Nat} {a b : Int} (hx : fint x = some a) (hy : fint y = some b) : single.order x y = some (compare a b) := by
  obtain ⟨s, m, r, e1, rfl, _⟩ := fint_form hx
  obtain ⟨t, n, q, e2, rfl, _⟩ := fint_form hy
  unfold Format.order
  rw [e1, e2]
  obtain ⟨k, h1, h2, _⟩ := two_units (s := s) (t := t) (m := m) (n := n) (r := r) (q := q)
  simp only [Datum.order, Option.some.injEq]
  rw [h1, h2]
  generalize signed s m _ = u
  generalize signed t n _ = v
  simp only [compare, compareOfLessAndEq, scale_lt, scale_inj]
theorem feq_fint {x y : Nat} {a b : Int} (hx : fint x = some a) (hy : fint y = some b) : feq .f32 x y = (a == b) := by
  unfold feq
  rw [show FloatKind.f32.format = single from rfl, order_fint hx hy]
  rw [Bool.eq_iff_iff]
  simp [compare, compareOfLessAndEq]
  constructor
  · intro h
    by_cases h1 : a < b
    · simp [h1] at h
    · by_cases h2 : a = b
      · exact h2
      · simp [h1, h2] at h
  · rintro rfl; simp
theorem flt_fint {x y : Nat} {a b : Int} (hx : fint x = some a) (hy : fint y = some b) : flt .f32 x y = decide (a < b) := by
  unfold flt
  rw [show FloatKind.f32.format = single from rfl, order_fint hx hy]
  rw [Bool.eq_iff_iff]
  simp [compare, compareOfLessAndEq]
  constructor
  · intro h
    by_cases h1 : a < b
    · exact h1
    · by_cases h2 : a = b
      · simp [h2] at h
      · simp [h1, h2] at h
  · intro h h2; omega
theorem feq_fin {x y : Nat} {a : Int} (h : feq .f32 x y = true) (hx : fint x = some a) : fint y = some a := by
  rcases read_form y with ⟨s, m, r, e, h1, h2, h3⟩ | ⟨s, e⟩ | ⟨s, t, e⟩
  · have hy := fint_of e
    rw [feq_fint hx hy, beq_iff_eq] at h
    rw [hy, h]
  · exfalso
    obtain ⟨s', m', r', e', _⟩ := fint_form hx
    unfold feq Format.order at h
    rw [show FloatKind.f32.format = single from rfl, e, e'] at h
    cases s <;> simp [Datum.order] at h
  · exfalso
    obtain ⟨s', m', r', e', _⟩ := fint_form hx
    unfold feq Format.order at h
    rw [show FloatKind.f32.format = single from rfl, e, e'] at h
    simp [Datum.order] at h
theorem feq_fin' {x y : Nat} {a : Int} (h : feq .f32 x y = true) (hy : fint y = some a) : fint x = some a := by
  rcases read_form x with ⟨s, m, r, e, h1, h2, h3⟩ | ⟨s, e⟩ | ⟨s, t, e⟩
  · have hx := fint_of e
    rw [feq_fint hx hy, beq_iff_eq] at h
    rw [hx, h]
  · exfalso
    obtain ⟨s', m', r', e', _⟩ := fint_form hy
    unfold feq Format.order at h
    rw [show FloatKind.f32.format = single from rfl, e, e'] at h
    cases s <;> simp [Datum.order] at h
  · exfalso
    obtain ⟨s', m', r', e', _⟩ := fint_form hy
    unfold feq Format.order at h
    rw [show FloatKind.f32.format = single from rfl, e, e'] at h
    simp [Datum.order] at h
theorem fint_zero : fint 0 = some 0 := by decide +kernel

/-! ### What is written -/
/-- A number that the format has. -/
def Rep (n : Nat) : Prop := ∃ m r, n = m * 2 ^ r ∧ m < 16777216 ∧ (r = 0 ∨ 8388608 ≤ m) ∧ r ≤ 253
theorem fint_rep {x : Nat} {a : Int} (h : fint x = some a) : Rep a.natAbs := by
  obtain ⟨s, m, r, _, rfl, h1, h2, h3⟩ := fint_form h
  refine ⟨m, r, ?_, h1, h2, h3⟩
  unfold signed
  rw [Nat.shiftLeft_eq]
  have : ((m : Int) * 2 ^ r).natAbs = m * 2 ^ r := by
    have e : (m : Int) * 2 ^ r = ((m * 2 ^ r : Nat) : Int) := by push_cast; rfl
    rw [e, Int.natAbs_natCast]
  cases s <;> simp [this]
theorem fint_canon (g : Bool) {m r : Nat} (h1 : m < 16777216) (h2 : r = 0 ∨ 8388608 ≤ m) (h3 : r ≤ 253) : fint (canon single g m r) = some (signed g m r) := by
  refine fint_of ?_
  rw [read_canon single g m r (by rw [frac32]; exact h1) (by rw [frac32]; exact h2) (by rw [bin32, inf32]; omega), least32]
theorem pow_cancel {a b c d : Nat} (h : a * 2 ^ c = b * 2 ^ d) (hcd : c ≤ d) : a = b * 2 ^ (d - c) := by
  have : b * 2 ^ d = b * 2 ^ (d - c) * 2 ^ c := by rw [Nat.mul_assoc, ← Nat.pow_add]; congr 2; omega
  rw [this] at h
  exact Nat.eq_of_mul_eq_mul_right (Nat.two_pow_pos c) h
theorem nearest_rep (g : Bool) (mag p : Nat) (h : Rep (mag * 2 ^ p)) : fint (single.nearest g mag (-149 + (p : Nat))) = some (signed g mag p) := by
  obtain ⟨m, r, e, h1, h2, h3⟩ := h
  have key : single.nearest g mag (-149 + (p : Nat)) = canon single g m r := by
    by_cases hz : mag = 0
    · subst hz
      have hm : m = 0 := by
        rcases Nat.eq_zero_or_pos m with h | h
        · exact h
        · have := Nat.mul_pos h (Nat.two_pow_pos r)
          simp at e; omega
      subst hm
      have hr : r = 0 := by rcases h2 with h | h <;> omega
      subst hr
      unfold Format.nearest
      simp [canon]
    rcases Nat.lt_or_ge r p with hrp | hrp
    · have em := pow_cancel e.symm (Nat.le_of_lt hrp)
      rcases h2 with h2 | h2
      · subst h2
        rw [Nat.sub_zero] at em
        -- a number at the least places
        by_cases hfull : 8388608 ≤ m
        · rw [em] at hfull h1 ⊢
          exact nearest_up single g mag p 0 _ (by rw [frac32]; exact hfull) (by rw [frac32]; exact h1) (by rw [least32]; omega) (by rw [bin32, inf32]; omega)
        · have hlog : mag.log2 + p ≤ 22 := by
            have h2 : mag * 2 ^ p < 2 ^ 23 := by rw [← em]; omega
            have h3 : 2 ^ (mag.log2 + p) ≤ mag * 2 ^ p := by rw [Nat.pow_add]; exact Nat.mul_le_mul_right _ (Nat.log2_self_le hz)
            have h4 : 2 ^ (mag.log2 + p) < 2 ^ 23 := Nat.lt_of_le_of_lt h3 h2
            have := (Nat.pow_lt_pow_iff_right (by decide : 1 < 2)).1 h4
            omega
          unfold Format.nearest
          rw [if_neg hz, least32, frac32]
          have hlast : max (-149 + (p : Int) + (mag.log2 : Nat) - (23 : Nat)) (-149) = -149 := by omega
          simp only [hlast]
          have e1 : (-149 + (p : Int) - -149).toNat = p := by omega
          have e2 : ((-149 : Int) - (-149 + (p : Int))).toNat = 0 := by omega
          have e3 : ((-149 : Int) - -149).toNat = 0 := by omega
          rw [e1, e2, e3, Nat.shiftLeft_eq, cut_zero, ← em, Nat.min_eq_left (by rw [inf32]; omega)]
          simp [canon]
      · rw [em] at h1 h2 ⊢
        exact nearest_up single g mag (p - r) r _ (by rw [frac32]; exact h2) (by rw [frac32]; exact h1) (by rw [least32]; omega) (by rw [bin32, inf32]; omega)
    · have em := pow_cancel e hrp
      rcases h2 with h2 | h2
      · subst h2
        have hp : p = 0 := by omega
        subst hp
        have em : mag = m * 2 ^ 0 := em
        rw [em]
        exact nearest_sub single g m 0 _ (by rw [frac32]; exact h1) (by rw [least32]; rfl) (by rw [inf32]; omega)
      · rw [em]
        exact nearest_down single g m (r - p) r _ (by rw [frac32]; exact h2) (by rw [frac32]; exact h1) (by rw [least32]; omega) (by rw [bin32, inf32]; omega)
  rw [key, fint_canon g h1 h2 h3, signed_eq, signed_eq]
  have : (m : Int) * 2 ^ r = (mag : Int) * 2 ^ p := by exact_mod_cast e.symm
  rw [this]
theorem signed_abs (n : Int) (p : Nat) : signed (decide (n < 0)) n.natAbs p = n * 2 ^ p := by
  rw [signed_eq]
  by_cases h : n < 0
  · simp [h]
    have : (n.natAbs : Int) = -n := by omega
    rw [this, Int.neg_mul, Int.neg_neg]
  · simp [h]
    have : (n.natAbs : Int) = n := by omega
    rw [this]
theorem sum_fint {s t : Bool} {m n r q : Nat} (h : Rep (signed s m r + signed t n q).natAbs) : ∃ z, ((Datum.number s m (-149 + (r : Nat))).sum (.number t n (-149 + (q : Nat)))).map single.write = some z ∧ fint z = some (signed s m r + signed t n q) := by
  obtain ⟨b, h1, h2, h3⟩ := two_units (s := s) (t := t) (m := m) (n := n) (r := r) (q := q)
  simp only [Datum.sum, Option.map_some]
  refine ⟨_, rfl, ?_⟩
  rw [h1, h2, ← Int.add_mul] at h ⊢
  rw [h3] at h ⊢
  generalize signed s m _ + signed t n _ = T at h ⊢
  have hT : (T * 2 ^ b).natAbs = T.natAbs * 2 ^ b := by
    rw [Int.natAbs_mul, Int.natAbs_pow]; rfl
  rw [hT] at h
  show fint (single.nearest _ T.natAbs (-149 + (b : Nat))) = _
  rw [nearest_rep _ _ _ h]
  by_cases h0 : T = 0
  · subst h0
    simp [signed_eq]
  · rw [if_neg h0]
    rw [signed_abs]
theorem fadd_fint {x y : Nat} {a b : Int} (hx : fint x = some a) (hy : fint y = some b) (h : Rep (a + b).natAbs) : fint (fadd .f32 x y) = some (a + b) := by
  obtain ⟨s, m, r, e1, rfl, _⟩ := fint_form hx
  obtain ⟨t, n, q, e2, rfl, _⟩ := fint_form hy
  obtain ⟨z, h1, h2⟩ := sum_fint h
  unfold fadd Format.add
  rw [show FloatKind.f32.format = single from rfl, e1, e2, h1]
  exact h2
theorem signed_neg (t : Bool) (n q : Nat) : signed (!t) n q = - signed t n q := by
  rw [signed_eq, signed_eq]
  cases t <;> simp
theorem fsub_fint {x y : Nat} {a b : Int} (hx : fint x = some a) (hy : fint y = some b) (h : Rep (a - b).natAbs) : fint (fsub .f32 x y) = some (a - b) := by
  obtain ⟨s, m, r, e1, rfl, _⟩ := fint_form hx
  obtain ⟨t, n, q, e2, rfl, _⟩ := fint_form hy
  have e : signed s m r - signed t n q = signed s m r + signed (!t) n q := by rw [signed_neg]; rfl
  rw [e] at h ⊢
  obtain ⟨z, h1, h2⟩ := sum_fint h
  unfold fsub Format.sub
  rw [show FloatKind.f32.format = single from rfl, e1, e2]
  show fint ((((Datum.number s m (-149 + (r : Nat))).sum (.number (!t) n (-149 + (q : Nat)))).map single.write).getD _) = _
  rw [h1]
  exact h2
theorem rep_zero : Rep 0 := ⟨0, 0, by simp, by omega, .inl rfl, by omega⟩
theorem fint_finB {x : Nat} {a : Int} (h : fint x = some a) : feq .f32 (fsub .f32 x x) 0 = true := by
  have := fsub_fint h h (by simp; exact rep_zero)
  rw [feq_fint this fint_zero]
  simp
theorem finB_fint {x : Nat} (h : feq .f32 (fsub .f32 x x) 0 = true) : ∃ a, fint x = some a := by
  rcases read_form x with ⟨s, m, r, e, h1, h2, h3⟩ | ⟨s, e⟩ | ⟨s, t, e⟩
  · exact ⟨_, fint_of e⟩
  · exfalso
    unfold fsub Format.sub at h
    rw [show FloatKind.f32.format = single from rfl, e] at h
    have : (((Datum.infinity s).sum (Datum.infinity s).opposite).map single.write).getD (qnan .f32) = qnan .f32 := by cases s <;> rfl
    rw [this] at h
    have e : feq .f32 (qnan .f32) 0 = false := by decide +kernel
    rw [e] at h; cases h
  · exfalso
    unfold fsub Format.sub at h
    rw [show FloatKind.f32.format = single from rfl, e] at h
    have : (((Datum.nan s t).sum (Datum.nan s t).opposite).map single.write).getD (qnan .f32) = qnan .f32 := rfl
    rw [this] at h
    have e : feq .f32 (qnan .f32) 0 = false := by decide +kernel
    rw [e] at h; cases h
end Go.Ax

/- Small whole numbers as floats; what is not finite stays so. -/
namespace Go.Ax
open Go Ieee

def oneU : Int := 2 ^ 149
/-- A float that is a whole number. -/
def isI (x : Nat) (v : Int) : Prop := fint x = some (v * 2 ^ 149)
theorem rep_small {v : Int} (h : v.natAbs < 16777216) : Rep (v * 2 ^ 149).natAbs := by
  rw [Int.natAbs_mul, Int.natAbs_pow]
  show Rep (v.natAbs * 2 ^ 149)
  generalize v.natAbs = n at h
  rcases Nat.eq_zero_or_pos n with h0 | h0
  · subst h0; rw [Nat.zero_mul]; exact rep_zero
  · have hn : n ≠ 0 := by omega
    have hl : n.log2 < 24 := (Nat.log2_lt hn).2 (by rw [show 2 ^ 24 = 16777216 from rfl]; exact h)
    refine ⟨n * 2 ^ (23 - n.log2), 126 + n.log2, ?_, ?_, .inr ?_, by omega⟩
    · rw [Nat.mul_assoc, ← Nat.pow_add]
      congr 2
      omega
    · have : n * 2 ^ (23 - n.log2) < 2 ^ (n.log2 + 1) * 2 ^ (23 - n.log2) := Nat.mul_lt_mul_of_pos_right Nat.lt_log2_self (Nat.two_pow_pos _)
      rw [← Nat.pow_add, show n.log2 + 1 + (23 - n.log2) = 24 by omega] at this
      exact this
    · have : 2 ^ n.log2 * 2 ^ (23 - n.log2) ≤ n * 2 ^ (23 - n.log2) := Nat.mul_le_mul_right _ (Nat.log2_self_le hn)
      rw [← Nat.pow_add, show n.log2 + (23 - n.log2) = 23 by omega] at this
      exact this
theorem isI_add {x y : Nat} {a b : Int} (hx : isI x a) (hy : isI y b) (h : (a + b).natAbs < 16777216) : isI (fadd .f32 x y) (a + b) := by
  have := fadd_fint hx hy (by rw [← Int.add_mul]; exact rep_small h)
  rw [← Int.add_mul] at this
  exact this
theorem isI_sub {x y : Nat} {a b : Int} (hx : isI x a) (hy : isI y b) (h : (a - b).natAbs < 16777216) : isI (fsub .f32 x y) (a - b) := by
  have := fsub_fint hx hy (by rw [← Int.sub_mul]; exact rep_small h)
  rw [← Int.sub_mul] at this
  exact this
theorem isI_zero : isI 0 0 := by unfold isI; rw [fint_zero]; rfl
theorem isI_feq {x y : Nat} {a b : Int} (hx : isI x a) (hy : isI y b) : feq .f32 x y = (a == b) := by
  rw [feq_fint hx hy, Bool.eq_iff_iff]
  simp only [beq_iff_eq]
  exact scale_inj
/-- A whole number's parts. -/
theorem isI_parts {x : Nat} {a : Int} (hx : isI x a) (ha : a.natAbs < 16777216) : ∃ s m r, single.read x = .number s m (-149 + (r : Nat)) ∧ signed s m r = a * 2 ^ 149 ∧ m * 2 ^ r = a.natAbs * 2 ^ 149 ∧ m < 16777216 ∧ (a ≠ 0 → 8388608 ≤ m ∧ 126 ≤ r ∧ r ≤ 149) ∧ (a = 0 → m = 0) := by
  obtain ⟨s, m, r, e, h1, h2, h3, _⟩ := fint_form hx
  have hm : m * 2 ^ r = a.natAbs * 2 ^ 149 := by
    have h := congrArg Int.natAbs h1
    rw [Int.natAbs_mul, Int.natAbs_pow] at h
    unfold signed at h
    rw [Nat.shiftLeft_eq] at h
    have e2 : (if s = true then -((m * 2 ^ r : Nat) : Int) else ((m * 2 ^ r : Nat) : Int)).natAbs = m * 2 ^ r := by
      cases s <;> simp only [if_true, Bool.false_eq_true, if_false, Int.natAbs_neg, Int.natAbs_natCast]
    rw [e2] at h
    exact h.symm
  refine ⟨s, m, r, e, h1.symm, hm, h2, fun h0 => ?_, fun h0 => ?_⟩
  · have hpos : 1 ≤ a.natAbs := by omega
    have hr : 126 ≤ r := by
      rcases Nat.lt_or_ge r 126 with h | h
      · exfalso
        have h5 : m * 2 ^ r < 2 ^ 24 * 2 ^ 125 := Nat.mul_lt_mul_of_lt_of_le h2 (Nat.pow_le_pow_right (by decide) (by omega)) (Nat.two_pow_pos _)
        have h6 : 1 * 2 ^ 149 ≤ a.natAbs * 2 ^ 149 := Nat.mul_le_mul_right _ hpos
        rw [hm, ← Nat.pow_add] at h5
        omega
      · exact h
    have hmm : 8388608 ≤ m := by rcases h3 with h | h <;> omega
    refine ⟨hmm, hr, ?_⟩
    rcases Nat.lt_or_ge 149 r with h | h
    · exfalso
      have h5 : 2 ^ 23 * 2 ^ 150 ≤ m * 2 ^ r := Nat.mul_le_mul hmm (Nat.pow_le_pow_right (by decide) (by omega))
      have h6 : a.natAbs * 2 ^ 149 < 2 ^ 24 * 2 ^ 149 := Nat.mul_lt_mul_of_pos_right ha (Nat.two_pow_pos _)
      rw [hm, ← Nat.pow_add] at h5
      rw [← Nat.pow_add] at h6
      omega
    · exact h
  · subst h0
    rcases Nat.eq_zero_or_pos m with h | h
    · exact h
    · have := Nat.mul_pos h (Nat.two_pow_pos r)
      simp at hm; omega
theorem signed_xor (s t : Bool) (m n r q : Nat) : signed (s ^^ t) (m * n) (r + q) = signed s m r * signed t n q := by
  rw [signed_eq, signed_eq, signed_eq, Int.pow_add]
  push_cast
  have e : ((m : Int) * n) * (2 ^ r * 2 ^ q) = (m * 2 ^ r) * (n * 2 ^ q) := by
    rw [Int.mul_assoc, Int.mul_assoc, Int.mul_left_comm (n : Int)]
  cases s <;> cases t <;> simp [e, Int.neg_mul, Int.mul_neg]
theorem isI_mul {x y : Nat} {a b : Int} (hx : isI x a) (hy : isI y b) (ha : a.natAbs < 16777216) (hb : b.natAbs < 16777216) (h : (a * b).natAbs < 16777216) : isI (fmul .f32 x y) (a * b) := by
  obtain ⟨s, m, r, e1, h1, m1, _, p1, z1⟩ := isI_parts hx ha
  obtain ⟨t, n, q, e2, h2, m2, _, p2, z2⟩ := isI_parts hy hb
  unfold isI fmul Format.mul
  rw [show FloatKind.f32.format = single from rfl, e1, e2]
  show fint (single.nearest (s ^^ t) (m * n) (-149 + (r : Int) + (-149 + (q : Int)))) = _
  by_cases h0 : a = 0 ∨ b = 0
  · have hmn : m * n = 0 := by
      rcases h0 with h0 | h0
      · rw [z1 h0]; simp
      · rw [z2 h0]; simp
    have hab : a * b = 0 := by rcases h0 with h0 | h0 <;> simp [h0]
    rw [hmn, hab]
    unfold Format.nearest
    rw [if_pos rfl]
    cases (s ^^ t) <;> decide +kernel
  · have ha0 : a ≠ 0 := fun h => h0 (.inl h)
    have hb0 : b ≠ 0 := fun h => h0 (.inr h)
    obtain ⟨_, r1, _⟩ := p1 ha0
    obtain ⟨_, r2, _⟩ := p2 hb0
    have hp : -149 + (r : Int) + (-149 + (q : Int)) = -149 + ((r + q - 149 : Nat) : Int) := by omega
    have key : m * n * 2 ^ (r + q - 149) = (a * b).natAbs * 2 ^ 149 := by
      have h3 : m * n * 2 ^ (r + q - 149) * 2 ^ 149 = (a * b).natAbs * 2 ^ 149 * 2 ^ 149 := by
        have e3 : m * n * 2 ^ (r + q - 149) * 2 ^ 149 = (m * 2 ^ r) * (n * 2 ^ q) := by
          rw [Nat.mul_assoc (m * n), ← Nat.pow_add, show r + q - 149 + 149 = r + q by omega, Nat.pow_add]
          exact Nat.mul_mul_mul_comm m n (2 ^ r) (2 ^ q)
        rw [e3, m1, m2, Int.natAbs_mul]
        rw [Nat.mul_mul_mul_comm]
        rw [Nat.mul_assoc (a.natAbs * b.natAbs)]
      exact Nat.eq_of_mul_eq_mul_right (Nat.two_pow_pos _) h3
    rw [hp, nearest_rep _ _ _ (by rw [key]; have := rep_small h; rwa [Int.natAbs_mul, Int.natAbs_pow] at this)]
    have h4 : signed (s ^^ t) (m * n) (r + q) = a * b * 2 ^ 149 * 2 ^ 149 := by
      rw [signed_xor, h1, h2]
      rw [Int.mul_assoc, Int.mul_left_comm (2 ^ 149) b, ← Int.mul_assoc, Int.mul_assoc (a * b)]
    have h5 : signed (s ^^ t) (m * n) (r + q) = signed (s ^^ t) (m * n) (r + q - 149) * 2 ^ 149 := by
      have e4 : r + q = r + q - 149 + 149 := by omega
      exact (congrArg (signed (s ^^ t) (m * n)) e4).trans (signed_scale _ _ _ _)
    rw [h5] at h4
    exact congrArg some (scale_inj.1 h4)
theorem isI_div {x y : Nat} {c d : Int} (hx : isI x (c * d)) (hy : isI y d) (hd : 0 < d) (hd' : d.natAbs < 16777216) (hc : c.natAbs < 16777216) (h : (c * d).natAbs < 16777216) : isI (fdiv .f32 x y) c := by
  obtain ⟨s, m, r, e1, h1, m1, l1, p1, z1⟩ := isI_parts hx h
  obtain ⟨t, n, q, e2, h2, m2, l2, p2, _⟩ := isI_parts hy hd'
  obtain ⟨n1, q1, q2⟩ := p2 (by omega)
  have ht : t = false := by
    cases t with
    | false => rfl
    | true =>
      exfalso
      rw [signed_eq] at h2
      have h3 : (0 : Int) < d * 2 ^ 149 := Int.mul_pos hd (pow_pos' _)
      have h4 : (0 : Int) ≤ (n : Int) * 2 ^ q := Int.mul_nonneg (by omega) (Int.le_of_lt (pow_pos' _))
      simp only [if_true] at h2
      omega
  subst ht
  have hn : n ≠ 0 := by omega
  have hlog : n.log2 = 23 := log2_eq (by omega) (by omega)
  unfold isI fdiv Format.div
  rw [show FloatKind.f32.format = single from rfl, e1, e2]
  show fint (((Datum.quotient (23 + 2) (.number s m (-149 + (r : Nat))) (.number false n (-149 + (q : Nat)))).map single.write).getD (qnan .f32)) = _
  simp only [Datum.quotient, if_neg hn, Option.map_some, Option.getD_some]
  by_cases h0 : c = 0
  · subst h0
    have hm := z1 (by simp)
    subst hm
    rw [Nat.zero_shiftLeft, Nat.zero_div, Nat.zero_mod]
    show fint (single.nearest (s ^^ false) 0 _) = _
    unfold Format.nearest
    rw [if_pos rfl]
    cases s <;> decide +kernel
  · have hcd : c * d ≠ 0 := Int.mul_ne_zero h0 (by omega)
    obtain ⟨n3, r1, r2⟩ := p1 hcd
    have hlm : m.log2 = 23 := log2_eq (by omega) (by omega)
    have hmore : 23 + 2 + n.log2 - m.log2 = 25 := by omega
    rw [hmore]
    -- m 2^r = |c| n 2^q
    have key : m * 2 ^ r = c.natAbs * n * 2 ^ q := by
      rw [m1, Int.natAbs_mul, Nat.mul_assoc c.natAbs n, m2, Nat.mul_assoc]
    have hrq : r ≤ q + 25 := by
      rcases Nat.lt_or_ge (q + 25) r with hlt | hge
      · exfalso
        have h5 : 2 ^ 23 * 2 ^ (q + 26) ≤ m * 2 ^ r := Nat.mul_le_mul n3 (Nat.pow_le_pow_right (by decide) (by omega))
        have h6 : c.natAbs * n < 2 ^ 24 * 2 ^ 24 := Nat.mul_lt_mul_of_lt_of_le hc (Nat.le_of_lt l2) (by decide)
        have h7 : c.natAbs * n * 2 ^ q < 2 ^ 24 * 2 ^ 24 * 2 ^ q := Nat.mul_lt_mul_of_pos_right h6 (Nat.two_pow_pos _)
        rw [key] at h5
        have e3 : (2 : Nat) ^ 23 * 2 ^ (q + 26) = 2 ^ 24 * 2 ^ 24 * 2 ^ q * 2 := by
          rw [← Nat.pow_add, ← Nat.pow_add, ← Nat.pow_add, ← Nat.pow_succ]; congr 1; omega
        omega
      · exact hge
    have hdiv : m <<< 25 = n * (c.natAbs * 2 ^ (q + 25 - r)) := by
      rw [Nat.shiftLeft_eq]
      have h5 : m * 2 ^ 25 * 2 ^ r = n * (c.natAbs * 2 ^ (q + 25 - r)) * 2 ^ r := by
        have e3 : m * 2 ^ 25 * 2 ^ r = m * 2 ^ r * 2 ^ 25 := by rw [Nat.mul_assoc, Nat.mul_comm (2 ^ 25), ← Nat.mul_assoc]
        have e4 : n * (c.natAbs * 2 ^ (q + 25 - r)) * 2 ^ r = c.natAbs * n * (2 ^ (q + 25 - r) * 2 ^ r) := by
          rw [← Nat.mul_assoc n, Nat.mul_comm n, Nat.mul_assoc]
        rw [e3, e4, key, ← Nat.pow_add, Nat.mul_assoc, ← Nat.pow_add]
        congr 2; omega
      exact Nat.eq_of_mul_eq_mul_right (Nat.two_pow_pos _) h5
    rw [hdiv, Nat.mul_div_cancel_left _ (by omega), Nat.mul_mod_right]
    show fint (single.nearest (s ^^ false) (2 * (c.natAbs * 2 ^ (q + 25 - r)) + 0) (-149 + (r : Int) - (-149 + (q : Int)) - ((25 : Nat) : Int) - 1)) = _
    rw [Nat.add_zero]
    have hp : -149 + (r : Int) - (-149 + (q : Int)) - ((25 : Nat) : Int) - 1 = -149 + ((123 + r - q : Nat) : Int) := by omega
    rw [hp]
    have hval : 2 * (c.natAbs * 2 ^ (q + 25 - r)) * 2 ^ (123 + r - q) = c.natAbs * 2 ^ 149 := by
      have e6 : q + 25 - r + (123 + r - q) + 1 = 149 := by omega
      have e7 : ∀ C X Y : Nat, 2 * (C * X) * Y = C * (X * Y * 2) := fun C X Y => by ac_rfl
      rw [e7, ← Nat.pow_add, ← Nat.pow_succ]
      exact congrArg (fun k => c.natAbs * 2 ^ k) e6
    have hrep : Rep (2 * (c.natAbs * 2 ^ (q + 25 - r)) * 2 ^ (123 + r - q)) := by
      rw [hval]
      have := rep_small hc
      rwa [Int.natAbs_mul, Int.natAbs_pow] at this
    rw [nearest_rep _ _ _ hrep]
    refine congrArg some ?_
    -- signs
    have hs : s = decide (c < 0) := by
      rw [signed_eq] at h1
      have h4 : (0 : Int) < (m : Int) * 2 ^ r := Int.mul_pos (by omega) (pow_pos' _)
      have h5 : (0 : Int) < 2 ^ 149 := pow_pos' _
      cases s with
      | true =>
        simp only [if_true] at h1
        have : c * d * 2 ^ 149 < 0 := by omega
        have hcd' : c * d < 0 := by
          rcases Int.lt_or_le (c * d) 0 with h | h
          · exact h
          · have := Int.mul_nonneg h (Int.le_of_lt h5); omega
        have : c < 0 := by
          rcases Int.lt_or_le c 0 with h | h
          · exact h
          · have := Int.mul_nonneg h (Int.le_of_lt hd); omega
        simp [this]
      | false =>
        simp only [Bool.false_eq_true, if_false] at h1
        have : 0 < c * d * 2 ^ 149 := by omega
        have : ¬ c < 0 := fun hneg => by
          have h6 : c * d < 0 := Int.mul_neg_of_neg_of_pos hneg hd
          have h7 : c * d * 2 ^ 149 < 0 := Int.mul_neg_of_neg_of_pos h6 h5
          omega
        simp [this]
    rw [Bool.xor_false, hs, signed_eq]
    have hval' : ((2 * (c.natAbs * 2 ^ (q + 25 - r)) : Nat) : Int) * 2 ^ (123 + r - q) = (c.natAbs : Int) * 2 ^ 149 := by exact_mod_cast hval
    rw [hval']
    by_cases hneg : c < 0
    · have e5 : (c.natAbs : Int) = -c := by omega
      simp only [hneg, decide_true, if_true]
      rw [e5]
      simp [Int.neg_mul]
    · have e5 : (c.natAbs : Int) = c := by omega
      simp only [hneg, decide_false, Bool.false_eq_true, if_false]
      rw [e5]; simp

/-! ### What is not finite -/
theorem inf_not (s : Bool) : feq .f32 (fsub .f32 (single.word s single.infRung) (single.word s single.infRung)) 0 = false := by cases s <;> decide +kernel
theorem qnan_not : feq .f32 (fsub .f32 (qnan .f32) (qnan .f32)) 0 = false := by decide +kernel
theorem fadd_absorb {x y : Nat} (h : feq .f32 (fsub .f32 (fadd .f32 x y) (fadd .f32 x y)) 0 = true) : ∃ a, fint x = some a := by
  rcases read_form x with ⟨s, m, r, e, _⟩ | ⟨s, e⟩ | ⟨s, t, e⟩
  · exact ⟨_, fint_of e⟩
  · exfalso
    have key : fadd .f32 x y = qnan .f32 ∨ fadd .f32 x y = single.word s single.infRung := by
      unfold fadd Format.add
      rw [show FloatKind.f32.format = single from rfl, e]
      cases single.read y with
      | number t n j => exact .inr rfl
      | infinity t =>
        by_cases hst : s = t
        · subst hst
          right
          simp [Datum.sum, Format.write]
        · left
          simp [Datum.sum, hst]
      | nan t n => exact .inl rfl
    rcases key with k | k
    · rw [k, qnan_not] at h; cases h
    · rw [k, inf_not] at h; cases h
  · exfalso
    have key : fadd .f32 x y = qnan .f32 := by
      unfold fadd Format.add
      rw [show FloatKind.f32.format = single from rfl, e]; rfl
    rw [key, qnan_not] at h; cases h
theorem fdiv_absorb {x y n : Nat} {j : Int} {t : Bool} (hy : single.read y = .number t n j) (h : feq .f32 (fsub .f32 (fdiv .f32 x y) (fdiv .f32 x y)) 0 = true) : ∃ a, fint x = some a := by
  rcases read_form x with ⟨s, m, r, e, _⟩ | ⟨s, e⟩ | ⟨s, t', e⟩
  · exact ⟨_, fint_of e⟩
  · exfalso
    have key : fdiv .f32 x y = single.word (s ^^ t) single.infRung := by
      unfold fdiv Format.div
      rw [show FloatKind.f32.format = single from rfl, e, hy]; rfl
    rw [key, inf_not] at h; cases h
  · exfalso
    have key : fdiv .f32 x y = qnan .f32 := by
      unfold fdiv Format.div
      rw [show FloatKind.f32.format = single from rfl, e]; rfl
    rw [key, qnan_not] at h; cases h
theorem cut_le_gap (w : Toward) (g : Bool) (n d : Nat) : w.cut g n d ≤ n / 2 ^ min d (n.log2 + 2) + 1 := by
  unfold Toward.cut
  simp only [Nat.one_shiftLeft]
  have : ∀ b : Bool, b.toNat ≤ 1 := fun b => by cases b <;> decide
  exact Nat.add_le_add_left (this _) _
theorem kept_le (g : Bool) (mag : Nat) (place last : Int) (hl3 : place + (mag.log2 : Int) - 23 ≤ last) : Toward.even.cut g (mag <<< (place - last).toNat) (last - place).toNat ≤ 2 ^ 24 := by
  refine Nat.le_trans (cut_le_gap _ _ _ _) ?_
  have hmag : mag < 2 ^ (mag.log2 + 1) := Nat.lt_log2_self
  generalize mag.log2 = L at hl3 hmag
  rcases Int.lt_or_le place last with hp | hp
  · have e1 : (place - last).toNat = 0 := by omega
    rw [e1, Nat.shiftLeft_zero]
    have hL : 2 ^ (L + 1) ≤ 2 ^ 24 * 2 ^ min (last - place).toNat (mag.log2 + 2) ∨ mag < 2 ^ 24 * 2 ^ min (last - place).toNat (mag.log2 + 2) := by
      right
      have h2 : mag < 2 ^ (mag.log2 + 1) := Nat.lt_log2_self
      rw [← Nat.pow_add]
      rcases Nat.lt_or_ge (last - place).toNat (mag.log2 + 2) with h | h
      · rw [Nat.min_eq_left (by omega)]
        exact Nat.lt_of_lt_of_le hmag (Nat.pow_le_pow_right (by decide) (by omega))
      · rw [Nat.min_eq_right h]
        exact Nat.lt_of_lt_of_le h2 (Nat.pow_le_pow_right (by decide) (by omega))
    have hd : mag / 2 ^ min (last - place).toNat (mag.log2 + 2) < 2 ^ 24 := by
      rw [Nat.div_lt_iff_lt_mul (Nat.two_pow_pos _)]
      rcases hL with h | h
      · exact Nat.lt_of_lt_of_le hmag h
      · exact h
    exact hd
  · have e2 : (last - place).toNat = 0 := by omega
    rw [e2, Nat.zero_min, Nat.pow_zero, Nat.div_one, Nat.shiftLeft_eq]
    have h4 : mag * 2 ^ (place - last).toNat < 2 ^ (L + 1) * 2 ^ (place - last).toNat := Nat.mul_lt_mul_of_pos_right hmag (Nat.two_pow_pos _)
    rw [← Nat.pow_add] at h4
    have h5 : (2 : Nat) ^ (L + 1 + (place - last).toNat) ≤ 2 ^ 24 := Nat.pow_le_pow_right (by decide) (by omega)
    exact Nat.lt_of_lt_of_le h4 h5
theorem word_fin (g : Bool) (k : Nat) (h : k < 2139095040) : ∃ a, fint (single.word g k) = some a := by
  have hw : single.signWeight = 2147483648 := rfl
  obtain ⟨e1, e2⟩ := read_word single g k (by rw [hw]; omega)
  unfold fint Format.read
  rw [e1, e2, bin32, inf32]
  dsimp only
  by_cases hb : k < 8388608
  · rw [if_pos hb]; exact ⟨_, rfl⟩
  · rw [if_neg hb, if_pos h]; exact ⟨_, rfl⟩
/-- A number that is not too great is written as a finite one. -/
theorem nearest_fin (g : Bool) (mag : Nat) (place : Int) (h : place + mag.log2 ≤ 126) : ∃ a, fint (single.nearest g mag place) = some a := by
  unfold Format.nearest
  split
  · exact word_fin g 0 (by decide)
  · rw [least32, frac32, bin32, inf32]
    dsimp only
    generalize hlast : max (place + (mag.log2 : Nat) - (23 : Nat)) (-149) = last
    have hl1 : last ≤ 103 := by omega
    have hl2 : -149 ≤ last := by omega
    have hl3 : place + (mag.log2 : Int) - 23 ≤ last := by omega
    have hk := kept_le g mag place last hl3
    generalize Toward.even.cut g (mag <<< (place - last).toNat) (last - place).toNat = k at hk ⊢
    have hr : (last - -149).toNat ≤ 252 := by omega
    generalize (last - -149).toNat = r at hr ⊢
    have hk' : k ≤ 16777216 := hk
    refine word_fin g _ ?_
    omega
theorem fdiv_fin {x y n : Nat} {q : Nat} (hy : single.read y = .number false n (-149 + (q : Nat))) (hn : 8388608 ≤ n) (hn' : n < 16777216) (hq : 127 ≤ q) {a : Int} (hx : fint x = some a) : ∃ b, fint (fdiv .f32 x y) = some b := by
  obtain ⟨s, m, r, e1, _, l1, _, r1⟩ := fint_form hx
  have hlog : n.log2 = 23 := log2_eq (by omega) (by omega)
  unfold fdiv Format.div
  rw [show FloatKind.f32.format = single from rfl, e1, hy]
  show ∃ b, fint (((Datum.quotient (23 + 2) (.number s m (-149 + (r : Nat))) (.number false n (-149 + (q : Nat)))).map single.write).getD (qnan .f32)) = some b
  simp only [Datum.quotient, if_neg (show n ≠ 0 by omega), Option.map_some, Option.getD_some]
  generalize hmore : 23 + 2 + n.log2 - m.log2 = more
  refine nearest_fin _ _ _ ?_
  have hb : 2 * (m <<< more / n) + (m <<< more % n != 0).toNat < 2 ^ (more + 2) := by
    rw [Nat.shiftLeft_eq]
    have h1 : m * 2 ^ more / n < 2 ^ (more + 1) := by
      rw [Nat.div_lt_iff_lt_mul (by omega), Nat.pow_succ, Nat.mul_assoc, Nat.mul_comm (2 ^ more)]
      exact Nat.mul_lt_mul_of_pos_right (by omega) (Nat.two_pow_pos _)
    have h2 : (m * 2 ^ more % n != 0).toNat ≤ 1 := by cases (m * 2 ^ more % n != 0) <;> decide
    have h3 : (2 : Nat) ^ (more + 2) = 2 * 2 ^ (more + 1) := by rw [Nat.pow_succ]; omega
    omega
  generalize 2 * (m <<< more / n) + (m <<< more % n != 0).toNat = mag at hb
  have hl : mag.log2 ≤ more + 1 := by
    rcases Nat.eq_zero_or_pos mag with h | h
    · subst h; simp
    · have := (Nat.log2_lt (k := more + 2) (by omega)).2 hb; omega
  omega
end Go.Ax

/- Lists or none: from evaluations to one answer. -/
namespace Go.Ax
open Go Go.Proofs

section
variable {P : Program} {T : Table} {f : FuncId} {args : List AV} {H0 : List AB}
theorem CallOK.refit {v : AV} {H1 : List AB} {id : Nat} {r : Bool} {A : Cells} {ys : List Nat} (h : CallOK P f args H0 v H1) (hB : getB H1 id = .cells r A) (hA : f32Of A = some ys) : CallOK P f args H0 v (setB H1 id (.cells r (.f32 ys))) := by
  refine h.post ⟨(setB_length _ _ _).symm, fun i => ?_⟩
  by_cases hi : id = i
  · subst hi
    rw [getB_setB_same (getB_lt hB), hB]
    refine ⟨rfl, rfl, fun σ z o hb => ?_⟩
    cases A
    case f32 xs => cases hA; exact hb
    case lit L =>
      obtain ⟨c, e, fr, h1, h2, h3⟩ := hb
      refine ⟨c, e, fr, h1, relA_bare (A := L) ?_ h2, h3⟩
      rw [asF32_bare hA]
      simp [Cells.toL, AV.bare]
    all_goals cases hA
  · rw [getB_setB_ne hi]
    exact ⟨rfl, rfl, fun _ _ _ h => h⟩
theorem out_call {r : Res} {ys : List Nat} {l : Bool} {c : Int} (hT : SoundT P T) (hs : (T f args H0 [] fun v H nd => .ret v H nd).sel = r.sel) (ho : outK H0.length r = some (ys, .i l .i64 c, true)) (hro : ∀ i, (getB H0 i).rw = false) :
    CallOK P f args H0 (uniV H0.length true ys.length c) (H0 ++ [uniB true ys]) := by
  unfold outK at ho
  split at ho <;> (try (cases ho; done))
  rename_i v H nd
  split at ho <;> (try (cases ho; done))
  split at ho <;> (try (cases ho; done))
  rename_i k l' id off len z
  split at ho <;> (try (cases ho; done))
  rename_i hc
  split at ho <;> (try (cases ho; done))
  rename_i rw A hg
  split at ho <;> (try (cases ho; done))
  rename_i xs hA
  split at ho <;> (try (cases ho; done))
  rename_i hlen
  simp only [Option.some.injEq, Prod.mk.injEq] at ho
  obtain ⟨rfl, rfl, hnd⟩ := ho
  simp only [Bool.and_eq_true] at hc
  obtain ⟨h0, hz, hid⟩ := hc
  have h0 := Nat.eq_of_beq_eq_true h0
  have hlen := Nat.eq_of_beq_eq_true hlen
  subst h0; subst hlen
  have hcall := (call_of_sel hT (v := .tup [.sl l' id 0 xs.length z, .i l .i64 c]) (H' := H) (nd := nd) hs hnd).refit hg hA
  exact uni_good hcall hro (Nat.le_of_ble_eq_true hid) (blt_true hz) (getB_setB_same (getB_lt hg))
theorem bad_call {r : Res} {c : Nat} (hT : SoundT P T) (hs : (T f args H0 [] fun v H nd => .ret v H nd).sel = r.sel) (ho : badK H0.length c r = true) (hro : ∀ i, (getB H0 i).rw = false) (n : Nat) (ys : List Nat) :
    CallOK P f args H0 (uniV H0.length false n (Int.ofNat c)) (H0 ++ [uniB false ys]) := by
  unfold badK at ho
  split at ho <;> (try (cases ho; done))
  rename_i v H nd
  split at ho <;> (try (cases ho; done))
  rename_i s k
  split at ho <;> (try (cases ho; done))
  rename_i l m
  simp only [Bool.and_eq_true] at ho
  obtain ⟨hm, hnd, ho⟩ := ho
  rw [eqL_eq, beq_iff_eq] at hm
  subst hm
  have hcall := call_of_sel hT (v := .tup [s, .i l .i64 (Int.ofNat c)]) (H' := H) (nd := nd) hs hnd
  split at ho <;> (try (cases ho; done))
  · split at ho <;> (try (cases ho; done))
    rename_i r A hg
    exact uni_bad hcall hro (Nat.le_refl _) hg
  · rename_i l' id off len z
    simp only [Bool.and_eq_true] at ho
    obtain ⟨h0, hl, hid, ho⟩ := ho
    have h0 := Nat.eq_of_beq_eq_true h0
    have hl := Nat.eq_of_beq_eq_true hl
    subst h0; subst hl
    split at ho <;> (try (cases ho; done))
    rename_i r hg
    exact uni_empty hcall hro (Nat.le_of_ble_eq_true hid) hg
theorem chain_cases (k0 c : Nat) : ∀ (n : Nat) (r : Res), offK k0 c n r = true → (allT (condsP r (List.replicate n false)) = true ∧ r.sel = (r.at (List.replicate n false)).sel) ∨ (allT (condsP r (List.replicate n false)) = false ∧ ∃ x, badK k0 c x = true ∧ r.sel = x.sel)
  | 0, r, _ => .inl ⟨by cases r <;> rfl, by cases r <;> rfl⟩
  | n + 1, .ite b x y, h => by
    simp only [offK, Bool.and_eq_true] at h
    rw [List.replicate_succ]
    simp only [condsP, allT, Res.at, Res.sel]
    cases b with
    | true => exact .inr ⟨rfl, x, h.1, rfl⟩
    | false =>
      rcases chain_cases k0 c n y h.2 with ⟨h1, h2⟩ | ⟨h1, x', h2, h3⟩
      · exact .inl ⟨by simp [h1], h2⟩
      · exact .inr ⟨by simp [h1], x', h2, h3⟩
  | n + 1, .ret _ _ _, h => by cases h
  | n + 1, .stop _ _ _ _, h => by cases h
  | n + 1, .fail, h => by cases h
theorem offB_K (c : Nat) : ∀ (n : Nat) (r : Res), offB c n r = offK 1 c n r
  | 0, _ => rfl
  | n + 1, .ite b x y => by
    simp only [offB, offK, offB_K c n y]
    rfl
  | n + 1, .ret _ _ _ => rfl
  | n + 1, .stop _ _ _ _ => rfl
  | n + 1, .fail => rfl
end

/-! ### Sums that are finite -/
theorem finB_iff {x : Nat} : finB x = true ↔ ∃ a, fint x = some a := ⟨fun h => finB_fint h, fun ⟨_, h⟩ => fint_finB h⟩
theorem acc_prefix {t : Nat → Nat} {m : Nat} : ∀ {k : Nat}, m ≤ k → finB (accF t k) = true → finB (accF t m) = true
  | 0, h, hf => by
    have : m = 0 := by omega
    subst this; exact hf
  | k + 1, h, hf => by
    by_cases hm : m = k + 1
    · subst hm; exact hf
    · exact acc_prefix (k := k) (by omega) (finB_iff.2 (fadd_absorb hf))
theorem allT_map {α : Type} (l : List α) (g : α → Bool) : allT (l.map g) = true ↔ ∀ x ∈ l, g x = true := by
  induction l with
  | nil => simp [allT]
  | cons a l ih => simp [allT, ih]
theorem finL_iff (xs : List Nat) : finL xs = true ↔ ∀ j, j < xs.length → finB (xs.getD j 0) = true := by
  unfold finL
  rw [allN_iff]
  constructor
  · intro h j hj
    have := h j hj
    simpa [finI] using this
  · intro h j hj
    have := h j hj
    simpa [finI] using this
theorem finL_map (n : Nat) (g : Nat → Nat) : finL ((List.range n).map g) = true ↔ ∀ k, k < n → finB (g k) = true := by
  rw [finL_iff]
  constructor
  · intro h k hk
    have := h k (by simpa using hk)
    rwa [List.getD_eq_getElem?_getD, List.getElem?_map, List.getElem?_range hk] at this
  · intro h k hk
    have hk : k < n := by simpa using hk
    rw [List.getD_eq_getElem?_getD, List.getElem?_map, List.getElem?_range hk]
    exact h k hk
/-- The tests of the sums on the way are the test of the sums. -/
theorem tests_eq {n : Nat} {T : Nat → Nat → Nat} {D : Nat → Nat} (hn : 0 < n) (hD : ∀ s, finB (D s) = finB s) : allT (testL n T) = finL (sumL n T D) := by
  rw [Bool.eq_iff_iff]
  unfold testL sumL
  rw [allT_map, finL_map]
  constructor
  · intro h k hk
    have h1 := h (k * n + (n - 1)) (by
      rw [List.mem_range]
      have : (k + 1) * n ≤ n * n := Nat.mul_le_mul_right _ hk
      rw [Nat.succ_mul] at this
      omega)
    have e1 : (k * n + (n - 1)) / n = k := by rw [Nat.add_comm, Nat.add_mul_div_right _ _ hn, Nat.div_eq_of_lt (by omega), Nat.zero_add]
    have e2 : Nat.succ ((k * n + (n - 1)) % n) = n := by rw [Nat.add_comm, Nat.add_mul_mod_self_right, Nat.mod_eq_of_lt (by omega)]; omega
    rw [e1, e2, Bool.not_not] at h1
    rw [hD]; exact h1
  · intro h i hi
    rw [List.mem_range] at hi
    rw [Bool.not_not]
    have hk : i / n < n := Nat.div_lt_of_lt_mul hi
    have := h (i / n) hk
    rw [hD] at this
    exact acc_prefix (Nat.mod_lt _ hn) this
theorem xL_eq (xs : List Nat) : xL xs.length (fun j => xs.getD j 0) = xs := by
  have := map_range_getD (fun z : Nat => z) 0 xs xs.length rfl
  simpa [xL] using this.symm
end Go.Ax

/- Lists in memory and small whole numbers: what several laws use. -/
namespace Go.Ax
open Go Go.Proofs

def badS (k0 c : Nat) : Res → Option (List Bool)
  | .ret v H nd => match badK k0 c (.ret v H []) with
    | true => some nd
    | false => none
  | _ => none
theorem badS_K {k0 c : Nat} {r : Res} {nd : List Bool} (h : badS k0 c r = some nd) (hn : allT nd = true) : badK k0 c r = true := by
  unfold badS at h
  split at h <;> (try (cases h; done))
  rename_i v H nd'
  split at h <;> cases h
  rename_i hb
  unfold badK at hb ⊢
  simp only [allT, Bool.true_and] at hb
  simp only [hn, Bool.true_and]
  exact hb
def qS (xs : List Nat) : List Bool := [decide ((0 : Nat) = 0), decide (xs.length = xs.length), decide (xs.length ≤ 5000)]
theorem fb_ro (xs : List Nat) : ∀ i, (getB (fb xs) i).rw = false := fun i => by
  match i with
  | 0 => rfl
  | i + 1 => rfl
theorem cellsL_ro (n : Nat) (x : Nat → Nat) : ∀ i, (getB (cellsL n x) i).rw = false := fun i => by
  match i with
  | 0 => rfl
  | i + 1 => rfl
theorem qS_ok {xs : List Nat} (h : xs.length ≤ 5000) : allT (qS xs) = true := by simp [qS, allT]; exact h
theorem outR_K (r : Res) : outR r = outK 1 r := rfl
theorem badR_K (c : Nat) (r : Res) : badR c r = badK 1 c r := rfl
theorem conds_flip {r : Res} {u v : Bool} (h : condsP r [false, false] = [u, v]) : condsP r [false, true] = [u, !v] := by
  cases r with
  | ite b x y =>
    cases y with
    | ite b' x' y' =>
      simp only [condsP, List.cons.injEq, and_true] at h ⊢
      obtain ⟨rfl, rfl⟩ := h
      exact ⟨rfl, by simp⟩
    | ret _ _ _ => simp [condsP] at h
    | stop _ _ _ _ => simp [condsP] at h
    | fail => simp [condsP] at h
  | ret _ _ _ => cases h
  | stop _ _ _ _ => cases h
  | fail => cases h
def at0 (xs : List Nat) (j : Nat) : Nat := xs.getD j 0
theorem cells_toL (xs : List Nat) : (Cells.f32 xs).toL = (Cells.lit ((List.range xs.length).map fun j => AV.f false .f32 (at0 xs j))).toL := by
  show xs.map (AV.f false .f32) = _
  rw [map_range_getD (fun z => AV.f false .f32 z) 0 xs xs.length rfl]
  rfl
theorem blk_toL {A B : Cells} (h : A.toL = B.toL) {r : Bool} {σ : List (Nat × Nat)} {z : Nat} {o : Option Obj} (hb : BlkRel σ z (.cells r A) o) : BlkRel σ z (.cells r B) o := by
  obtain ⟨c, e, fr, h1, h2, h3⟩ := hb
  exact ⟨c, e, fr, h1, by rw [← h]; exact h2, h3⟩
theorem heq_cells (xs : List Nat) (G : List AB) : HEq (fb xs ++ G) (cellsL xs.length (at0 xs) ++ G) :=
  HEq.cons ⟨rfl, rfl, fun _ _ _ h => blk_toL (cells_toL xs) h⟩ (HEq.refl G)
theorem heq_cells' (xs : List Nat) (G : List AB) : HEq (cellsL xs.length (at0 xs) ++ G) (fb xs ++ G) :=
  HEq.cons ⟨rfl, rfl, fun _ _ _ h => blk_toL (cells_toL xs).symm h⟩ (HEq.refl G)
theorem CallOK.args {P : Program} {f : FuncId} {args args' : List AV} {v : AV} {H H' : List AB} (h : CallOK P f args H v H') (ha : ∀ (σ : List (Nat × Nat)) (l : List Value), RelL σ args' l → RelL σ args l) : CallOK P f args' H v H' := fun σ w rargs s hra => h σ w rargs s (ha σ _ hra)
def zOK : AV → List Bool
  | .sl _ _ _ len z => [decide (len = 0) || decide (0 < z)]
  | _ => [false]
def suI (v : Nat → Int) : Nat → Int
  | 0 => 0
  | m + 1 => suI v m + v m
theorem acc_isI {t : Nat → Nat} {v : Nat → Int} {B : Nat} : ∀ (m : Nat), (∀ j, j < m → isI (t j) (v j) ∧ (v j).natAbs ≤ B) → m * B < 16777216 → isI (accF t m) (suI v m) ∧ (suI v m).natAbs ≤ m * B
  | 0, _, _ => ⟨isI_zero, by simp [suI]⟩
  | m + 1, h, hb => by
    have hb' : m * B + B < 16777216 := by rw [Nat.succ_mul] at hb; exact hb
    obtain ⟨h1, h2⟩ := acc_isI (t := t) (v := v) (B := B) m (fun j hj => h j (by omega)) (by omega)
    obtain ⟨h3, h4⟩ := h m (by omega)
    have h5 : (suI v m + v m).natAbs ≤ m * B + B := by omega
    refine ⟨isI_add h1 h3 (by omega), ?_⟩
    rw [Nat.succ_mul]; exact h5
theorem isI_one : isI 1065353216 1 := by
  have : fint 1065353216 = some (2 ^ 149) := by decide +kernel
  unfold isI; rw [this]; rfl
theorem isI_neg1 : isI 3212836864 (-1) := by
  have : fint 3212836864 = some (-2 ^ 149) := by decide +kernel
  unfold isI; rw [this]; rfl
theorem isI_fin {x : Nat} {v : Int} (h : isI x v) : finB x = true := fint_finB h
theorem eqQ_refl (b : Bool) (x : Int) : eqQ b x x = true := by rw [eqQ_eq]; simp
theorem like_at0 {xs ys : List Nat} (hl : xs.length = ys.length) (h : ∀ j, j < xs.length → feq .f32 (at0 xs j) (at0 ys j) = true) : likeF xs ys = true := by
  unfold likeF
  rw [hl, eqQ_refl, Bool.true_and, allN_iff]
  intro j hj
  unfold l9E
  have e : 0 + (Int.ofNat (0 + j)).toNat * 1 = j := by simp
  rw [e]
  exact h j (by omega)
theorem like_self {xs : List Nat} (h : finL xs = true) : likeF xs xs = true := like_at0 rfl fun j hj => by
  obtain ⟨a, ha⟩ := finB_iff.1 ((finL_iff xs).1 h j hj)
  unfold at0
  rw [feq_fint ha ha]
  simp
theorem like_isI {xs ys : List Nat} {v : Nat → Int} (hl : xs.length = ys.length) (hx : ∀ j, j < xs.length → isI (at0 xs j) (v j)) (hy : ∀ j, j < ys.length → isI (at0 ys j) (v j)) : likeF xs ys = true := like_at0 hl fun j hj => by
  rw [isI_feq (hx j hj) (hy j (by omega))]
  simp
theorem finB_plus {s : Nat} (h : finB s = true) : finB (plusF s) = true := by
  unfold plusF
  cases feq .f32 s 0
  · exact h
  · exact isI_fin isI_zero
theorem isI_plus {s : Nat} {v : Int} (h : isI s v) : isI (plusF s) v := by
  unfold plusF
  cases hf : feq .f32 s 0 with
  | false => exact h
  | true =>
    rw [isI_feq h isI_zero] at hf
    have : v = 0 := by simpa using hf
    subst this
    exact isI_zero
theorem at0_map {n : Nat} {f : Nat → Nat} {k : Nat} (hk : k < n) : at0 ((List.range n).map f) k = f k := by
  unfold at0
  rw [List.getD_eq_getElem?_getD, List.getElem?_map, List.getElem?_range hk]; rfl
theorem suI_congr {f g : Nat → Int} : ∀ (n : Nat), (∀ j, j < n → f j = g j) → suI f n = suI g n
  | 0, _ => rfl
  | n + 1, h => by simp only [suI]; rw [suI_congr n fun j hj => h j (by omega), h n (by omega)]
theorem suI_mul (f : Nat → Int) (c : Int) : ∀ n, suI f n * c = suI (fun j => f j * c) n
  | 0 => by simp [suI]
  | n + 1 => by simp only [suI]; rw [Int.add_mul, suI_mul f c n]
theorem suI_lmul (f : Nat → Int) (c : Int) : ∀ n, c * suI f n = suI (fun j => c * f j) n
  | 0 => by simp [suI]
  | n + 1 => by simp only [suI]; rw [Int.mul_add, suI_lmul f c n]
theorem suI_add (f g : Nat → Int) : ∀ n, suI (fun j => f j + g j) n = suI f n + suI g n
  | 0 => rfl
  | n + 1 => by simp only [suI]; rw [suI_add f g n]; omega
theorem suI_zero : ∀ n, suI (fun _ => 0) n = 0
  | 0 => rfl
  | n + 1 => by simp only [suI]; rw [suI_zero n]; rfl
theorem suI_comm (g : Nat → Nat → Int) (n : Nat) : ∀ m, suI (fun k => suI (g k) n) m = suI (fun j => suI (fun k => g k j) m) n
  | 0 => by simp only [suI]; exact (suI_zero n).symm
  | m + 1 => by simp only [suI]; rw [suI_comm g n m, ← suI_add]
theorem suI_single (f : Nat → Int) (d : Int) {i : Nat} : ∀ (n : Nat), suI (fun j => f j * (if j = i then d else 0)) n = if i < n then f i * d else 0
  | 0 => by simp [suI]
  | n + 1 => by
    simp only [suI]
    rw [suI_single f d n]
    by_cases h : i < n
    · rw [if_pos h, if_neg (by omega), if_pos (by omega)]; simp
    · by_cases h2 : n = i
      · subst h2
        rw [if_neg h, if_pos rfl, if_pos (by omega)]; simp
      · rw [if_neg h, if_neg h2, if_neg (by omega)]; simp
theorem acc_mul {x y : Nat → Nat} {w u : Nat → Int} {A B n : Nat} (hx : ∀ j, j < n → isI (x j) (w j) ∧ (w j).natAbs ≤ A) (hy : ∀ j, j < n → isI (y j) (u j) ∧ (u j).natAbs ≤ B) (hA : A < 16777216) (hB : B < 16777216) (hAB : A * B < 16777216) (hn : n * (A * B) < 16777216) :
    isI (accF (fun j => fmul .f32 (x j) (y j)) n) (suI (fun j => w j * u j) n) ∧ (suI (fun j => w j * u j) n).natAbs ≤ n * (A * B) :=
  acc_isI n (fun j hj => by
    obtain ⟨h1, h2⟩ := hx j hj
    obtain ⟨h3, h4⟩ := hy j hj
    have h5 : (w j * u j).natAbs ≤ A * B := by rw [Int.natAbs_mul]; exact Nat.mul_le_mul h2 h4
    exact ⟨isI_mul h1 h3 (by omega) (by omega) (by omega), h5⟩) hn

end Go.Ax

/- Sums by codes: what is to be evaluated. -/
namespace Go.Ax
open Go Go.Proofs

def inlW : List FuncId := [61, 62, 64, 65, 67, 68, 153, 154, 155, 156, 157, 158, 180, 151, 236, 143, 237, 271, 144, 239, 241, 272, 227, 240, 242, 166, 131, 133, 136, 152, 228, 132, 188, 134, 143, 224, 230]
noncomputable def tabHd : Table := tabOf (jdeep Try.prog rowsA inlW 40000 10)
theorem tabHd_sound : SoundT Try.prog tabHd := jdeep_sound rowsA_at 10
noncomputable def rW (f : FuncId) (n : Nat) (x : Nat → Nat) : Res := tabHd f [.sl true 0 0 n 1] (cellsL n x) [] fun v H nd => .ret v H nd
/-- One stage of the sums, and all stages. -/
def hadS (h : Nat) (x : Nat → Nat) (i : Nat) : Nat := cond (Nat.beq ((i / h) % 2) 0) (fadd .f32 (x i) (x (i + h))) (fsub .f32 (x (i - h)) (x i))
def hadF : Nat → (Nat → Nat) → Nat → Nat
  | 0, x => x
  | k + 1, x => hadS (2 ^ k) (hadF k x)
def sumsL (k : Nat) (x : Nat → Nat) : List Nat := (List.range (2 ^ k)).map (hadF k x)
def backF (k : Nat) (x : Nat → Nat) (i : Nat) : Nat := fdiv .f32 (hadF k x i) (FloatKind.f32.nearest (Int.ofNat (2 ^ k)))
def backL (k : Nat) (x : Nat → Nat) : List Nat := (List.range (2 ^ k)).map (backF k x)
def plusM (l : List Nat) : List Nat := l.map plusF
/-- The first block behind that holds cells. -/
def firstC : Nat → Nat → List AB → Option Nat
  | _, _, [] => none
  | k0, i, B :: H => match Nat.ble k0 i with
    | true => match B with
      | .cells _ _ => some i
      | _ => firstC k0 (i + 1) H
    | false => firstC k0 (i + 1) H
def badC (k0 : Nat) (c : Nat) : Res → Bool
  | .ret v H nd => match v with
    | .tup [s, k] => match k with
      | .i _ .i64 n => eqL n (Int.ofNat c) && (allT nd && match s with
        | .slnil => match firstC k0 0 H with
          | some _ => true
          | none => false
        | .sl _ id off len _ => Nat.beq off 0 && (Nat.beq len 0 && (Nat.ble k0 id && match getB H id with
          | .cells _ (.f32 []) => true
          | _ => false))
        | _ => false)
      | _ => false
    | _ => false
  | _ => false
def SumRun (f : FuncId) (k : Nat) : Prop := ∀ x, (condsP (rW f (2 ^ k) x) [false, false], outK 1 ((rW f (2 ^ k) x).at [false, false]), badC 1 3 ((rW f (2 ^ k) x).at [false, true])) =
    ([!!finL (xL (2 ^ k) x), !!finL (sumsL k x)], some (plusM (sumsL k x), .i true .i64 0, true), true)
def BackRun (k : Nat) : Prop := ∀ x, (condsP (rW 67 (2 ^ k) x) [false, false], outK 1 ((rW 67 (2 ^ k) x).at [false, false]), badC 1 3 ((rW 67 (2 ^ k) x).at [false, true])) =
    ([!!finL (xL (2 ^ k) x), !!finL (backL k x)], some (plusM (backL k x), .i true .i64 0, true), true)
def SBackRun (k : Nat) : Prop := ∀ x, (condsP (rW 68 (2 ^ k) x) [false, false], outK 1 ((rW 68 (2 ^ k) x).at [false, false]), badC 1 3 ((rW 68 (2 ^ k) x).at [false, true])) =
    ([!!finL (xL (2 ^ k) x), !!finL (sumsL k x)], some (plusM (backL k x), .i true .i64 0, true), true)
end Go.Ax
