/- Small whole numbers as floats; what is not finite stays so. -/
import Derived.Test.YtdcjjibekhcplaaGreatBaz
namespace Go.Ax
open Go Ieee

def oneU : Int := 2 ^ 149
/-- A float that is a whole number. -/
def isI (x : Nat) (v : Int) : Prop := fint x = some (v * 2 ^ 149)
theorem rep_small {v : Int} (h : v.natAbs < 16777216) : Rep (v * 2 ^ 149).natAbs := by
  rw [Int.natAbs_mul, Int.natAbs_pow]
  show Rep (v.natAbs * 2 ^ 149)
  generalize v.natAbs = n at h
  rcases Nat.eq_zero_or_pos n with h0 | h0
  · subst h0; rw [Nat.zero_mul]; exact rep_zero
  · have hn : n ≠ 0 := by omega
    have hl : n.log2 < 24 := (Nat.log2_lt hn).2 (by rw [show 2 ^ 24 = 16777216 from rfl]; exact h)
    refine ⟨n * 2 ^ (23 - n.log2), 126 + n.log2, ?_, ?_, .inr ?_, by omega⟩
    · rw [Nat.mul_assoc, ← Nat.pow_add]
      congr 2
      omega
    · have : n * 2 ^ (23 - n.log2) < 2 ^ (n.log2 + 1) * 2 ^ (23 - n.log2) := Nat.mul_lt_mul_of_pos_right Nat.lt_log2_self (Nat.two_pow_pos _)
      rw [← Nat.pow_add, show n.log2 + 1 + (23 - n.log2) = 24 by omega] at this
      exact this
    · have : 2 ^ n.log2 * 2 ^ (23 - n.log2) ≤ n * 2 ^ (23 - n.log2) := Nat.mul_le_mul_right _ (Nat.log2_self_le hn)
      rw [← Nat.pow_add, show n.log2 + (23 - n.log2) = 23 by omega] at this
      exact this
theorem isI_add {x y : Nat} {a b : Int} (hx : isI x a) (hy : isI y b) (h : (a + b).natAbs < 16777216) : isI (fadd .f32 x y) (a + b) := by
  have := fadd_fint hx hy (by rw [← Int.add_mul]; exact rep_small h)
  rw [← Int.add_mul] at this
  exact this
theorem isI_sub {x y : Nat} {a b : Int} (hx : isI x a) (hy : isI y b) (h : (a - b).natAbs < 16777216) : isI (fsub .f32 x y) (a - b) := by
  have := fsub_fint hx hy (by rw [← Int.sub_mul]; exact rep_small h)
  rw [← Int.sub_mul] at this
  exact this
theorem isI_zero : isI 0 0 := by unfold isI; rw [fint_zero]; rfl
theorem isI_feq {x y : Nat} {a b : Int} (hx : isI x a) (hy : isI y b) : feq .f32 x y = (a == b) := by
  rw [feq_fint hx hy, Bool.eq_iff_iff]
  simp only [beq_iff_eq]
  exact scale_inj
/-- A whole number's parts. -/
theorem isI_parts {x : Nat} {a : Int} (hx : isI x a) (ha : a.natAbs < 16777216) : ∃ s m r, single.read x = .number s m (-149 + (r : Nat)) ∧ signed s m r = a * 2 ^ 149 ∧ m * 2 ^ r = a.natAbs * 2 ^ 149 ∧ m < 16777216 ∧ (a ≠ 0 → 8388608 ≤ m ∧ 126 ≤ r ∧ r ≤ 149) ∧ (a = 0 → m = 0) := by
  obtain ⟨s, m, r, e, h1, h2, h3, _⟩ := fint_form hx
  have hm : m * 2 ^ r = a.natAbs * 2 ^ 149 := by
    have h := congrArg Int.natAbs h1
    rw [Int.natAbs_mul, Int.natAbs_pow] at h
    unfold signed at h
    rw [Nat.shiftLeft_eq] at h
    have e2 : (if s = true then -((m * 2 ^ r : Nat) : Int) else ((m * 2 ^ r : Nat) : Int)).natAbs = m * 2 ^ r := by
      cases s <;> simp only [if_true, Bool.false_eq_true, if_false, Int.natAbs_neg, Int.natAbs_natCast]
    rw [e2] at h
    exact h.symm
  refine ⟨s, m, r, e, h1.symm, hm, h2, fun h0 => ?_, fun h0 => ?_⟩
  · have hpos : 1 ≤ a.natAbs := by omega
    have hr : 126 ≤ r := by
      rcases Nat.lt_or_ge r 126 with h | h
      · exfalso
        have h5 : m * 2 ^ r < 2 ^ 24 * 2 ^ 125 := Nat.mul_lt_mul_of_lt_of_le h2 (Nat.pow_le_pow_right (by decide) (by omega)) (Nat.two_pow_pos _)
        have h6 : 1 * 2 ^ 149 ≤ a.natAbs * 2 ^ 149 := Nat.mul_le_mul_right _ hpos
        rw [hm, ← Nat.pow_add] at h5
        omega
      · exact h
    have hmm : 8388608 ≤ m := by rcases h3 with h | h <;> omega
    refine ⟨hmm, hr, ?_⟩
    rcases Nat.lt_or_ge 149 r with h | h
    · exfalso
      have h5 : 2 ^ 23 * 2 ^ 150 ≤ m * 2 ^ r := Nat.mul_le_mul hmm (Nat.pow_le_pow_right (by decide) (by omega))
      have h6 : a.natAbs * 2 ^ 149 < 2 ^ 24 * 2 ^ 149 := Nat.mul_lt_mul_of_pos_right ha (Nat.two_pow_pos _)
      rw [hm, ← Nat.pow_add] at h5
      rw [← Nat.pow_add] at h6
      omega
    · exact h
  · subst h0
    rcases Nat.eq_zero_or_pos m with h | h
    · exact h
    · have := Nat.mul_pos h (Nat.two_pow_pos r)
      simp at hm; omega
theorem signed_xor (s t : Bool) (m n r q : Nat) : signed (s ^^ t) (m * n) (r + q) = signed s m r * signed t n q := by
  rw [signed_eq, signed_eq, signed_eq, Int.pow_add]
  push_cast
  have e : ((m : Int) * n) * (2 ^ r * 2 ^ q) = (m * 2 ^ r) * (n * 2 ^ q) := by
    rw [Int.mul_assoc, Int.mul_assoc, Int.mul_left_comm (n : Int)]
  cases s <;> cases t <;> simp [e, Int.neg_mul, Int.mul_neg]
theorem isI_mul {x y : Nat} {a b : Int} (hx : isI x a) (hy : isI y b) (ha : a.natAbs < 16777216) (hb : b.natAbs < 16777216) (h : (a * b).natAbs < 16777216) : isI (fmul .f32 x y) (a * b) := by
  obtain ⟨s, m, r, e1, h1, m1, _, p1, z1⟩ := isI_parts hx ha
  obtain ⟨t, n, q, e2, h2, m2, _, p2, z2⟩ := isI_parts hy hb
  unfold isI fmul Format.mul
  rw [show FloatKind.f32.format = single from rfl, e1, e2]
  show fint (single.nearest (s ^^ t) (m * n) (-149 + (r : Int) + (-149 + (q : Int)))) = _
  by_cases h0 : a = 0 ∨ b = 0
  · have hmn : m * n = 0 := by
      rcases h0 with h0 | h0
      · rw [z1 h0]; simp
      · rw [z2 h0]; simp
    have hab : a * b = 0 := by rcases h0 with h0 | h0 <;> simp [h0]
    rw [hmn, hab]
    unfold Format.nearest
    rw [if_pos rfl]
    cases (s ^^ t) <;> decide +kernel
  · have ha0 : a ≠ 0 := fun h => h0 (.inl h)
    have hb0 : b ≠ 0 := fun h => h0 (.inr h)
    obtain ⟨_, r1, _⟩ := p1 ha0
    obtain ⟨_, r2, _⟩ := p2 hb0
    have hp : -149 + (r : Int) + (-149 + (q : Int)) = -149 + ((r + q - 149 : Nat) : Int) := by omega
    have key : m * n * 2 ^ (r + q - 149) = (a * b).natAbs * 2 ^ 149 := by
      have h3 : m * n * 2 ^ (r + q - 149) * 2 ^ 149 = (a * b).natAbs * 2 ^ 149 * 2 ^ 149 := by
        have e3 : m * n * 2 ^ (r + q - 149) * 2 ^ 149 = (m * 2 ^ r) * (n * 2 ^ q) := by
          rw [Nat.mul_assoc (m * n), ← Nat.pow_add, show r + q - 149 + 149 = r + q by omega, Nat.pow_add]
          exact Nat.mul_mul_mul_comm m n (2 ^ r) (2 ^ q)
        rw [e3, m1, m2, Int.natAbs_mul]
        rw [Nat.mul_mul_mul_comm]
        rw [Nat.mul_assoc (a.natAbs * b.natAbs)]
      exact Nat.eq_of_mul_eq_mul_right (Nat.two_pow_pos _) h3
    rw [hp, nearest_rep _ _ _ (by rw [key]; have := rep_small h; rwa [Int.natAbs_mul, Int.natAbs_pow] at this)]
    have h4 : signed (s ^^ t) (m * n) (r + q) = a * b * 2 ^ 149 * 2 ^ 149 := by
      rw [signed_xor, h1, h2]
      rw [Int.mul_assoc, Int.mul_left_comm (2 ^ 149) b, ← Int.mul_assoc, Int.mul_assoc (a * b)]
    have h5 : signed (s ^^ t) (m * n) (r + q) = signed (s ^^ t) (m * n) (r + q - 149) * 2 ^ 149 := by
      have e4 : r + q = r + q - 149 + 149 := by omega
      exact (congrArg (signed (s ^^ t) (m * n)) e4).trans (signed_scale _ _ _ _)
    rw [h5] at h4
    exact congrArg some (scale_inj.1 h4)
theorem isI_div {x y : Nat} {c d : Int} (hx : isI x (c * d)) (hy : isI y d) (hd : 0 < d) (hd' : d.natAbs < 16777216) (hc : c.natAbs < 16777216) (h : (c * d).natAbs < 16777216) : isI (fdiv .f32 x y) c := by
  obtain ⟨s, m, r, e1, h1, m1, l1, p1, z1⟩ := isI_parts hx h
  obtain ⟨t, n, q, e2, h2, m2, l2, p2, _⟩ := isI_parts hy hd'
  obtain ⟨n1, q1, q2⟩ := p2 (by omega)
  have ht : t = false := by
    cases t with
    | false => rfl
    | true =>
      exfalso
      rw [signed_eq] at h2
      have h3 : (0 : Int) < d * 2 ^ 149 := Int.mul_pos hd (pow_pos' _)
      have h4 : (0 : Int) ≤ (n : Int) * 2 ^ q := Int.mul_nonneg (by omega) (Int.le_of_lt (pow_pos' _))
      simp only [if_true] at h2
      omega
  subst ht
  have hn : n ≠ 0 := by omega
  have hlog : n.log2 = 23 := log2_eq (by omega) (by omega)
  unfold isI fdiv Format.div
  rw [show FloatKind.f32.format = single from rfl, e1, e2]
  show fint (((Datum.quotient (23 + 2) (.number s m (-149 + (r : Nat))) (.number false n (-149 + (q : Nat)))).map single.write).getD (qnan .f32)) = _
  simp only [Datum.quotient, if_neg hn, Option.map_some, Option.getD_some]
  by_cases h0 : c = 0
  · subst h0
    have hm := z1 (by simp)
    subst hm
    rw [Nat.zero_shiftLeft, Nat.zero_div, Nat.zero_mod]
    show fint (single.nearest (s ^^ false) 0 _) = _
    unfold Format.nearest
    rw [if_pos rfl]
    cases s <;> decide +kernel
  · have hcd : c * d ≠ 0 := Int.mul_ne_zero h0 (by omega)
    obtain ⟨n3, r1, r2⟩ := p1 hcd
    have hlm : m.log2 = 23 := log2_eq (by omega) (by omega)
    have hmore : 23 + 2 + n.log2 - m.log2 = 25 := by omega
    rw [hmore]
    -- m 2^r = |c| n 2^q
    have key : m * 2 ^ r = c.natAbs * n * 2 ^ q := by
      rw [m1, Int.natAbs_mul, Nat.mul_assoc c.natAbs n, m2, Nat.mul_assoc]
    have hrq : r ≤ q + 25 := by
      rcases Nat.lt_or_ge (q + 25) r with hlt | hge
      · exfalso
        have h5 : 2 ^ 23 * 2 ^ (q + 26) ≤ m * 2 ^ r := Nat.mul_le_mul n3 (Nat.pow_le_pow_right (by decide) (by omega))
        have h6 : c.natAbs * n < 2 ^ 24 * 2 ^ 24 := Nat.mul_lt_mul_of_lt_of_le hc (Nat.le_of_lt l2) (by decide)
        have h7 : c.natAbs * n * 2 ^ q < 2 ^ 24 * 2 ^ 24 * 2 ^ q := Nat.mul_lt_mul_of_pos_right h6 (Nat.two_pow_pos _)
        rw [key] at h5
        have e3 : (2 : Nat) ^ 23 * 2 ^ (q + 26) = 2 ^ 24 * 2 ^ 24 * 2 ^ q * 2 := by
          rw [← Nat.pow_add, ← Nat.pow_add, ← Nat.pow_add, ← Nat.pow_succ]; congr 1; omega
        omega
      · exact hge
    have hdiv : m <<< 25 = n * (c.natAbs * 2 ^ (q + 25 - r)) := by
      rw [Nat.shiftLeft_eq]
      have h5 : m * 2 ^ 25 * 2 ^ r = n * (c.natAbs * 2 ^ (q + 25 - r)) * 2 ^ r := by
        have e3 : m * 2 ^ 25 * 2 ^ r = m * 2 ^ r * 2 ^ 25 := by rw [Nat.mul_assoc, Nat.mul_comm (2 ^ 25), ← Nat.mul_assoc]
        have e4 : n * (c.natAbs * 2 ^ (q + 25 - r)) * 2 ^ r = c.natAbs * n * (2 ^ (q + 25 - r) * 2 ^ r) := by
          rw [← Nat.mul_assoc n, Nat.mul_comm n, Nat.mul_assoc]
        rw [e3, e4, key, ← Nat.pow_add, Nat.mul_assoc, ← Nat.pow_add]
        congr 2; omega
      exact Nat.eq_of_mul_eq_mul_right (Nat.two_pow_pos _) h5
    rw [hdiv, Nat.mul_div_cancel_left _ (by omega), Nat.mul_mod_right]
    show fint (single.nearest (s ^^ false) (2 * (c.natAbs * 2 ^ (q + 25 - r)) + 0) (-149 + (r : Int) - (-149 + (q : Int)) - ((25 : Nat) : Int) - 1)) = _
    rw [Nat.add_zero]
    have hp : -149 + (r : Int) - (-149 + (q : Int)) - ((25 : Nat) : Int) - 1 = -149 + ((123 + r - q : Nat) : Int) := by omega
    rw [hp]
    have hval : 2 * (c.natAbs * 2 ^ (q + 25 - r)) * 2 ^ (123 + r - q) = c.natAbs * 2 ^ 149 := by
      have e6 : q + 25 - r + (123 + r - q) + 1 = 149 := by omega
      have e7 : ∀ C X Y : Nat, 2 * (C * X) * Y = C * (X * Y * 2) := fun C X Y => by ac_rfl
      rw [e7, ← Nat.pow_add, ← Nat.pow_succ]
      exact congrArg (fun k => c.natAbs * 2 ^ k) e6
    have hrep : Rep (2 * (c.natAbs * 2 ^ (q + 25 - r)) * 2 ^ (123 + r - q)) := by
      rw [hval]
      have := rep_small hc
      rwa [Int.natAbs_mul, Int.natAbs_pow] at this
    rw [nearest_rep _ _ _ hrep]
    refine congrArg some ?_
    -- signs
    have hs : s = decide (c < 0) := by
      rw [signed_eq] at h1
      have h4 : (0 : Int) < (m : Int) * 2 ^ r := Int.mul_pos (by omega) (pow_pos' _)
      have h5 : (0 : Int) < 2 ^ 149 := pow_pos' _
      cases s with
      | true =>
        simp only [if_true] at h1
        have : c * d * 2 ^ 149 < 0 := by omega
        have hcd' : c * d < 0 := by
          rcases Int.lt_or_le (c * d) 0 with h | h
          · exact h
          · have := Int.mul_nonneg h (Int.le_of_lt h5); omega
        have : c < 0 := by
          rcases Int.lt_or_le c 0 with h | h
          · exact h
          · have := Int.mul_nonneg h (Int.le_of_lt hd); omega
        simp [this]
      | false =>
        simp only [Bool.false_eq_true, if_false] at h1
        have : 0 < c * d * 2 ^ 149 := by omega
        have : ¬ c < 0 := fun hneg => by
          have h6 : c * d < 0 := Int.mul_neg_of_neg_of_pos hneg hd
          have h7 : c * d * 2 ^ 149 < 0 := Int.mul_neg_of_neg_of_pos h6 h5
          omega
        simp [this]
    rw [Bool.xor_false, hs, signed_eq]
    have hval' : ((2 * (c.natAbs * 2 ^ (q + 25 - r)) : Nat) : Int) * 2 ^ (123 + r - q) = (c.natAbs : Int) * 2 ^ 149 := by exact_mod_cast hval
    rw [hval']
    by_cases hneg : c < 0
    · have e5 : (c.natAbs : Int) = -c := by omega
      simp only [hneg, decide_true, if_true]
      rw [e5]
      simp [Int.neg_mul]
    · have e5 : (c.natAbs : Int) = c := by omega
      simp only [hneg, decide_false, Bool.false_eq_true, if_false]
      rw [e5]; simp

/-! ### What is not finite -/
theorem inf_not (s : Bool) : feq .f32 (fsub .f32 (single.word s single.infRung) (single.word s single.infRung)) 0 = false := by cases s <;> decide +kernel
theorem qnan_not : feq .f32 (fsub .f32 (qnan .f32) (qnan .f32)) 0 = false := by decide +kernel
theorem fadd_absorb {x y : Nat} (h : feq .f32 (fsub .f32 (fadd .f32 x y) (fadd .f32 x y)) 0 = true) : ∃ a, fint x = some a := by
  rcases read_form x with ⟨s, m, r, e, _⟩ | ⟨s, e⟩ | ⟨s, t, e⟩
  · exact ⟨_, fint_of e⟩
  · exfalso
    have key : fadd .f32 x y = qnan .f32 ∨ fadd .f32 x y = single.word s single.infRung := by
      unfold fadd Format.add
      rw [show FloatKind.f32.format = single from rfl, e]
      cases single.read y with
      | number t n j => exact .inr rfl
      | infinity t =>
        by_cases hst : s = t
        · subst hst
          right
          simp [Datum.sum, Format.write]
        · left
          simp [Datum.sum, hst]
      | nan t n => exact .inl rfl
    rcases key with k | k
    · rw [k, qnan_not] at h; cases h
    · rw [k, inf_not] at h; cases h
  · exfalso
    have key : fadd .f32 x y = qnan .f32 := by
      unfold fadd Format.add
      rw [show FloatKind.f32.format = single from rfl, e]; rfl
    rw [key, qnan_not] at h; cases h
theorem fdiv_absorb {x y n : Nat} {j : Int} {t : Bool} (hy : single.read y = .number t n j) (h : feq .f32 (fsub .f32 (fdiv .f32 x y) (fdiv .f32 x y)) 0 = true) : ∃ a, fint x = some a := by
  rcases read_form x with ⟨s, m, r, e, _⟩ | ⟨s, e⟩ | ⟨s, t', e⟩
  · exact ⟨_, fint_of e⟩
  · exfalso
    have key : fdiv .f32 x y = single.word (s ^^ t) single.infRung := by
      unfold fdiv Format.div
      rw [show FloatKind.f32.format = single from rfl, e, hy]; rfl
    rw [key, inf_not] at h; cases h
  · exfalso
    have key : fdiv .f32 x y = qnan .f32 := by
      unfold fdiv Format.div
      rw [show FloatKind.f32.format = single from rfl, e]; rfl
    rw [key, qnan_not] at h; cases h
theorem cut_le_gap (w : Toward) (g : Bool) (n d : Nat) : w.cut g n d ≤ n / 2 ^ min d (n.log2 + 2) + 1 := by
  unfold Toward.cut
  simp only [Nat.one_shiftLeft]
  have : ∀ b : Bool, b.toNat ≤ 1 := fun b => by cases b <;> decide
  exact Nat.add_le_add_left (this _) _
theorem kept_le (g : Bool) (mag : Nat) (place last : Int) (hl3 : place + (mag.log2 : Int) - 23 ≤ last) : Toward.even.cut g (mag <<< (place - last).toNat) (last - place).toNat ≤ 2 ^ 24 := by
  refine Nat.le_trans (cut_le_gap _ _ _ _) ?_
  have hmag : mag < 2 ^ (mag.log2 + 1) := Nat.lt_log2_self
  generalize mag.log2 = L at hl3 hmag
  rcases Int.lt_or_le place last with hp | hp
  · have e1 : (place - last).toNat = 0 := by omega
    rw [e1, Nat.shiftLeft_zero]
    have hL : 2 ^ (L + 1) ≤ 2 ^ 24 * 2 ^ min (last - place).toNat (mag.log2 + 2) ∨ mag < 2 ^ 24 * 2 ^ min (last - place).toNat (mag.log2 + 2) := by
      right
      have h2 : mag < 2 ^ (mag.log2 + 1) := Nat.lt_log2_self
      rw [← Nat.pow_add]
      rcases Nat.lt_or_ge (last - place).toNat (mag.log2 + 2) with h | h
      · rw [Nat.min_eq_left (by omega)]
        exact Nat.lt_of_lt_of_le hmag (Nat.pow_le_pow_right (by decide) (by omega))
      · rw [Nat.min_eq_right h]
        exact Nat.lt_of_lt_of_le h2 (Nat.pow_le_pow_right (by decide) (by omega))
    have hd : mag / 2 ^ min (last - place).toNat (mag.log2 + 2) < 2 ^ 24 := by
      rw [Nat.div_lt_iff_lt_mul (Nat.two_pow_pos _)]
      rcases hL with h | h
      · exact Nat.lt_of_lt_of_le hmag h
      · exact h
    exact hd
  · have e2 : (last - place).toNat = 0 := by omega
    rw [e2, Nat.zero_min, Nat.pow_zero, Nat.div_one, Nat.shiftLeft_eq]
    have h4 : mag * 2 ^ (place - last).toNat < 2 ^ (L + 1) * 2 ^ (place - last).toNat := Nat.mul_lt_mul_of_pos_right hmag (Nat.two_pow_pos _)
    rw [← Nat.pow_add] at h4
    have h5 : (2 : Nat) ^ (L + 1 + (place - last).toNat) ≤ 2 ^ 24 := Nat.pow_le_pow_right (by decide) (by omega)
    exact Nat.lt_of_lt_of_le h4 h5
theorem word_fin (g : Bool) (k : Nat) (h : k < 2139095040) : ∃ a, fint (single.word g k) = some a := by
  have hw : single.signWeight = 2147483648 := rfl
  obtain ⟨e1, e2⟩ := read_word single g k (by rw [hw]; omega)
  unfold fint Format.read
  rw [e1, e2, bin32, inf32]
  dsimp only
  by_cases hb : k < 8388608
  · rw [if_pos hb]; exact ⟨_, rfl⟩
  · rw [if_neg hb, if_pos h]; exact ⟨_, rfl⟩
/-- A number that is not too great is written as a finite one. -/
theorem nearest_fin (g : Bool) (mag : Nat) (place : Int) (h : place + mag.log2 ≤ 126) : ∃ a, fint (single.nearest g mag place) = some a := by
  unfold Format.nearest
  split
  · exact word_fin g 0 (by decide)
  · rw [least32, frac32, bin32, inf32]
    dsimp only
    generalize hlast : max (place + (mag.log2 : Nat) - (23 : Nat)) (-149) = last
    have hl1 : last ≤ 103 := by omega
    have hl2 : -149 ≤ last := by omega
    have hl3 : place + (mag.log2 : Int) - 23 ≤ last := by omega
    have hk := kept_le g mag place last hl3
    generalize Toward.even.cut g (mag <<< (place - last).toNat) (last - place).toNat = k at hk ⊢
    have hr : (last - -149).toNat ≤ 252 := by omega
    generalize (last - -149).toNat = r at hr ⊢
    have hk' : k ≤ 16777216 := hk
    refine word_fin g _ ?_
    omega
theorem fdiv_fin {x y n : Nat} {q : Nat} (hy : single.read y = .number false n (-149 + (q : Nat))) (hn : 8388608 ≤ n) (hn' : n < 16777216) (hq : 127 ≤ q) {a : Int} (hx : fint x = some a) : ∃ b, fint (fdiv .f32 x y) = some b := by
  obtain ⟨s, m, r, e1, _, l1, _, r1⟩ := fint_form hx
  have hlog : n.log2 = 23 := log2_eq (by omega) (by omega)
  unfold fdiv Format.div
  rw [show FloatKind.f32.format = single from rfl, e1, hy]
  show ∃ b, fint (((Datum.quotient (23 + 2) (.number s m (-149 + (r : Nat))) (.number false n (-149 + (q : Nat)))).map single.write).getD (qnan .f32)) = some b
  simp only [Datum.quotient, if_neg (show n ≠ 0 by omega), Option.map_some, Option.getD_some]
  generalize hmore : 23 + 2 + n.log2 - m.log2 = more
  refine nearest_fin _ _ _ ?_
  have hb : 2 * (m <<< more / n) + (m <<< more % n != 0).toNat < 2 ^ (more + 2) := by
    rw [Nat.shiftLeft_eq]
    have h1 : m * 2 ^ more / n < 2 ^ (more + 1) := by
      rw [Nat.div_lt_iff_lt_mul (by omega), Nat.pow_succ, Nat.mul_assoc, Nat.mul_comm (2 ^ more)]
      exact Nat.mul_lt_mul_of_pos_right (by omega) (Nat.two_pow_pos _)
    have h2 : (m * 2 ^ more % n != 0).toNat ≤ 1 := by cases (m * 2 ^ more % n != 0) <;> decide
    have h3 : (2 : Nat) ^ (more + 2) = 2 * 2 ^ (more + 1) := by rw [Nat.pow_succ]; omega
    omega
  generalize 2 * (m <<< more / n) + (m <<< more % n != 0).toNat = mag at hb
  have hl : mag.log2 ≤ more + 1 := by
    rcases Nat.eq_zero_or_pos mag with h | h
    · subst h; simp
    · have := (Nat.log2_lt (k := more + 2) (by omega)).2 hb; omega
  omega
end Go.Ax

/- Functions of pictures: from what is evaluated to calls. -/
namespace Go.Ax
open Go Go.Proofs

/-- A picture, or none, and a code. -/
def pcX (n c : Int) (Z : Nat → Nat) (j : Nat) : Nat := match eqQ false c 0 && Nat.blt j (n.toNat * n.toNat) with
  | true => plusF (Z j)
  | false => 0
def pcR (n c : Int) (Z : Nat → Nat) : AV := .tup [pv (cond (eqQ false c 0) n 0) (pcX n c Z), .i false .i64 c]
theorem ptup_weak {σ : List (Nat × Nat)} {l l' : List AV} {c c' : AV} {x : Value} (h : l.map AV.bare = l'.map AV.bare) (hc : c.bare = c'.bare) (r : Rel σ (.tup [.agg l, c]) x) : Rel σ (.tup [.agg l', c']) x := tup2_weak h hc r
theorem iPV_rel {n c : Int} {sel : (α : Type) → α → α → α} {Z : Nat → Nat} (hsel : ∀ (α : Type) (a b : α), sel α a b = cond (eqQ false c 0) b a) {σ : List (Nat × Nat)} {x : Value} (r : Rel σ (iPV (n.toNat * n.toNat) n sel Z c) x) : Rel σ (pcR n c Z) x := by
  unfold iPV at r
  refine tup2_weak (l' := picL (cond (eqQ false c 0) n 0) (pcX n c Z)) (c' := .i false .i64 c) ?_ rfl r
  simp only [picL, List.map_cons, List.map_map, AV.bare, hsel]
  congr 1
  apply List.map_congr_left
  intro j _
  simp only [Function.comp, fx, pcX]
  rw [ble_blt]
  cases hb : Nat.blt j (n.toNat * n.toNat) with
  | false => simp [AV.bare]
  | true => cases eqQ false c 0 <;> simp [AV.bare, plus_zero]
theorem sPV_rel {n c : Int} {sel : (α : Type) → α → α → α} {Z : Nat → Nat} (hsel : ∀ (α : Type) (a b : α), sel α a b = cond (eqQ false c 0) b a) (ht : eqQ false c 0 = true → ∀ j, j < 64 → n.toNat * n.toNat ≤ j → plusF (Z j) = 0) {σ : List (Nat × Nat)} {x : Value} (r : Rel σ (sPV n sel Z c) x) : Rel σ (pcR n c Z) x := by
  unfold sPV at r
  refine tup2_weak (l' := picL (cond (eqQ false c 0) n 0) (pcX n c Z)) (c' := .i false .i64 c) ?_ rfl r
  simp only [picL, List.map_cons, List.map_map, AV.bare, hsel]
  congr 1
  apply List.map_congr_left
  intro j hj
  simp only [List.mem_range] at hj
  simp only [Function.comp, fx, pcX]
  cases hc : eqQ false c 0 with
  | false => simp [AV.bare, plus_zero]
  | true =>
    cases hb : Nat.blt j (n.toNat * n.toNat) with
    | true => simp [AV.bare]
    | false =>
      have := ht hc j hj (by have := blt_false hb; omega)
      simp [AV.bare, this]
theorem zPV_rel {n c : Int} {Z : Nat → Nat} {k : Int} (hc : c = k) (hk : k ≠ 0) {σ : List (Nat × Nat)} {x : Value} (r : Rel σ (zPV k) x) : Rel σ (pcR n c Z) x := by
  subst hc
  have e : eqQ false c 0 = false := by rw [eqQ_eq]; simpa using hk
  unfold zPV at r
  refine tup2_weak (l' := picL (cond (eqQ false c 0) n 0) (pcX n c Z)) (c' := .i false .i64 c) ?_ (by rfl) r
  have : (List.range 64).map (fx (pcX n c Z)) = List.replicate 64 (.f false .f32 0) := by
    have : fx (pcX n c Z) = fun _ => .f false .f32 0 := funext fun j => by simp [fx, pcX, e]
    rw [this]; rfl
  simp only [picL, this, e]
  rfl
theorem pv_pvT_low (n m : Int) (X Y : Nat → Nat) (l l' : Bool) : belowL 0 [pvT l n X, pvT l' m Y] = true := by simp [belowL, pvT_low]
/-! ### Differences -/
theorem finB_iff {x : Nat} : finB x = true ↔ ∃ a, fint x = some a := ⟨fun h => finB_fint h, fun ⟨_, h⟩ => fint_finB h⟩
theorem difF_mono {X Y : Nat → Nat} {k : Nat} (h : finB (difF X Y (k + 1)) = true) : finB (difF X Y k) = true := by
  rw [difF] at h
  exact finB_iff.2 (fadd_absorb h)
theorem nst_eq {α : Type} {X Y : Nat → Nat} {N : Nat} {a b : α} : ∀ j, j + 1 ≤ N → nst X Y N a b (j + 1) = cond (finB (difF X Y N)) b a
  | 0, _ => by
    rw [nst, Nat.sub_zero, nst]
    cases finB (difF X Y N) <;> rfl
  | j + 1, h => by
    rw [nst, nst_eq j (by omega)]
    cases hf : finB (difF X Y (N - (j + 1))) with
    | true => rfl
    | false =>
      have key : ∀ k, finB (difF X Y (N - (j + 1) + k)) = false := fun k => by
        induction k with
        | zero => exact hf
        | succ k ih =>
          cases h1 : finB (difF X Y (N - (j + 1) + (k + 1))) with
          | false => rfl
          | true =>
            have := difF_mono (k := N - (j + 1) + k) h1
            rw [ih] at this; cases this
      have := key (j + 1)
      rw [show N - (j + 1) + (j + 1) = N by omega] at this
      rw [this]; rfl
noncomputable def difR (n : Int) (X : Nat → Nat) (m : Int) (Y : Nat → Nat) : AV := difV (tpC (isPicB n X) (isPicB m Y) n m) (difF X Y (n.toNat * n.toNat))
theorem tpC_none {g2 : Bool} {n m : Int} : tpC false g2 n m = 1 := rfl
theorem dif_ok (f : FuncId) (hf : f = 34 ∨ f = 35) (n : Int) (X : Nat → Nat) (m : Int) (Y : Nat → Nat) (H : List AB) : CallOK Tryz.prog f [pv n X, pv m Y] H (difR n X m Y) H := by
  cases hs : sideB n with
  | false =>
    have e : difR n X m Y = .tup [.f false .f32 0, .i false .i64 1] := by
      unfold difR difV
      rw [noSide_pic hs, tpC_none]
      show AV.tup [.f false .f32 (plusF 0), .i false .i64 1] = _
      rw [plus_zero]
    rw [e]
    rcases hf with rfl | rfl
    · exact ((call_of_join (args := [pvT false n X, pvT false m Y]) tabPn_sound (n34 n X Y m) (by simp [allT, hs]) (pv_pvT_low _ _ _ _ _ _) H).deep (args' := [pv n X, pv m Y]) rfl).weaken fun σ x r => tup_bare (by rfl) r
    · exact ((call_of_join (args := [pvT false n X, pvT false m Y]) tabPn_sound (n35 n X Y m) (by simp [allT, hs]) (pv_pvT_low _ _ _ _ _ _) H).deep (args' := [pv n X, pv m Y]) rfl).weaken fun σ x r => tup_bare (by rfl) r
  | true =>
    have hd := side_cases hs
    rcases hf with rfl | rfl
    · have k := (call_of_join (args := [pvT true n X, pvT false m Y]) tabPc_sound (p34 _ n hd X Y m) rfl (pv_pvT_low _ _ _ _ _ _) H).deep (args' := [pv n X, pv m Y]) rfl
      rw [isPicB_re, isPicB_re] at k
      exact k
    · have k := (call_of_join (args := [pvT true n X, pvT false m Y]) tabPc_sound (p35 _ n hd X Y m) rfl (pv_pvT_low _ _ _ _ _ _) H).deep (args' := [pv n X, pv m Y]) rfl
      rw [isPicB_re, isPicB_re] at k
      have hN : ∃ N', n.toNat * n.toNat = N' + 1 := by
        rcases sideB_iff.1 hs with rfl | rfl | rfl | rfl
        · exact ⟨0, rfl⟩
        · exact ⟨3, rfl⟩
        · exact ⟨15, rfl⟩
        · exact ⟨63, rfl⟩
      obtain ⟨N', hN⟩ := hN
      unfold difR difV lim limC
      unfold difSV at k
      rw [hN] at k ⊢
      rw [nst_eq N' (by omega), nst_eq N' (by omega)] at k
      cases hq : finB (difF X Y (N' + 1)) <;> rw [hq] at k <;> exact k
end Go.Ax

/- Regions of open order in which calls that write to one block and stores to another (one behind the other) stand among operations that leave memory alone. -/
namespace Go.Ax
open Go

section
variable {P : Program} {T : Table} {ops : Array Oper} {m : Nat}

/-- Both blocks may be written; memory without them. -/
def GoodM (sc ss : Nat) (Hd H : List AB) : Prop := setB (setB H sc .dead) ss .dead = Hd ∧ (getB H sc).rw = true ∧ (getB H ss).rw = true
theorem setB_twice : ∀ (l : List AB) (n : Nat) (x y : AB), setB (setB l n x) n y = setB l n y
  | [], _, _, _ => rfl
  | a :: l, 0, x, y => rfl
  | a :: l, n + 1, x, y => by simp only [setB]; rw [setB_twice l n x y]
theorem setB_comm : ∀ (l : List AB) (n k : Nat) (x y : AB), n ≠ k → setB (setB l n x) k y = setB (setB l k y) n x
  | [], _, _, _, _, _ => rfl
  | a :: l, 0, 0, x, y, h => absurd rfl h
  | a :: l, 0, k + 1, x, y, _ => rfl
  | a :: l, n + 1, 0, x, y, _ => rfl
  | a :: l, n + 1, k + 1, x, y, h => by simp only [setB]; rw [setB_comm l n k x y (fun e => h (by rw [e]))]
theorem rw_lt {H : List AB} {i : Nat} (h : (getB H i).rw = true) : i < H.length := by
  rcases Nat.lt_or_ge i H.length with h' | h'
  · exact h'
  · rw [getB_none h'] at h; cases h
theorem GoodM.call {sc ss : Nat} {Hd H : List AB} {B : AB} (h : GoodM sc ss Hd H) (hne : sc ≠ ss) (hB : B.rw = true) : GoodM sc ss Hd (setB H sc B) :=
  ⟨by rw [setB_twice]; exact h.1, by rw [getB_setB_same (rw_lt h.2.1)]; exact hB, by rw [getB_setB_ne hne]; exact h.2.2⟩
theorem GoodM.store {sc ss : Nat} {Hd H : List AB} {B : AB} (h : GoodM sc ss Hd H) (hne : sc ≠ ss) (hB : B.rw = true) : GoodM sc ss Hd (setB H ss B) :=
  ⟨by rw [setB_comm H ss sc B .dead (Ne.symm hne), setB_twice]; exact h.1, by rw [getB_setB_ne (Ne.symm hne)]; exact h.2.1, by rw [getB_setB_same (rw_lt h.2.2)]; exact hB⟩
theorem GoodM.alive {sc ss k : Nat} {Hd H : List AB} {t : List AV} {v : AV} (h : GoodM sc ss Hd H) (hne : sc ≠ ss) (q : QVal P ops k t Hd v) : QVal P ops k t H v :=
  (q.alive h.1 (by rw [getB_setB_ne hne]; exact h.2.2)).alive rfl h.2.1
theorem any_mix2 (hok : drawOK ops m = true) (hmn : m ≤ ops.size) {t t' : List AV} {H' : List AB} {val : Nat → AV} {eff : Nat → Bool} {mem : Nat → List AB}
    (hq : ∀ i, i < m → eff i = false → (∀ k, k ≤ m → QVal P ops i (stAt ops val t 0 i) (mem k) (val i)) ∧ mem (i + 1) = mem i)
    (he : ∀ i, i < m → eff i = true → EVal P ops i (stAt ops val t 0 i) (mem i) (val i) (mem (i + 1)) ∧ ∀ k, k < i → eff k = true → aheadOf ops 10 i k = true)
    (c : Chain P ops m (stAt ops val t 0 m) (mem m) ops.size t' H') {Q : Exit → Act → World → Prop} {σ : List (Nat × Nat)} :
    ∀ (fuel : Nat) (listed : Array Bool) (a : Act) (w : World) (k : Nat), listed.size = ops.size → Down ops listed →
      (left ops listed).length ≤ fuel → (∀ i, m ≤ i → ¬ Ls listed i) → k ≤ m → (∀ i, i < m → eff i = true → (Ls listed i ↔ i < k)) → Sim σ (mem k) w → a.tmps.size = t.length →
      (∀ x, (∀ i, i < m → Ls listed i → gDst ops i = some x → x < t.length → Rel σ (val i) (a.tmps.getD x undef)) ∧ ((∀ i, i < m → Ls listed i → gDst ops i ≠ some x) → Rel σ (getL t x) (a.tmps.getD x undef))) →
      (∀ a' w' σ', RelL σ' t' a'.tmps.toList → a'.defers = a.defers → Sim σ' H' w' → Fr σ (mem k) w σ' H' w' → Q .normal a' w') → wpAny P .any ops Q fuel listed a w := by
  have hdist : ∀ i i', i < m → i' < m → i' ≠ i → ∀ x, gDst ops i = some x → gDst ops i' ≠ some x := fun i i' hi hi' hne x hx => by
    have hoi : ops[i]? = some ops[i] := Array.getElem?_eq_getElem (by omega)
    have hd : ops[i].dst = some x := by simpa [gDst, hoi] using hx
    exact ((drawOK_spec hok i _ hoi).2.1 hi).2 i' hi' hne x hd
  -- memory stays where nothing of the one block comes between
  have hsame : ∀ (n k : Nat), k + n ≤ m → (∀ i, k ≤ i → i < k + n → eff i = false) → mem (k + n) = mem k := by
    intro n
    induction n with
    | zero => intros; rfl
    | succ n ih =>
      intro k hk hno
      rw [show k + (n + 1) = (k + n) + 1 by omega, (hq (k + n) (by omega) (hno _ (by omega) (by omega))).2]
      exact ih k (by omega) fun i h1 h2 => hno i h1 (by omega)
  have htail : ∀ (fuel : Nat) (listed : Array Bool) (a : Act) (w : World) (k : Nat), listed.size = ops.size → Down ops listed →
      (left ops listed).length ≤ fuel → (∀ i, m ≤ i → ¬ Ls listed i) → (∀ i, i < m → Ls listed i) → k ≤ m → (∀ i, i < m → eff i = true → (Ls listed i ↔ i < k)) → Sim σ (mem k) w → a.tmps.size = t.length →
      (∀ x, (∀ i, i < m → Ls listed i → gDst ops i = some x → x < t.length → Rel σ (val i) (a.tmps.getD x undef)) ∧ ((∀ i, i < m → Ls listed i → gDst ops i ≠ some x) → Rel σ (getL t x) (a.tmps.getD x undef))) →
      (∀ a' w' σ', RelL σ' t' a'.tmps.toList → a'.defers = a.defers → Sim σ' H' w' → Fr σ (mem k) w σ' H' w' → Q .normal a' w') → wpAny P .any ops Q fuel listed a w := by
    intro fuel listed a w k hsz hd hf hnm hall hkm hk s hat hx q
    have hmk : mem m = mem k := by
      have := hsame (m - k) k (by omega) fun i h1 h2 => by
        cases hei : eff i with
        | false => rfl
        | true => have := (hk i (by omega) hei).1 (hall i (by omega)); omega
      rwa [show k + (m - k) = m by omega] at this
    rw [← hmk] at s q
    refine any_tail hok fuel listed m _ (mem m) σ a w hsz hd hf (Nat.le_refl _) (fun i hi => ⟨fun h => ?_, fun h => hall i h⟩) c s ?_ q
    · rcases Nat.lt_or_ge i m with h' | h'
      · exact h'
      · exact absurd h (hnm i h')
    · refine RelL.of_get (by rw [stAt_length]; simpa using hat.symm) fun x b y hb hy => ?_
      have hxl : x < t.length := by
        rcases Nat.lt_or_ge x t.length with h' | h'
        · exact h'
        · rw [List.getElem?_eq_none (by rw [stAt_length]; exact h')] at hb; cases hb
      have hb' : b = getL (stAt ops val t 0 m) x := by
        rw [getL_some (by rw [stAt_length]; exact hxl)] at hb; cases hb; rfl
      have hy' : a.tmps.getD x undef = y := by
        have : a.tmps[x]? = some y := by simpa using hy
        rw [Array.getD_eq_getD_getElem?, this]; rfl
      subst hb'
      rw [← hy']
      by_cases hex : ∃ i, i < m ∧ gDst ops i = some x
      · obtain ⟨i, hi, hgi⟩ := hex
        rw [stAt_val ops val m 0 t i (by omega) (by omega) hgi hxl (fun i' _ h2 h3 => hdist i i' hi (by omega) h3 x hgi)]
        exact (hx x).1 i hi (hall i hi) hgi hxl
      · have hno : ∀ i, i < m → gDst ops i ≠ some x := fun i hi hg => hex ⟨i, hi, hg⟩
        rw [stAt_untouched ops val m 0 t (fun i _ h2 => hno i (by omega))]
        exact (hx x).2 fun i hi _ => hno i hi
  intro fuel
  induction fuel with
  | zero =>
    intro listed a w k hsz hd hf hnm hkm hk s hat hx q
    refine htail 0 listed a w k hsz hd hf hnm (fun i hi => ?_) hkm hk s hat hx q
    apply Classical.byContradiction
    intro hn
    have : i ∈ left ops listed := mem_left.2 ⟨by omega, hn⟩
    have := List.length_pos_of_mem this
    omega
  | succ fuel ih =>
    intro listed a w k hsz hd hf hnm hkm hk s hat hx q
    by_cases hall : ∀ i, i < m → Ls listed i
    · exact htail _ listed a w k hsz hd hf hnm hall hkm hk s hat hx q
    refine ⟨fun hr => ?_, fun j hj => ?_⟩
    · exfalso
      apply hall
      intro i hi
      apply Classical.byContradiction
      intro hn
      obtain ⟨y, hy⟩ := ready_some hok hsz i (by omega) hn
      rw [hr] at hy; cases hy
    · obtain ⟨hnl, o, ho, hafter⟩ := (mem_ready' hsz).1 hj
      have hjs := (Array.getElem?_eq_some_iff.1 ho).1
      have hjm : j < m := by
        rcases Nat.lt_or_ge j m with h | h
        · exact h
        · exfalso
          apply hall
          intro i hi
          exact ahead_ready hd hsz hj ((drawOK_spec hok j o ho).2.2 h i (by omega))
      have hdst : gDst ops j = o.dst := by simp [gDst, ho]
      have hlook : ∀ n ∈ looks ops o, Rel σ (getL (stAt ops val t 0 j) n) (a.tmps.getD n undef) := fun n hn => by
        by_cases hnl' : n < t.length
        · by_cases hex : ∃ i, i < m ∧ gDst ops i = some n
          · obtain ⟨i, hi, hgi⟩ := hex
            have hah := ((drawOK_spec hok j o ho).2.1 hjm).1 n hn i hi hgi
            have hil := ahead_ready hd hsz hj hah
            have him : i < m := hi
            have hij : i < j := aheadOf_lt hok 10 j i hah
            rw [stAt_val ops val j 0 t i (by omega) (by omega) hgi hnl' (fun i' _ h2 h3 => hdist i i' him (by omega) h3 n hgi)]
            exact (hx n).1 i him hil hgi hnl'
          · have hno : ∀ i, i < m → gDst ops i ≠ some n := fun i hi hg => hex ⟨i, hi, hg⟩
            rw [stAt_untouched ops val j 0 t (fun i _ h2 => hno i (by omega))]
            exact (hx n).2 fun i hi _ => hno i (by omega)
        · rw [getL_none (by rw [stAt_length]; omega)]
          have : a.tmps.getD n undef = undef := by
            rw [Array.getD_eq_getD_getElem?, Array.getElem?_eq_none (by omega)]; rfl
          rw [this]; exact .tup .nil
      -- behind the operation
      have hnext : ∀ (k' : Nat) (rv : Value) (w' : World), k' ≤ m → (∀ i, i < m → eff i = true → (Ls (listed.setIfInBounds j true) i ↔ i < k')) → Rel σ (val j) rv → Sim σ (mem k') w' → Fr σ (mem k) w σ (mem k') w' →
          wpAny P .any ops Q fuel (listed.setIfInBounds j true) (a.put o.dst rv) w' := fun k' rv w' hk'm hk' hrv s' f' => by
        refine ih (listed.setIfInBounds j true) (a.put o.dst rv) w' k' (by simpa using hsz) (hd.set hsz hj) ?_ (fun i hi => ?_) hk'm hk' s' ?_ (fun x => ⟨fun i hi hli hgi hxl => ?_, fun hno => ?_⟩) fun a2 w2 σ2 r2 d2 s2 f2 => q a2 w2 σ2 r2 (d2.trans (put_defers _ _ _)) s2 (f'.trans f2)
        · have := left_set hjs hsz hnl; omega
        · rw [Ls_set (by omega)]; rintro (rfl | h)
          · omega
          · exact hnm i hi h
        · cases o.dst <;> simp [Act.put, hat]
        · rw [Ls_set (by omega)] at hli
          by_cases hij : i = j
          · subst hij
            rw [hdst] at hgi
            rw [hgi]
            simp only [Act.put]
            rw [Array.getD_eq_getD_getElem?, Array.getElem?_setIfInBounds_self_of_lt (by omega)]
            exact hrv
          · have hne : o.dst ≠ some x := by rw [← hdst]; exact hdist i j hi hjm (Ne.symm hij) x hgi
            have : (a.put o.dst rv).tmps.getD x undef = a.tmps.getD x undef := by
              cases hod : o.dst with
              | none => rfl
              | some d =>
                have hdx : d ≠ x := fun e => hne (by rw [hod, e])
                simp [Act.put, Array.getD_eq_getD_getElem?, Array.getElem?_setIfInBounds_ne hdx]
            rw [this]
            exact (hx x).1 i hi (hli.resolve_left hij) hgi hxl
        · have hne : o.dst ≠ some x := by rw [← hdst]; exact hno j hjm ((Ls_set (by omega)).2 (.inl rfl))
          have : (a.put o.dst rv).tmps.getD x undef = a.tmps.getD x undef := by
            cases hod : o.dst with
            | none => rfl
            | some d =>
              have hdx : d ≠ x := fun e => hne (by rw [hod, e])
              simp [Act.put, Array.getD_eq_getD_getElem?, Array.getElem?_setIfInBounds_ne hdx]
          rw [this]
          exact (hx x).2 fun i hi hli => hno i hi ((Ls_set (by omega)).2 (.inr hli))
      cases hej : eff j with
      | false =>
        obtain ⟨o', ho', hqv⟩ := (hq j hjm hej).1 k hkm
        rw [ho] at ho'; cases ho'
        refine hqv σ w a Q _ s hlook (by rw [stAt_length]; exact hat) fun rv w' hrv s' f' => hnext k rv w' hkm (fun i hi hei => ?_) hrv s' f'
        rw [Ls_set (by omega)]
        have hij : i ≠ j := fun e => by rw [e, hej] at hei; cases hei
        rw [← hk i hi hei]
        exact ⟨fun h => h.resolve_left hij, .inr⟩
      | true =>
        obtain ⟨hev, hahead⟩ := he j hjm hej
        have hkj : k ≤ j := by
          rcases Nat.lt_or_ge j k with h | h
          · exact absurd ((hk j hjm hej).2 h) hnl
          · exact h
        have hmj : mem j = mem k := by
          have := hsame (j - k) k (by omega) fun i h1 h2 => by
            cases hei : eff i with
            | false => rfl
            | true =>
              have := (hk i (by omega) hei).1 (ahead_ready hd hsz hj (hahead i (by omega) hei))
              omega
          rwa [show k + (j - k) = j by omega] at this
        obtain ⟨o', ho', hqv⟩ := hev
        rw [ho] at ho'; cases ho'
        rw [hmj] at hqv
        refine hqv σ w a Q _ s hlook (by rw [stAt_length]; exact hat) fun rv w' hrv s' f' => hnext (j + 1) rv w' (by omega) (fun i hi hei => ?_) hrv s' f'
        rw [Ls_set (by omega)]
        constructor
        · rintro (rfl | h)
          · omega
          · have := (hk i hi hei).1 h; omega
        · intro h
          by_cases hij : i = j
          · exact .inl hij
          · exact .inr (ahead_ready hd hsz hj (hahead i (by omega) hei))
end


/-! ### Their evaluation -/
section
variable (P : Program) (T : Table) (E : List FuncId) (sc ss : Nat)
def runN : List Oper → List AV → List AB → List Bool → KT → Res
  | [], t, H, nd, K => K t H nd
  | o :: rest, t, H, nd, K =>
    match o.guard with
    | some _ => .fail
    | none => match isEffCall E o with
      | false => stepQ P T o t (setB (setB H sc .dead) ss .dead) nd fun t nd => runN rest t H nd K
      | true => if o.op.operands.all okOpd then
          match o.op with
          | .call c => match aCall c (evA t) with
            | some (g, args) => match P.funcs[g]? with
              | some fn => match fn.body with
                | some _ => match fn.name == "runtime.NumGoroutine" with
                  | true => .fail
                  | false => T g args (roBut sc H) nd fun v H' nd' => match below H.length v && lowB H.length (getB H' sc) && (getB H' sc).rw with
                    | true => runN rest (putT t o.dst v) (setB H sc (getB H' sc)) nd' K
                    | false => .fail
                | none => .fail
              | none => .fail
            | none => .fail
          | .store ty x y => match eop P (.store ty x y) (evA t) (roBut ss H) with
            | some (v, H', n) => match below H.length v && lowB H.length (getB H' ss) && (getB H' ss).rw with
              | true => runN rest (putT t o.dst v) (setB H ss (getB H' ss)) (n ++ nd) K
              | false => .fail
            | none => .fail
          | _ => .fail
        else .fail
end
inductive NChain (P : Program) (E : List FuncId) (ops : Array Oper) (sc ss : Nat) (Hd : List AB) : Nat → List AV → List AB → Nat → List AV → List AB → Prop
  | nil {k : Nat} {t : List AV} {H : List AB} (hH : GoodM sc ss Hd H) : NChain P E ops sc ss Hd k t H k t H
  | q {k j : Nat} {t t' : List AV} {H H' : List AB} {v : AV} (he : effAt E ops k = false) (h : QVal P ops k t Hd v) (hH : GoodM sc ss Hd H) (c : NChain P E ops sc ss Hd (k + 1) (putT t (gDst ops k) v) H j t' H') : NChain P E ops sc ss Hd k t H j t' H'
  | e {k j : Nat} {t t' : List AV} {H H1 H' : List AB} {v : AV} (he : effAt E ops k = true) (h : EVal P ops k t H v H1) (hH : GoodM sc ss Hd H) (c : NChain P E ops sc ss Hd (k + 1) (putT t (gDst ops k) v) H1 j t' H') : NChain P E ops sc ss Hd k t H j t' H'
theorem NChain.vals {P : Program} {E : List FuncId} {ops : Array Oper} {sc ss : Nat} {Hd : List AB} {k j : Nat} {t t' : List AV} {H H' : List AB} (c : NChain P E ops sc ss Hd k t H j t' H') :
    ∃ (val : Nat → AV) (mem : Nat → List AB), k ≤ j ∧ t' = stAt ops val t k (j - k) ∧ mem k = H ∧ mem j = H' ∧ (∀ i, k ≤ i → i ≤ j → GoodM sc ss Hd (mem i)) ∧
      ∀ i, k ≤ i → i < j → (effAt E ops i = false → QVal P ops i (stAt ops val t k (i - k)) Hd (val i) ∧ mem (i + 1) = mem i) ∧ (effAt E ops i = true → EVal P ops i (stAt ops val t k (i - k)) (mem i) (val i) (mem (i + 1))) := by
  have hcongr : ∀ (val : Nat → AV) (v : AV) (k n k' : Nat) (t : List AV), k < k' → stAt ops (fun i => if i = k then v else val i) t k' n = stAt ops val t k' n := by
    intro val v k n
    induction n with
    | zero => intros; rfl
    | succ n ihn => intro k' t hk; simp only [stAt]; rw [if_neg (by omega)]; exact ihn _ _ (by omega)
  have step : ∀ {k j : Nat} {t t' : List AV} {H H1 H' : List AB} {v : AV}, GoodM sc ss Hd H →
      ((effAt E ops k = false → QVal P ops k t Hd v ∧ H1 = H) ∧ (effAt E ops k = true → EVal P ops k t H v H1)) →
      (∃ (val : Nat → AV) (mem : Nat → List AB), k + 1 ≤ j ∧ t' = stAt ops val (putT t (gDst ops k) v) (k + 1) (j - (k + 1)) ∧ mem (k + 1) = H1 ∧ mem j = H' ∧ (∀ i, k + 1 ≤ i → i ≤ j → GoodM sc ss Hd (mem i)) ∧
        ∀ i, k + 1 ≤ i → i < j → (effAt E ops i = false → QVal P ops i (stAt ops val (putT t (gDst ops k) v) (k + 1) (i - (k + 1))) Hd (val i) ∧ mem (i + 1) = mem i) ∧ (effAt E ops i = true → EVal P ops i (stAt ops val (putT t (gDst ops k) v) (k + 1) (i - (k + 1))) (mem i) (val i) (mem (i + 1)))) →
      ∃ (val : Nat → AV) (mem : Nat → List AB), k ≤ j ∧ t' = stAt ops val t k (j - k) ∧ mem k = H ∧ mem j = H' ∧ (∀ i, k ≤ i → i ≤ j → GoodM sc ss Hd (mem i)) ∧
        ∀ i, k ≤ i → i < j → (effAt E ops i = false → QVal P ops i (stAt ops val t k (i - k)) Hd (val i) ∧ mem (i + 1) = mem i) ∧ (effAt E ops i = true → EVal P ops i (stAt ops val t k (i - k)) (mem i) (val i) (mem (i + 1))) := by
    intro k j t t' H H1 H' v hH h ⟨val, mem, hle, e1, e2, e3, e4, e5⟩
    refine ⟨fun i => if i = k then v else val i, fun i => if i = k then H else mem i, by omega, ?_, by simp, by simp only []; rw [if_neg (by omega)]; exact e3, fun i h1 h2 => ?_, fun i h1 h2 => ?_⟩
    · rw [show j - k = (j - (k + 1)) + 1 by omega, e1]
      simp only [stAt, if_true]
      exact (hcongr _ _ _ _ _ _ (by omega)).symm
    · by_cases hik : i = k
      · simp only [hik, if_true]; exact hH
      · simp only [hik, if_false]; exact e4 i (by omega) h2
    · by_cases hik : i = k
      · subst hik
        simp only [Nat.sub_self, if_true, show ¬ i + 1 = i by omega, if_false, e2]
        exact h
      · have e6 : i - k = (i - (k + 1)) + 1 := by omega
        rw [e6]
        simp only [stAt, if_true, hik, if_false, show ¬ i + 1 = k by omega]
        rw [hcongr _ _ _ _ _ _ (by omega)]
        exact e5 i (by omega) h2
  induction c with
  | @nil k t H hH => exact ⟨fun _ => .tup [], fun _ => H, Nat.le_refl _, (by rw [Nat.sub_self]; rfl), rfl, rfl, fun _ _ _ => hH, fun i h1 h2 => by omega⟩
  | q he h hH c ih => exact step hH ⟨fun _ => ⟨h, rfl⟩, fun h' => (by rw [he] at h'; cases h')⟩ ih
  | e he h hH c ih => exact step hH ⟨fun h' => (by rw [he] at h'; cases h'), fun _ => h⟩ ih

section
variable {P : Program} {T : Table} {E : List FuncId} {sc ss : Nat} (hne : sc ≠ ss) {ops : Array Oper}
include hne in
theorem runN_sound (hT : SoundT P T) (K : KT) {m : Nat} (hm : m ≤ ops.size) : ∀ (l : List Oper) (k : Nat) (t : List AV) (H Hd : List AB) (nd : List Bool), l = (ops.toList.take m).drop k → k ≤ m → GoodM sc ss Hd H →
    (runN P T E sc ss l t H nd K).sel = .fail ∨ ∃ t' H' nd', (runN P T E sc ss l t H nd K).sel = (K t' H' nd').sel ∧ (allT nd' = true → allT nd = true ∧ NChain P E ops sc ss Hd k t H m t' H')
  | [], k, t, H, Hd, nd, hl, hk, hH => by
    have : m ≤ k := by
      have := congrArg List.length hl
      simp at this; omega
    have : k = m := by omega
    subst this
    exact .inr ⟨t, H, nd, rfl, fun h => ⟨h, .nil hH⟩⟩
  | o :: rest, k, t, H, Hd, nd, hl, hk, hH => by
    obtain ⟨ho, hrest⟩ := drop_cons hl
    have hks : k < m := by
      rcases Nat.lt_or_ge k m with h' | h'
      · exact h'
      · rw [List.getElem?_eq_none (by simp; omega)] at ho; cases ho
    have ho' : ops[k]? = some o := by
      rw [List.getElem?_take_of_lt hks] at ho; simpa using ho
    have hgd : gDst ops k = o.dst := by simp [gDst, ho']
    unfold runN
    cases hg : o.guard with
    | some g => exact .inl rfl
    | none =>
      dsimp only
      have hw : ∀ (Q : Exit → Act → World → Prop) (next : Act → World → Prop) (a : Act) (w : World), (o.wp P a w next Q → wpOp P ops Q k next a w) := fun Q next a w h => by
        simp only [wpOp, ho']
        rw [if_pos (by simp [Region.wanted, hg])]
        exact .inl h
      cases he : isEffCall E o with
      | false =>
        have heff : effAt E ops k = false := by simp [effAt, ho', he]
        rcases stepQ_sound (H := setB (setB H sc .dead) ss .dead) hT o t nd (fun t nd => runN P T E sc ss rest t H nd K) with h2 | ⟨v, nd2, h2, h3⟩
        · exact .inl h2
        rw [h2]
        rcases runN_sound hT K hm rest (k + 1) (putT t o.dst v) H Hd nd2 hrest hks hH with h4 | ⟨t', H', nd', h4, h5⟩
        · exact .inl h4
        refine .inr ⟨t', H', nd', h4, fun hn => ?_⟩
        obtain ⟨h6, c⟩ := h5 hn
        obtain ⟨h8, hok, h9⟩ := h3 h6
        rw [← hgd] at c
        rw [hH.1] at h9
        exact ⟨h8, .q heff ⟨o, ho', fun σ w a Q next s r _ q => hw Q next a w (h9 σ w a Q next s (opds_looks hok fun n hn => r n hn) q)⟩ hH c⟩
      | true =>
        have heff : effAt E ops k = true := by simp [effAt, ho', he]
        dsimp only
        split
        case isFalse => exact .inl rfl
        rename_i hok
        cases hop : o.op
        case call c =>
          dsimp only
          cases hcall : aCall c (evA t) with
          | none => exact .inl rfl
          | some x =>
            obtain ⟨g, args⟩ := x
            dsimp only
            cases hfn : P.funcs[g]? with
            | none => exact .inl rfl
            | some fn =>
              dsimp only
              cases hb : fn.body with
              | none => exact .inl rfl
              | some body =>
                dsimp only
                cases hname : (fn.name == "runtime.NumGoroutine") with
                | true => exact .inl rfl
                | false =>
                  dsimp only
                  rcases hT g args (roBut sc H) nd (fun v H' nd' => match below H.length v && lowB H.length (getB H' sc) && (getB H' sc).rw with
                    | true => runN P T E sc ss rest (putT t o.dst v) (setB H sc (getB H' sc)) nd' K
                    | false => .fail) with h | ⟨v, H1, nd1, h1, h2⟩
                  · exact .inl h
                  rw [h1]
                  cases hc3 : below H.length v && lowB H.length (getB H1 sc) && (getB H1 sc).rw with
                  | false => exact .inl rfl
                  | true =>
                    simp only [Bool.and_eq_true] at hc3
                    obtain ⟨⟨hbl, hlow⟩, hrw1⟩ := hc3
                    dsimp only
                    have hrw := hH.2.1
                    rcases runN_sound hT K hm rest (k + 1) (putT t o.dst v) (setB H sc (getB H1 sc)) Hd nd1 hrest hks (hH.call hne hrw1) with h4 | ⟨t', H', nd', h4, h5⟩
                    · exact .inl h4
                    refine .inr ⟨t', H', nd', h4, fun hn => ?_⟩
                    obtain ⟨h6, ch⟩ := h5 hn
                    obtain ⟨h8, h9⟩ := h2 h6
                    rw [← hgd] at ch
                    refine ⟨h8, .e heff ⟨o, ho', fun σ w a Q next s r _ q => hw Q next a w ?_⟩ hH ch⟩
                    have hopd := opds_looks hok fun n hn => r n hn
                    obtain ⟨rargs, hra, hrun⟩ := call_run (w := w) (P := P) hop hcall hopd
                    show o.upon P a next Q ((execOp a.eval o).run P w)
                    rw [hrun, callFunc_enter hfn hb hname]
                    refine (h9 σ w rargs (s.roBut sc) hra).mono ?_
                    rintro e w' ⟨rv, rfl, σ', e2, e3, e4⟩
                    obtain ⟨s', f'⟩ := s.back_one hrw e3 e4 hlow hrw1
                    exact q _ _ (below_rel e4.ext s.len hbl e2) s' f'
        case store ty x y =>
          dsimp only
          cases heop : eop P (.store ty x y) (evA t) (roBut ss H) with
          | none => exact .inl rfl
          | some z =>
            obtain ⟨v, H1, n⟩ := z
            dsimp only
            cases hc3 : below H.length v && lowB H.length (getB H1 ss) && (getB H1 ss).rw with
            | false => exact .inl rfl
            | true =>
              simp only [Bool.and_eq_true] at hc3
              obtain ⟨⟨hbl, hlow⟩, hrw1⟩ := hc3
              dsimp only
              have hrw := hH.2.2
              rcases runN_sound hT K hm rest (k + 1) (putT t o.dst v) (setB H ss (getB H1 ss)) Hd (n ++ nd) hrest hks (hH.store hne hrw1) with h4 | ⟨t', H', nd', h4, h5⟩
              · exact .inl h4
              refine .inr ⟨t', H', nd', h4, fun hn => ?_⟩
              obtain ⟨h6, ch⟩ := h5 hn
              rw [allT_append, Bool.and_eq_true] at h6
              rw [← hgd] at ch
              refine ⟨h6.2, .e heff ⟨o, ho', fun σ w a Q next s r _ q => hw Q next a w ?_⟩ hH ch⟩
              have hopd := opds_looks hok fun n hn => r n hn
              rw [← hop] at heop
              obtain ⟨rv, w', e1, σ', e2, e3, e4⟩ := eop_out (ρ := a.eval) heop h6.1 (s.roBut ss) hopd
              obtain ⟨s', f'⟩ := s.back_one hrw e3 e4 hlow hrw1
              have hrel := below_rel e4.ext s.len hbl e2
              show o.upon P a next Q ((execOp a.eval o).run P w)
              rcases e1 with e1 | ⟨e1, rfl⟩
              · rw [e1]; exact q _ _ hrel s' f'
              · rw [e1]; exact q _ _ hrel s' f'
        all_goals exact .inl rfl

include hne in
/-- A region of the mixed kind. -/
theorem mix2_reach (hT : SoundT P T) (hf : P.follows .mixedOrders = true) {m : Nat} (hm : m ≤ ops.size) (hok : drawOK ops m = true) (heff : effOK E ops m = true) {id : Nat} {k : List Item} {t t' : List AV} {H H' : List AB} {nd : List Bool} (hrw : (getB H sc).rw = true ∧ (getB H ss).rw = true)
    (h : (runN P T E sc ss (ops.toList.take m) t H [] fun t H nd => runOps P T ops (ops.toList.drop m) t H nd fun t H nd => .stop [] t H nd).sel = .stop [] t' H' nd) (hn : allT nd = true) : Reach P (.code (.region id ops true) :: k) t H k t' H' := by
  rcases runN_sound (sc := sc) (ss := ss) hne (E := E) (ops := ops) hT (fun t H nd => runOps P T ops (ops.toList.drop m) t H nd fun t H nd => .stop [] t H nd) hm (ops.toList.take m) 0 t H _ [] (by simp) (Nat.zero_le _) ⟨rfl, hrw⟩ with h1 | ⟨t1, H1, nd1, h1, h2⟩
  · rw [h] at h1; cases h1
  rw [h1] at h
  rcases runOps_sound (ops := ops) hT (fun t H nd => .stop [] t H nd) (ops.toList.drop m) m t1 H1 nd1 rfl hm with h3 | ⟨t2, H2, nd2, h3, h4⟩
  · rw [h] at h3; cases h3
  rw [h] at h3
  cases h3
  obtain ⟨h5, ch⟩ := h4 hn
  obtain ⟨_, mc⟩ := h2 h5
  obtain ⟨val, mem, _, e1, e2, e3, e4, e5⟩ := mc.vals
  rw [Nat.sub_zero] at e1
  rw [e1, ← e3] at ch
  refine region_reach fun σ w a Q s r q => wp_region_any hf ?_
  have hnl : ∀ i, ¬ Ls (Array.replicate ops.size false) i := fun i => by
    unfold Ls
    rw [Array.getD_eq_getD_getElem?]
    by_cases hi : i < ops.size
    · simp [hi]
    · simp [hi]
  have hsm : Same w { w with drawn := w.drawn + 1 } := Same.drew w
  refine any_mix2 (eff := effAt E ops) hok hm (fun i hi hei => ?_) (fun i hi hei => ⟨?_, fun j hj hej => ?_⟩) ch ops.size _ a _ 0 (by simp) (fun i o _ hl => absurd hl (hnl i)) ?_ (fun i _ => hnl i) (Nat.zero_le _) (fun i hi hei => ⟨fun h => absurd h (hnl i), fun h => by omega⟩)
    (by rw [e2]; exact hsm.sim s) ?_ (fun x => ⟨fun i _ hl => absurd hl (hnl i), fun _ => r.getD x⟩) fun a' w' σ' r' d' s' f' => q a' w' σ' r' d' s' (by rw [e2] at f'; exact hsm.fr.trans f')
  · have := (e5 i (Nat.zero_le _) hi).1 hei
    rw [Nat.sub_zero] at this
    exact ⟨fun k hk => (e4 k (Nat.zero_le _) hk).alive hne this.1, this.2⟩
  · have := (e5 i (Nat.zero_le _) hi).2 hei
    rwa [Nat.sub_zero] at this
  · unfold effOK at heff
    simp only [List.all_eq_true, List.mem_range, Bool.or_eq_true, Bool.not_eq_true'] at heff
    rcases heff i hi with h | h
    · rw [hei] at h; cases h
    · rcases h j hj with h | h
      · rw [hej] at h; cases h
      · exact h
  · have := List.length_filter_le (fun i => !(Array.replicate ops.size false).getD i false) (List.range ops.size)
    simp only [List.length_range] at this
    exact this
  · have := r.length; simpa using this.symm
end
end Go.Ax

/- spec.DrawNegativeOf, evaluated in stages. -/
namespace Go.Ax
open Go Go.Proofs

noncomputable def sideLT : Table := fun _ args H nd K => match args with
  | [.i _ .i64 n] => .ite (sideB n) (K (.b true true) H nd) (K (.b true false) H nd)
  | _ => .fail
theorem ne108 (n : Int) : joinR 0 (tabPc 108 [.i false .i64 n] [] [] fun v H nd => .ret v H nd) = some (.b false (cond (eqQ false n 1) true (cond (eqQ false n 2) true (cond (eqQ false n 4) true (eqQ false n 8)))), []) := by kernel_rfl
theorem sideL_ok (n : Int) (H : List AB) : CallOK Tryz.prog 108 [.i false .i64 n] H (.b false (sideB n)) H := by
  have h := call_of_join tabPc_sound (ne108 n) rfl (by simp [belowL, below]) H
  refine h.weaken fun σ x r => ?_
  have e : cond (eqQ false n 1) true (cond (eqQ false n 2) true (cond (eqQ false n 4) true (eqQ false n 8))) = sideB n := by
    rw [Bool.eq_iff_iff, sideB_iff]
    simp only [eqQ_eq]
    cases h1 : (n == 1) <;> cases h2 : (n == 2) <;> cases h4 : (n == 4) <;> cases h8 : (n == 8) <;> simp_all
  rw [e] at r
  exact r
theorem sideL_at : SoundAt Tryz.prog 108 sideLT := fun args H nd K => by
  unfold sideLT
  split
  case h_2 => exact .inl rfl
  rename_i l n
  have k := (sideL_ok n H).deep (args' := [.i l .i64 n]) rfl
  cases h : sideB n with
  | true => exact .inr ⟨_, _, _, rfl, fun hn => ⟨hn, k.weaken fun σ x r => by rw [h] at r; cases r; exact .b _⟩⟩
  | false => exact .inr ⟨_, _, _, rfl, fun hn => ⟨hn, k.weaken fun σ x r => by rw [h] at r; cases r; exact .b _⟩⟩
theorem ne109 (N : Nat) (n : Int) (hn : (N, n) ∈ doNs) (X : Nat → Nat) : jP 109 [pvT true n X] = some (.tup [.f false .f32 (topS X (N - 1)), .f false .f32 (botS X (N - 1))], []) := by
  simp only [doNs, List.mem_cons, Prod.mk.injEq, List.not_mem_nil, or_false] at hn
  rcases hn with ⟨rfl, rfl⟩ | ⟨rfl, rfl⟩ | ⟨rfl, rfl⟩ | ⟨rfl, rfl⟩ <;> kernel_rfl
noncomputable def endsT : Table := fun _ args H nd K => match args with
  | [.agg l] => match ofP l with
    | some (n, X) => K (.tup [.f false .f32 (topS X (n.toNat * n.toNat - 1)), .f false .f32 (botS X (n.toNat * n.toNat - 1))]) H (sideB n :: nd)
    | none => .fail
  | _ => .fail
theorem ends_at : SoundAt Tryz.prog 109 endsT := fun args H nd K => by
  unfold endsT
  split
  case h_2 => exact .inl rfl
  split
  case h_2 => exact .inl rfl
  rename_i l _ n X hl
  refine .inr ⟨_, _, _, rfl, fun hn => ?_⟩
  have hs : sideB n = true := by
    rw [allT] at hn
    exact (Bool.and_eq_true _ _ ▸ hn).1
  have hn' : allT nd = true := by
    rw [allT] at hn
    exact (Bool.and_eq_true _ _ ▸ hn).2
  refine ⟨hn', ?_⟩
  have k := (call_of_join (args := [pvT true n X]) tabPc_sound (ne109 _ n (side_cases hs) X) rfl (by simp [belowL, pvT_low]) H).deep (args' := [pv n X]) rfl
  exact k.deep (by simp only [List.map_cons, ofP_spec hl])
noncomputable def rowsNe : List (FuncId × Table) := (108, sideLT) :: (109, endsT) :: rowsP3 0
theorem rowsNe_at : allAt Tryz.prog rowsNe := ⟨sideL_at, ends_at, rowsP3_at 0⟩
noncomputable def tabNe : Table := tabOf (cdeep Tryz.prog rowsNe [73, 180, 95] 2000 6)
theorem tabNe_sound : SoundT Tryz.prog tabNe := cdeep_sound (allAt_mem rowsNe_at) 6
theorem cway_reach {P : Program} {T : Table} {stop : List Item → Bool} {n : Nat} {L todo' : List Item} {p M nd : List Bool} {t0 t' : List AV} {H0 H' : List AB} (hT : SoundT P T) (hc : allT (condsP (cupto P T stop n L t0 H0) p) = true)
    (hl : lfM M ((cupto P T stop n L t0 H0).at p) = (true, todo', t'.map AV.bare, H', nd)) (hn : allT nd = true) : Reach P L t0 H0 todo' t' H' := by
  simp only [lfM, Prod.mk.injEq] at hl
  obtain ⟨a1, a2, a3, a4, a5⟩ := hl
  have hs := isStop_at a1 hc
  have hr := cupto_reach hT hs (by rw [a5]; exact hn)
  rw [a2, a4] at hr
  exact (hr.weak (blur_eqv M _)).weak (eqv_of_bare a3)
noncomputable def neC : Code := Tryz.f48.body.getD .skip
def at46 (k : List Item) : Bool := atReg 4 k || atReg 6 k
noncomputable def ne0 (c : Cd) : Res := cupto Tryz.prog tabNe at46 400 [.code neC] (.sl false 0 c.off c.len 0 :: undefs 35) [codeB c false]
noncomputable def neP (c : Cd) : (Int × (Nat → Nat)) × Nat × Int := pickV formP 96 [] c 0 (fromV c)
def pzero : AB := .cells true (.lit (.i true .i64 0 :: List.replicate 64 (.f true .f32 0)))
def pcells (n : Int) (X : Nat → Nat) : AB := .cells true (.lit (picL n X))
def neT : List AV := tmpsOf 36 [(2, .p true 1 0), (4, .p true 2 0), (5, .p true 3 0)]
def neM : List Bool := maskOf 36 [(2, .any), (4, .any), (5, .any)]
def neH (c : Cd) (n : Int) (X : Nat → Nat) (a : Nat) (h : Int) : List AB := [codeB c false, pzero, srcB c a h, pcells n X]
noncomputable def neL4 : List Item := ((ne0 ⟨[], 0, 0⟩).at [true, true]).todo ++ []
noncomputable def neL6 : List Item := ((ne0 ⟨[], 0, 0⟩).at [false]).todo ++ []
theorem ne0_ok (c : Cd) : ((condsP (ne0 c) [true, true], lfM neM ((ne0 c).at [true, true])), (condsP (ne0 c) [true, false], lfM neM ((ne0 c).at [true, false])), (condsP (ne0 c) [false], lfM neM ((ne0 c).at [false]))) =
    (([sideB (neP c).1.1, ltQ false 0 (nxV c (neP c).2.1 (neP c).2.2 4)], (true, neL4, neT.map AV.bare, neH c (neP c).1.1 (neP c).1.2 (nxA c (neP c).2.1 4) (nxS (neP c).2.2 4), List.replicate 3 (okB c c.off c.len))),
     ([sideB (neP c).1.1, !ltQ false 0 (nxV c (neP c).2.1 (neP c).2.2 4)], (true, neL6, neT.map AV.bare, neH c (neP c).1.1 (neP c).1.2 (nxA c (neP c).2.1 4) (nxS (neP c).2.2 4), List.replicate 3 (okB c c.off c.len))),
     ([!sideB (neP c).1.1], (true, neL6, neT.map AV.bare, neH c (neP c).1.1 (neP c).1.2 (neP c).2.1 (neP c).2.2, List.replicate 2 (okB c c.off c.len)))) := by kernel_rfl
end Go.Ax

/- spec.DrawNegativeOf gives some picture and some number. -/
namespace Go.Ax
open Go Go.Proofs

noncomputable def neA (c : Cd) (n : Int) (X : Nat → Nat) (a : Nat) (h : Int) : Res := cupto Tryz.prog tabNe (atReg 5) 400 neL4 neT (neH c n X a h)
noncomputable def neL5 : List Item := ((neA ⟨[], 0, 0⟩ 1 (fun _ => 0) 0 0).at []).todo ++ []
noncomputable def neOps5 : Array Oper := match neL5 with
  | .code (.region _ ops _) :: _ => ops
  | _ => #[]
noncomputable def neK5 : List Item := neL5.drop 1
theorem neL5_eq : neL5 = .code (.region 5 neOps5 true) :: neK5 := by kernel_rfl
noncomputable def neOps6 : Array Oper := match neL6 with
  | .code (.region _ ops _) :: _ => ops
  | _ => #[]
noncomputable def neK6 : List Item := neL6.drop 1
theorem neL6_eq : neL6 = .code (.region 6 neOps6 true) :: neK6 := by kernel_rfl
def neT5 (x : Nat) : List AV := tmpsOf 36 [(2, .p true 1 0), (4, .p true 2 0), (5, .p true 3 0), (6, .f false .f32 x)]
def neM5 : List Bool := maskOf 36 [(2, .any), (4, .any), (5, .any), (6, .any)]
def neT9 (y : Nat) : List AV := tmpsOf 36 [(2, .p true 1 0), (3, .f false .f32 y)]
def neM9 : List Bool := maskOf 36 [(2, .any), (3, .any)]
def neH9 (c : Cd) (n : Int) (X : Nat → Nat) (a : Nat) (h : Int) : List AB := [codeB c false, pcells n X, srcB c a h, pcells n X]
noncomputable def cvH (v : Int) : Nat := fdiv .f64 (FloatKind.f64.nearest v) 4611686018427387904
section
variable (c : Cd) (n : Int) (X : Nat → Nat) (a : Nat) (h : Int) (x : Nat)
theorem neA_ok : (condsP (neA c n X a h) [], lfM neM5 ((neA c n X a h).at [])) = ([], (true, neL5, (neT5 (topS (reP X) (n.toNat * n.toNat - 1))).map AV.bare, neH c n X a h, [sideB n])) := by kernel_rfl
noncomputable def neB : Res := runN Tryz.prog tabNe [72, 0] 2 1 (neOps5.toList.take 9) (neT5 x) (neH c n X a h) [] fun t H nd => runOps Tryz.prog tabNe neOps5 (neOps5.toList.drop 9) t H nd fun t H nd => .stop [] t H nd
theorem neB_ok : lfM neM9 (neB c n X a h x) = (true, [], (neT9 (fadd .f32 x (fcvt .f64 .f32 (cvH (nxV c a h 3))))).map AV.bare, neH9 c n X (nxA c a 3) (nxS h 3), [fcvtOK .f64 .f32 (cvH (nxV c a h 3)), okB c c.off c.len]) := by kernel_rfl
noncomputable def neG : Res := runM Tryz.prog tabNe [103] 2 (neOps6.toList.take 3) neT (neH c n X a h) [] fun t H nd => runOps Tryz.prog tabNe neOps6 (neOps6.toList.drop 3) t H nd fun t H nd => .stop [] t H nd
theorem neG_ok : lfM neM9 (neG c n X a h) = (true, [], (neT9 (pickV formF 103 [] c a h).1).map AV.bare, neH9 c n X (pickV formF 103 [] c a h).2.1 (pickV formF 103 [] c a h).2.2, [okB c c.off c.len]) := by kernel_rfl
noncomputable def neE (K : List Item) : Res := jupto Tryz.prog tabNe (atCut 99) 100 K (neT9 x) (neH9 c n X a h)
theorem neE5_ok : (condsP (neE c n X a h x neK5) [], endV Tryz.prog Tryz.f48.results.toList ((neE c n X a h x neK5).at [])) = ([], some (some ([pv n X, .f false .f32 x], []), [])) := by kernel_rfl
theorem neE6_ok : (condsP (neE c n X a h x neK6) [], endV Tryz.prog Tryz.f48.results.toList ((neE c n X a h x neK6).at [])) = ([], some (some ([pv n X, .f false .f32 x], []), [])) := by kernel_rfl
end
theorem ne_ops : (drawOK neOps5 9 && effOK [72, 0] neOps5 9 && Nat.ble 9 neOps5.size && (drawOK neOps6 3 && effOK [103] neOps6 3 && Nat.ble 3 neOps6.size) && Tryz.prog.follows .mixedOrders) = true := by kernel_rfl
theorem cvH_all : (List.range 3).all (fun v => fcvtOK .f64 .f32 (cvH (Int.ofNat v))) = true := by decide +kernel
theorem d48_ok {c : Cd} (hc : goodB c = true) : ∃ x, DrawOK Tryz.prog 48 c ((form2 formP formF).val x) := by
  have hk : okB c c.off c.len = true := by simp [okB, hc]
  have ho := ne_ops
  simp only [Bool.and_eq_true] at ho
  obtain ⟨⟨⟨⟨o1, o2⟩, o3⟩, ⟨o4, o5⟩, o6⟩, o7⟩ := ho
  have h0 := ne0_ok c
  simp only [Prod.mk.injEq] at h0
  obtain ⟨⟨a1, a2⟩, ⟨b1, b2⟩, c1, c2⟩ := h0
  have hfin : ∀ {n : Int} {X : Nat → Nat} {y : Nat}, (∃ u H', Ends Tryz.prog [.code neC] (.sl false 0 c.off c.len 0 :: undefs 35) [codeB c false] u H' ∧ resV Tryz.prog u H' Tryz.f48.results.toList = some ([pv n X, .f false .f32 y], [])) → ∃ x, DrawOK Tryz.prog 48 c ((form2 formP formF).val x) := fun {n X y} ⟨u, H', e1, e2⟩ => by
    have k := call_of_ends (args := [.sl false 0 c.off c.len 0]) (m := []) Tryz.func48 (rfl : Tryz.f48.body = some neC) e1 e2 rfl
    have hv : (form2 formP formF).val ((n, X), y) = .tup [pv n X, .f false .f32 y] := rfl
    refine ⟨((n, X), y), fun Hr => ?_⟩
    rw [hv]
    exact k.read (by show below 0 (.tup [pv n X, .f false .f32 y]) = true; simp [below, belowL, pv_low]) rfl Hr
  have hB : ∀ {n : Int} {X : Nat → Nat} {a : Nat} {h : Int}, Reach Tryz.prog [.code neC] (.sl false 0 c.off c.len 0 :: undefs 35) [codeB c false] neL6 neT (neH c n X a h) → ∃ x, DrawOK Tryz.prog 48 c ((form2 formP formF).val x) := fun {n X a h} r0 => by
    rw [neL6_eq] at r0
    have hg := neG_ok c n X a h
    simp only [lfM, Prod.mk.injEq] at hg
    obtain ⟨g1, g2, g3, g4, g5⟩ := hg
    have hs := Res.isStop_eq g1
    have r1 := mix_reach (P := Tryz.prog) (T := tabNe) (E := [103]) (src := 2) (ops := neOps6) tabNe_sound o7 (m := 3) (Nat.le_of_ble_eq_true o6) o4 o5 (id := 6) (k := neK6) (t := neT) (H := neH c n X a h) (t' := _) (H' := _) (nd := _) rfl (by
      show (neG c n X a h).sel = _
      conv => { lhs; rw [hs] }
      rw [g2]; rfl) (by rw [g5, hk]; rfl)
    rw [g4] at r1
    have r2 := r0.trans ((r1.weak (blur_eqv neM9 _)).weak (eqv_of_bare g3))
    have he := neE6_ok c n X (pickV formF 103 [] c a h).2.1 (pickV formF 103 [] c a h).2.2 (pickV formF 103 [] c a h).1
    simp only [Prod.mk.injEq] at he
    obtain ⟨u, H', e1, e2⟩ := endV_ends (stop := atCut 99) (n := 100) (L := neK6) (p := []) (t0 := neT9 _) (H0 := neH9 c n X _ _) tabNe_sound (by
      show allT (condsP (neE c n X _ _ _ neK6) []) = true
      rw [he.1]; rfl) he.2 rfl
    exact hfin ⟨u, H', r2.ends e1, e2⟩
  cases hs : sideB (neP c).1.1 with
  | false =>
    exact hB (cway_reach (P := Tryz.prog) (T := tabNe) (stop := at46) (n := 400) (L := [.code neC]) (p := [false]) (M := neM) (t0 := .sl false 0 c.off c.len 0 :: undefs 35) (H0 := [codeB c false]) tabNe_sound (by
      show allT (condsP (ne0 c) [false]) = true
      rw [c1, hs]; rfl) c2 (by rw [hk]; rfl))
  | true =>
    cases hv : ltQ false 0 (nxV c (neP c).2.1 (neP c).2.2 4) with
    | false =>
      exact hB (cway_reach (P := Tryz.prog) (T := tabNe) (stop := at46) (n := 400) (L := [.code neC]) (p := [true, false]) (M := neM) (t0 := .sl false 0 c.off c.len 0 :: undefs 35) (H0 := [codeB c false]) tabNe_sound (by
        show allT (condsP (ne0 c) [true, false]) = true
        rw [b1, hs, hv]; rfl) b2 (by rw [hk]; rfl))
    | true =>
      have r0 := cway_reach (P := Tryz.prog) (T := tabNe) (stop := at46) (n := 400) (L := [.code neC]) (p := [true, true]) (M := neM) (t0 := .sl false 0 c.off c.len 0 :: undefs 35) (H0 := [codeB c false]) tabNe_sound (by
        show allT (condsP (ne0 c) [true, true]) = true
        rw [a1, hs, hv]; rfl) a2 (by rw [hk]; rfl)
      generalize (neP c).1.1 = n at *
      generalize (neP c).1.2 = X at *
      generalize nxA c (neP c).2.1 4 = a at *
      generalize nxS (neP c).2.2 4 = h at *
      have hA := neA_ok c n X a h
      simp only [Prod.mk.injEq] at hA
      have r1 := r0.trans (cway_reach (P := Tryz.prog) (T := tabNe) (stop := atReg 5) (n := 400) (L := neL4) (p := []) (M := neM5) (t0 := neT) (H0 := neH c n X a h) (t' := neT5 (topS (reP X) (n.toNat * n.toNat - 1))) (H' := neH c n X a h) (nd := [sideB n]) (todo' := neL5) tabNe_sound (by
        show allT (condsP (neA c n X a h) []) = true
        rw [hA.1]; rfl) hA.2 (by rw [hs]; rfl))
      rw [neL5_eq] at r1
      have hg := neB_ok c n X a h (topS (reP X) (n.toNat * n.toNat - 1))
      simp only [lfM, Prod.mk.injEq] at hg
      obtain ⟨g1, g2, g3, g4, g5⟩ := hg
      have hst := Res.isStop_eq g1
      have hcv : fcvtOK .f64 .f32 (cvH (nxV c a h 3)) = true := by
        have hb := nxV_bound hc a h 3
        have hb2 := hb.2 (by decide)
        generalize nxV c a h 3 = v at *
        have := List.all_eq_true.1 cvH_all v.toNat (by simp; omega)
        have e : Int.ofNat v.toNat = v := by simp; omega
        rwa [e] at this
      have r2 := mix2_reach (P := Tryz.prog) (T := tabNe) (E := [72, 0]) (sc := 2) (ss := 1) (by decide) (ops := neOps5) tabNe_sound o7 (m := 9) (Nat.le_of_ble_eq_true o3) o1 o2 (id := 5) (k := neK5) (t := neT5 (topS (reP X) (n.toNat * n.toNat - 1))) (H := neH c n X a h) (t' := _) (H' := _) (nd := _) ⟨rfl, rfl⟩ (by
        show (neB c n X a h (topS (reP X) (n.toNat * n.toNat - 1))).sel = _
        conv => { lhs; rw [hst] }
        rw [g2]; rfl) (by rw [g5, hk, hcv]; rfl)
      rw [g4] at r2
      have r3 := r1.trans ((r2.weak (blur_eqv neM9 _)).weak (eqv_of_bare g3))
      have he := neE5_ok c n X (nxA c a 3) (nxS h 3) (fadd .f32 (topS (reP X) (n.toNat * n.toNat - 1)) (fcvt .f64 .f32 (cvH (nxV c a h 3))))
      simp only [Prod.mk.injEq] at he
      obtain ⟨u, H', e1, e2⟩ := endV_ends (stop := atCut 99) (n := 100) (L := neK5) (p := []) (t0 := neT9 _) (H0 := neH9 c n X _ _) tabNe_sound (by
        show allT (condsP (neE c n X _ _ _ neK5) []) = true
        rw [he.1]; rfl) he.2 rfl
      exact hfin ⟨u, H', r3.ends e1, e2⟩
end Go.Ax

/- Regions of open order in which one call writes memory, and the others do not look at memory. -/
namespace Go.Ax
open Go

section
variable {P : Program} {T : Table} {ops : Array Oper} {m e : Nat}

/-- The operation that writes. -/
def CVal (P : Program) (ops : Array Oper) (e : Nat) (t : List AV) (H : List AB) (v : AV) (H1 : List AB) : Prop :=
  ∃ o, ops[e]? = some o ∧ ∀ (σ : List (Nat × Nat)) (w : World) (a : Act) (Q : Exit → Act → World → Prop) (next : Act → World → Prop), Sim σ H w →
    (∀ n ∈ looks ops o, Rel σ (getL t n) (a.tmps.getD n undef)) → a.tmps.size = t.length →
    (∀ rv w' σ', Rel σ' v rv → Sim σ' H1 w' → Fr σ H w σ' H1 w' → next (a.put o.dst rv) w') → wpOp P ops Q e next a w

theorem any_one (hok : drawOK ops m = true) (hmn : m ≤ ops.size) (hem : e < m) {t t' : List AV} {H H1 H' : List AB} {val : Nat → AV}
    (hv : ∀ i, i < m → i ≠ e → QVal P ops i (stAt ops val t 0 i) H (val i) ∧ QVal P ops i (stAt ops val t 0 i) H1 (val i)) (hb : CVal P ops e (stAt ops val t 0 e) H (val e) H1)
    (c : Chain P ops m (stAt ops val t 0 m) H1 ops.size t' H') {Q : Exit → Act → World → Prop} :
    ∀ (fuel : Nat) (listed : Array Bool) (a : Act) (w : World) (σ : List (Nat × Nat)) (Hc : List AB), listed.size = ops.size → Down ops listed →
      (left ops listed).length ≤ fuel → (∀ i, m ≤ i → ¬ Ls listed i) → ((Hc = H ∧ ¬ Ls listed e) ∨ (Hc = H1 ∧ Ls listed e)) → Sim σ Hc w → a.tmps.size = t.length →
      (∀ x, (∀ i, i < m → Ls listed i → gDst ops i = some x → x < t.length → Rel σ (val i) (a.tmps.getD x undef)) ∧ ((∀ i, i < m → Ls listed i → gDst ops i ≠ some x) → Rel σ (getL t x) (a.tmps.getD x undef))) →
      (∀ a' w' σ', RelL σ' t' a'.tmps.toList → a'.defers = a.defers → Sim σ' H' w' → Fr σ Hc w σ' H' w' → Q .normal a' w') → wpAny P .any ops Q fuel listed a w := by
  have hdist : ∀ i i', i < m → i' < m → i' ≠ i → ∀ x, gDst ops i = some x → gDst ops i' ≠ some x := fun i i' hi hi' hne x hx => by
    have hoi : ops[i]? = some ops[i] := Array.getElem?_eq_getElem (by omega)
    have hd : ops[i].dst = some x := by simpa [gDst, hoi] using hx
    exact ((drawOK_spec hok i _ hoi).2.1 hi).2 i' hi' hne x hd
  have htail : ∀ (fuel : Nat) (listed : Array Bool) (a : Act) (w : World) (σ : List (Nat × Nat)) (Hc : List AB), listed.size = ops.size → Down ops listed →
      (left ops listed).length ≤ fuel → (∀ i, m ≤ i → ¬ Ls listed i) → (∀ i, i < m → Ls listed i) → ((Hc = H ∧ ¬ Ls listed e) ∨ (Hc = H1 ∧ Ls listed e)) → Sim σ Hc w → a.tmps.size = t.length →
      (∀ x, (∀ i, i < m → Ls listed i → gDst ops i = some x → x < t.length → Rel σ (val i) (a.tmps.getD x undef)) ∧ ((∀ i, i < m → Ls listed i → gDst ops i ≠ some x) → Rel σ (getL t x) (a.tmps.getD x undef))) →
      (∀ a' w' σ', RelL σ' t' a'.tmps.toList → a'.defers = a.defers → Sim σ' H' w' → Fr σ Hc w σ' H' w' → Q .normal a' w') → wpAny P .any ops Q fuel listed a w := by
    intro fuel listed a w σ Hc hsz hd hf hnm hall hcase s hat hx q
    obtain ⟨rfl, _⟩ : Hc = H1 ∧ Ls listed e := by
      rcases hcase with ⟨_, h⟩ | h
      · exact absurd (hall e hem) h
      · exact h
    refine any_tail hok fuel listed m _ Hc σ a w hsz hd hf (Nat.le_refl _) (fun i hi => ⟨fun h => ?_, fun h => hall i h⟩) c s ?_ q
    · rcases Nat.lt_or_ge i m with h' | h'
      · exact h'
      · exact absurd h (hnm i h')
    · refine RelL.of_get (by rw [stAt_length]; simpa using hat.symm) fun x b y hb hy => ?_
      have hxl : x < t.length := by
        rcases Nat.lt_or_ge x t.length with h' | h'
        · exact h'
        · rw [List.getElem?_eq_none (by rw [stAt_length]; exact h')] at hb; cases hb
      have hb' : b = getL (stAt ops val t 0 m) x := by
        rw [getL_some (by rw [stAt_length]; exact hxl)] at hb; cases hb; rfl
      have hy' : a.tmps.getD x undef = y := by
        have : a.tmps[x]? = some y := by simpa using hy
        rw [Array.getD_eq_getD_getElem?, this]; rfl
      subst hb'
      rw [← hy']
      by_cases hex : ∃ i, i < m ∧ gDst ops i = some x
      · obtain ⟨i, hi, hgi⟩ := hex
        rw [stAt_val ops val m 0 t i (by omega) (by omega) hgi hxl (fun i' _ h2 h3 => hdist i i' hi (by omega) h3 x hgi)]
        exact (hx x).1 i hi (hall i hi) hgi hxl
      · have hno : ∀ i, i < m → gDst ops i ≠ some x := fun i hi hg => hex ⟨i, hi, hg⟩
        rw [stAt_untouched ops val m 0 t (fun i _ h2 => hno i (by omega))]
        exact (hx x).2 fun i hi _ => hno i hi
  intro fuel
  induction fuel with
  | zero =>
    intro listed a w σ Hc hsz hd hf hnm hcase s hat hx q
    refine htail 0 listed a w σ Hc hsz hd hf hnm (fun i hi => ?_) hcase s hat hx q
    apply Classical.byContradiction
    intro hn
    have : i ∈ left ops listed := mem_left.2 ⟨by omega, hn⟩
    have := List.length_pos_of_mem this
    omega
  | succ fuel ih =>
    intro listed a w σ Hc hsz hd hf hnm hcase s hat hx q
    by_cases hall : ∀ i, i < m → Ls listed i
    · exact htail _ listed a w σ Hc hsz hd hf hnm hall hcase s hat hx q
    refine ⟨fun hr => ?_, fun j hj => ?_⟩
    · exfalso
      apply hall
      intro i hi
      apply Classical.byContradiction
      intro hn
      obtain ⟨y, hy⟩ := ready_some hok hsz i (by omega) hn
      rw [hr] at hy; cases hy
    · obtain ⟨hnl, o, ho, hafter⟩ := (mem_ready' hsz).1 hj
      have hjs := (Array.getElem?_eq_some_iff.1 ho).1
      have hjm : j < m := by
        rcases Nat.lt_or_ge j m with h | h
        · exact h
        · exfalso
          apply hall
          intro i hi
          exact ahead_ready hd hsz hj ((drawOK_spec hok j o ho).2.2 h i (by omega))
      have hdst : gDst ops j = o.dst := by simp [gDst, ho]
      have hnext : ∀ (σ2 : List (Nat × Nat)) (H2 : List AB) (rv : Value) (w' : World), ((H2 = H ∧ ¬ Ls (listed.setIfInBounds j true) e) ∨ (H2 = H1 ∧ Ls (listed.setIfInBounds j true) e)) → Rel σ2 (val j) rv →
          Ext σ σ2 → Sim σ2 H2 w' → Fr σ Hc w σ2 H2 w' → wpAny P .any ops Q fuel (listed.setIfInBounds j true) (a.put o.dst rv) w' := fun σ2 H2 rv w' hcase' hrv hext s' f' => by
        refine ih (listed.setIfInBounds j true) (a.put o.dst rv) w' σ2 H2 (by simpa using hsz) (hd.set hsz hj) ?_ (fun i hi => ?_) hcase' s' ?_ (fun x => ⟨fun i hi hli hgi hxl => ?_, fun hno => ?_⟩) fun a2 w2 σ3 r2 d2 s2 f2 => q a2 w2 σ3 r2 (d2.trans (put_defers _ _ _)) s2 (f'.trans f2)
        · have := left_set hjs hsz hnl; omega
        · rw [Ls_set (by omega)]; rintro (rfl | h)
          · omega
          · exact hnm i hi h
        · cases o.dst <;> simp [Act.put, hat]
        · rw [Ls_set (by omega)] at hli
          by_cases hij : i = j
          · subst hij
            rw [hdst] at hgi
            rw [hgi]
            simp only [Act.put]
            rw [Array.getD_eq_getD_getElem?, Array.getElem?_setIfInBounds_self_of_lt (by omega)]
            exact hrv
          · have hne : o.dst ≠ some x := by rw [← hdst]; exact hdist i j hi hjm (Ne.symm hij) x hgi
            have : (a.put o.dst rv).tmps.getD x undef = a.tmps.getD x undef := by
              cases hod : o.dst with
              | none => rfl
              | some d =>
                have hdx : d ≠ x := fun e => hne (by rw [hod, e])
                simp [Act.put, Array.getD_eq_getD_getElem?, Array.getElem?_setIfInBounds_ne hdx]
            rw [this]
            exact ((hx x).1 i hi (hli.resolve_left hij) hgi hxl).mono hext
        · have hne : o.dst ≠ some x := by rw [← hdst]; exact hno j hjm ((Ls_set (by omega)).2 (.inl rfl))
          have : (a.put o.dst rv).tmps.getD x undef = a.tmps.getD x undef := by
            cases hod : o.dst with
            | none => rfl
            | some d =>
              have hdx : d ≠ x := fun e => hne (by rw [hod, e])
              simp [Act.put, Array.getD_eq_getD_getElem?, Array.getElem?_setIfInBounds_ne hdx]
          rw [this]
          exact ((hx x).2 fun i hi hli => hno i hi ((Ls_set (by omega)).2 (.inr hli))).mono hext
      -- what it looks at
      have hlk : ∀ n ∈ looks ops o, Rel σ (getL (stAt ops val t 0 j) n) (a.tmps.getD n undef) := fun n hn => by
        by_cases hnl' : n < t.length
        · by_cases hex : ∃ i, i < m ∧ gDst ops i = some n
          · obtain ⟨i, hi, hgi⟩ := hex
            have hah := ((drawOK_spec hok j o ho).2.1 hjm).1 n hn i hi hgi
            have hil := ahead_ready hd hsz hj hah
            have hij : i < j := aheadOf_lt hok 10 j i hah
            rw [stAt_val ops val j 0 t i (by omega) (by omega) hgi hnl' (fun i' _ h2 h3 => hdist i i' hi (by omega) h3 n hgi)]
            exact (hx n).1 i hi hil hgi hnl'
          · have hno : ∀ i, i < m → gDst ops i ≠ some n := fun i hi hg => hex ⟨i, hi, hg⟩
            rw [stAt_untouched ops val j 0 t (fun i _ h2 => hno i (by omega))]
            exact (hx n).2 fun i hi _ => hno i (by omega)
        · rw [getL_none (by rw [stAt_length]; omega)]
          have : a.tmps.getD n undef = undef := by
            rw [Array.getD_eq_getD_getElem?, Array.getElem?_eq_none (by omega)]; rfl
          rw [this]; exact .tup .nil
      by_cases hje : j = e
      · subst hje
        obtain ⟨rfl, _⟩ : Hc = H ∧ ¬ Ls listed j := by
          rcases hcase with h | ⟨_, h⟩
          · exact h
          · exact absurd h hnl
        obtain ⟨o', ho', hbv⟩ := hb
        rw [ho] at ho'; cases ho'
        exact hbv σ w a Q _ s hlk (by rw [stAt_length]; exact hat) fun rv w' σ2 hrv s' f' => hnext σ2 H1 rv w' (.inr ⟨rfl, (Ls_set (by omega)).2 (.inl rfl)⟩) hrv f'.ext s' f'
      · have hLe : Ls (listed.setIfInBounds j true) e ↔ Ls listed e := by
          rw [Ls_set (by omega)]
          exact ⟨fun h => h.resolve_left fun h' => hje h'.symm, .inr⟩
        have hq : QVal P ops j (stAt ops val t 0 j) Hc (val j) := by
          rcases hcase with ⟨rfl, _⟩ | ⟨rfl, _⟩
          · exact (hv j hjm hje).1
          · exact (hv j hjm hje).2
        obtain ⟨o', ho', hq⟩ := hq
        rw [ho] at ho'; cases ho'
        refine hq σ w a Q _ s hlk (by rw [stAt_length]; exact hat) fun rv w' hrv s' f' => hnext σ Hc rv w' ?_ hrv (Ext.refl _) s' f'
        rcases hcase with ⟨rfl, h⟩ | ⟨rfl, h⟩
        · exact .inl ⟨rfl, by rw [hLe]; exact h⟩
        · exact .inr ⟨rfl, by rw [hLe]; exact h⟩

/-! ### Their evaluation -/
/-- It does not look at memory. -/
def noMem : Op → Bool
  | .load .. | .slice .. => false
  | _ => true
theorem aop_noMem {op : Op} (h : noMem op = true) (ρ : Operand → AV) (H H' : List AB) : aop P op ρ H = aop P op ρ H' := by
  cases op with
  | load => cases h
  | slice => cases h
  | makeFunc f a b => cases f <;> rfl
  | call c => rcases c with ⟨callee, _, _⟩; cases callee <;> rfl
  | _ => rfl
/-- The first operations: the e-th is a call, the others do not look at memory. -/
def runW (P : Program) (T : Table) (e : Nat) : Nat → List Oper → List AV → List AB → List Bool → KT → Res
  | _, [], t, H, nd, K => K t H nd
  | k, o :: rest, t, H, nd, K =>
    match o.guard with
    | some _ => .fail
    | none => match o.op.operands.all okOpd with
      | false => .fail
      | true => match Nat.beq k e with
        | true => match o.op with
          | .call c => match aCall c (evA t) with
            | some (g, args) => match P.funcs[g]? with
              | some fn => match fn.body with
                | some _ => match fn.name == "runtime.NumGoroutine" with
                  | true => .fail
                  | false => T g args H nd fun v H' nd' => runW P T e (k + 1) rest (putT t o.dst v) H' nd' K
                | none => .fail
              | none => .fail
            | none => .fail
          | _ => .fail
        | false => match noMem o.op with
          | true => match aop P o.op (evA t) [] with
            | some (v, n) => runW P T e (k + 1) rest (putT t o.dst v) H (n ++ nd) K
            | none => .fail
          | false => .fail
theorem runW_sound (hT : SoundT P T) (K : KT) {m : Nat} (hm : m ≤ ops.size) : ∀ (l : List Oper) (k : Nat) (t : List AV) (H : List AB) (nd : List Bool), l = (ops.toList.take m).drop k → k ≤ m → (runW P T e k l t H nd K).sel = .fail ∨
    ∃ t' H1 nd', (runW P T e k l t H nd K).sel = (K t' H1 nd').sel ∧ (allT nd' = true → allT nd = true ∧ (e < k → H1 = H) ∧ ∃ val : Nat → AV, t' = stAt ops val t k (m - k) ∧ (∀ i, k ≤ i → i < m → i ≠ e → ∀ H, QVal P ops i (stAt ops val t k (i - k)) H (val i)) ∧
      (k ≤ e → e < m → CVal P ops e (stAt ops val t k (e - k)) H (val e) H1))
  | [], k, t, H, nd, hl, hk => by
    have : m ≤ k := by
      have := congrArg List.length hl
      simp at this; omega
    have : k = m := by omega
    subst this
    exact .inr ⟨t, H, nd, rfl, fun h => ⟨h, fun _ => rfl, fun _ => .any, by rw [Nat.sub_self]; rfl, fun i h1 h2 => by omega, fun h1 h2 => by omega⟩⟩
  | o :: rest, k, t, H, nd, hl, hk => by
    obtain ⟨ho, hrest⟩ := drop_cons hl
    have hks : k < m := by
      rcases Nat.lt_or_ge k m with h' | h'
      · exact h'
      · rw [List.getElem?_eq_none (by simp; omega)] at ho; cases ho
    have ho' : ops[k]? = some o := by
      rw [List.getElem?_take_of_lt hks] at ho; simpa using ho
    have hgd : gDst ops k = o.dst := by simp [gDst, ho']
    have hcongr : ∀ (val : Nat → AV) (v : AV) (k n k' : Nat) (t : List AV), k < k' → stAt ops (fun i => if i = k then v else val i) t k' n = stAt ops val t k' n := by
      intro val v k n
      induction n with
      | zero => intros; rfl
      | succ n ihn => intro k' t hk; simp only [stAt]; rw [if_neg (by omega)]; exact ihn _ _ (by omega)
    have fin : ∀ {t' : List AV} {H1 : List AB} {v1 : AV} {val : Nat → AV}, (k ≠ e → ∀ H, QVal P ops k t H v1) → (k = e → CVal P ops k t H v1 H1) → t' = stAt ops val (putT t o.dst v1) (k + 1) (m - (k + 1)) →
        (∀ i, k + 1 ≤ i → i < m → i ≠ e → ∀ H, QVal P ops i (stAt ops val (putT t o.dst v1) (k + 1) (i - (k + 1))) H (val i)) → (k + 1 ≤ e → e < m → CVal P ops e (stAt ops val (putT t o.dst v1) (k + 1) (e - (k + 1))) H (val e) H1) →
        ∃ val : Nat → AV, t' = stAt ops val t k (m - k) ∧ (∀ i, k ≤ i → i < m → i ≠ e → ∀ H, QVal P ops i (stAt ops val t k (i - k)) H (val i)) ∧ (k ≤ e → e < m → CVal P ops e (stAt ops val t k (e - k)) H (val e) H1) := fun {t' H1 v1 val} h1 h2 h3 h4 h5 => by
      have hst : ∀ i, k < i → stAt ops (fun i => if i = k then v1 else val i) t k (i - k) = stAt ops val (putT t o.dst v1) (k + 1) (i - (k + 1)) := fun i hi => by
        rw [show i - k = (i - (k + 1)) + 1 by omega]
        simp only [stAt, if_true, hgd]
        exact hcongr _ _ _ _ _ _ (by omega)
      refine ⟨fun i => if i = k then v1 else val i, by rw [hst m hks]; exact h3, fun i a b hne H => ?_, fun a b => ?_⟩
      · by_cases hik : i = k
        · subst hik
          simp only [Nat.sub_self, if_true]
          exact h1 hne H
        · rw [hst i (by omega)]
          simp only [hik, if_false]
          exact h4 i (by omega) b hne H
      · by_cases hek : e = k
        · subst hek
          simp only [Nat.sub_self, if_true]
          exact h2 rfl
        · rw [hst e (by omega)]
          simp only [hek, if_false]
          exact h5 (by omega) b
    unfold runW
    cases hg : o.guard with
    | some g => exact .inl rfl
    | none =>
      dsimp only
      have hw : ∀ (Q : Exit → Act → World → Prop) (next : Act → World → Prop) (a : Act) (w : World), (o.wp P a w next Q → wpOp P ops Q k next a w) := fun Q next a w h => by
        simp only [wpOp, ho']
        rw [if_pos (by simp [Region.wanted, hg])]
        exact .inl h
      cases hok : o.op.operands.all okOpd with
      | false => exact .inl rfl
      | true =>
        dsimp only
        cases hbe : Nat.beq k e with
        | true =>
          have hke : k = e := Nat.eq_of_beq_eq_true hbe
          dsimp only
          cases hop : o.op
          case call c =>
            dsimp only
            cases hcall : aCall c (evA t) with
            | none => exact .inl rfl
            | some x =>
              obtain ⟨g, args⟩ := x
              dsimp only
              cases hfn : P.funcs[g]? with
              | none => exact .inl rfl
              | some fn =>
                dsimp only
                cases hb : fn.body with
                | none => exact .inl rfl
                | some body =>
                  dsimp only
                  cases hname : (fn.name == "runtime.NumGoroutine") with
                  | true => exact .inl rfl
                  | false =>
                    dsimp only
                    rcases hT g args H nd (fun v H' nd' => runW P T e (k + 1) rest (putT t o.dst v) H' nd' K) with h | ⟨v, H2, nd1, h1, h2⟩
                    · exact .inl h
                    rw [h1]
                    rcases runW_sound hT K hm rest (k + 1) (putT t o.dst v) H2 nd1 hrest hks with h4 | ⟨t', H1, nd', h4, h5⟩
                    · exact .inl h4
                    refine .inr ⟨t', H1, nd', h4, fun hn => ?_⟩
                    obtain ⟨h6, hB, val, g1, g2, _⟩ := h5 hn
                    obtain ⟨h8, h9⟩ := h2 h6
                    have hB := hB (by omega)
                    subst hB
                    refine ⟨h8, fun h => by omega, fin (fun h => absurd hke h) (fun _ => ⟨o, ho', fun σ w a Q next s r _ q => hw Q next a w ?_⟩) g1 g2 (fun h => by omega)⟩
                    have hopd := opds_looks hok fun n hn => r n hn
                    obtain ⟨rargs, hra, hrun⟩ := call_run (w := w) (P := P) hop hcall hopd
                    show o.upon P a next Q ((execOp a.eval o).run P w)
                    rw [hrun, callFunc_enter hfn hb hname]
                    refine (h9 σ w rargs s hra).mono ?_
                    rintro e w' ⟨rv, rfl, σ', e2, e3, e4⟩
                    exact q _ _ σ' e2 e3 e4
          all_goals exact .inl rfl
        | false =>
          have hke : k ≠ e := fun h => by rw [h, Nat.beq_refl] at hbe; cases hbe
          dsimp only
          cases hnm : noMem o.op with
          | false => exact .inl rfl
          | true =>
            dsimp only
            cases ha : aop P o.op (evA t) [] with
            | none => exact .inl rfl
            | some x =>
              obtain ⟨v, n⟩ := x
              dsimp only
              rcases runW_sound hT K hm rest (k + 1) (putT t o.dst v) H (n ++ nd) hrest hks with h4 | ⟨t', H1, nd', h4, h5⟩
              · exact .inl h4
              refine .inr ⟨t', H1, nd', h4, fun hn => ?_⟩
              obtain ⟨h6, hB, val, g1, g2, g3⟩ := h5 hn
              rw [allT_append, Bool.and_eq_true] at h6
              refine ⟨h6.2, fun h => hB (by omega), fin (fun _ H => ⟨o, ho', fun σ w a Q next s r _ q => hw Q next a w ?_⟩) (fun h => absurd h hke) g1 g2 g3⟩
              rw [aop_noMem hnm (evA t) [] H] at ha
              obtain ⟨rv, w', e1, e2, e3⟩ := aop_gives (ρ := a.eval) ha h6.1 s (opds_looks hok fun n hn => r n hn)
              show o.upon P a next Q ((execOp a.eval o).run P w)
              rw [e1]
              exact q _ _ e2 (e3.sim s) e3.fr
/-- A region in which one call writes. -/
theorem writer_reach (hT : SoundT P T) (hf : P.follows .mixedOrders = true) (m e : Nat) (hm : m ≤ ops.size) (hem : e < m) (hok : drawOK ops m = true) {id : Nat} {k : List Item} {t t' : List AV} {H H' : List AB} {nd : List Bool}
    (h : (runW P T e 0 (ops.toList.take m) t H [] fun t H nd => runOps P T ops (ops.toList.drop m) t H nd fun t H nd => .stop [] t H nd).sel = .stop [] t' H' nd) (hn : allT nd = true) : Reach P (.code (.region id ops true) :: k) t H k t' H' := by
  rcases runW_sound (ops := ops) (e := e) hT (fun t H nd => runOps P T ops (ops.toList.drop m) t H nd fun t H nd => .stop [] t H nd) hm (ops.toList.take m) 0 t H [] (by simp) (Nat.zero_le _) with h1 | ⟨t1, H1, nd1, h1, h2⟩
  · rw [h] at h1; cases h1
  rw [h1] at h
  rcases runOps_sound (ops := ops) hT (fun t H nd => .stop [] t H nd) (ops.toList.drop m) m t1 H1 nd1 rfl hm with h3 | ⟨t2, H2, nd2, h3, h4⟩
  · rw [h] at h3; cases h3
  rw [h] at h3
  cases h3
  obtain ⟨h5, ch⟩ := h4 hn
  obtain ⟨_, _, val, e2, e3, e4⟩ := h2 h5
  rw [Nat.sub_zero] at e2
  rw [e2] at ch
  have hb := e4 (Nat.zero_le _) hem
  rw [Nat.sub_zero] at hb
  refine region_reach fun σ w a Q s r q => wp_region_any hf ?_
  have hnl : ∀ i, ¬ Ls (Array.replicate ops.size false) i := fun i => by
    unfold Ls
    rw [Array.getD_eq_getD_getElem?]
    by_cases hi : i < ops.size
    · simp [hi]
    · simp [hi]
  have hsm : Same w { w with drawn := w.drawn + 1 } := Same.drew w
  refine any_one (val := val) hok hm hem (fun i hi hne => ?_) hb ch ops.size _ a _ σ H (by simp) (fun i o _ hl => absurd hl (hnl i)) ?_ (fun i _ => hnl i) (.inl ⟨rfl, hnl e⟩)
    (hsm.sim s) ?_ (fun x => ⟨fun i _ hl => absurd hl (hnl i), fun _ => r.getD x⟩) fun a' w' σ' r' d' s' f' => q a' w' σ' r' d' s' (hsm.fr.trans f')
  · have := e3 i (Nat.zero_le _) hi hne
    rw [Nat.sub_zero] at this
    exact ⟨this H, this H1⟩
  · have := List.length_filter_le (fun i => !(Array.replicate ops.size false).getD i false) (List.range ops.size)
    simp only [List.length_range] at this
    exact this
  · have := r.length; simpa using this.symm
end
end Go.Ax
