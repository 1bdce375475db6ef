/- spec.l01Two: powers of two. -/
import Derived.Test.YtdcjjibekhcplaaEaa
import Derived.Test.YtdcjjibekhcplaaEad
import Derived.Test.YtdcjjibekhcplaaEae
import Derived.Shelf.SlGeneric
import Derived.Shelf.SortG.Plain
import Derived.Ground.SlgnProg
namespace Go.Ax
open Go Go.Proofs

noncomputable def twoT (k : Int) (x : Nat) (g : Nat → AV) : List AV := [.i false .i64 k, g 1, g 2, .f false .f64 x, g 4, g 5, g 6, g 7, g 8, g 9, g 10, g 11, g 12, g 13, g 14, g 15, g 16]
noncomputable def two0 (k : Int) : Res := toLoop Try.prog noT 100 [.code (Try.f269.body.getD .skip)] (.i false .i64 k :: undefs 16) []
noncomputable def twoL1 : List Item := (two0 0).todo
noncomputable def two1 (L : List Item) (k : Int) (x : Nat) (g : Nat → AV) : Res := toLoop Try.prog noT 100 L (twoT k x g) []
noncomputable def twoR : List Item := ((two1 twoL1 0 0 fun _ => .pnil).at [true]).todo
noncomputable def twoL2 : List Item := ((two1 twoL1 0 0 fun _ => .pnil).at [false]).todo
noncomputable def twoS : List Item := ((two1 twoL2 0 0 fun _ => .pnil).at [true]).todo
noncomputable def twoA (k : Int) (x : Nat) (g : Nat → AV) : List AV := [AV.i false IntKind.i64 (IntKind.i64.wrap (k - 1)), g 1, g 2,
      AV.f false FloatKind.f64 (fmul FloatKind.f64 x 4611686018427387904), AV.i false IntKind.i64 k,
      AV.b false (decide (0 < k)), AV.i false IntKind.i64 k, AV.i false IntKind.i64 (IntKind.i64.wrap (k - 1)),
      AV.f false FloatKind.f64 x, AV.f false FloatKind.f64 (fmul FloatKind.f64 x 4611686018427387904), g 10, g 11, g 12,
      g 13, g 14, g 15, g 16]
noncomputable def twoB (k : Int) (x : Nat) (g : Nat → AV) : List AV := [AV.i false IntKind.i64 k, g 1, g 2, AV.f false FloatKind.f64 x, AV.i false IntKind.i64 k,
      AV.b false (decide (0 < k)), g 6, g 7, g 8, g 9, g 10, g 11, g 12, g 13, g 14, g 15, g 16]
noncomputable def twoC (k : Int) (x : Nat) (g : Nat → AV) : List AV := [AV.i false IntKind.i64 (IntKind.i64.wrap (k + 1)), g 1, g 2,
      AV.f false FloatKind.f64 (fdiv FloatKind.f64 x 4611686018427387904), g 4, g 5, g 6, g 7, g 8, g 9, AV.i false IntKind.i64 k,
      AV.b false (decide (k < 0)), AV.i false IntKind.i64 k, AV.i false IntKind.i64 (IntKind.i64.wrap (k + 1)),
      AV.f false FloatKind.f64 x, AV.f false FloatKind.f64 (fdiv FloatKind.f64 x 4611686018427387904), g 16]
noncomputable def twoD (k : Int) (x : Nat) (g : Nat → AV) : List AV := [AV.i false IntKind.i64 k, g 1, AV.f false FloatKind.f64 x, AV.f false FloatKind.f64 x, g 4, g 5, g 6, g 7, g 8, g 9, AV.i false IntKind.i64 k,
      AV.b false (decide (k < 0)), g 12, g 13, g 14, g 15, AV.f false FloatKind.f64 x]

theorem two0_eq (k : Int) : two0 k = .stop twoL1 [.i false .i64 k, .tup [], .f true .f64 0, .f true .f64 4607182418800017408, .tup [], .tup [], .tup [], .tup [], .tup [], .tup [], .tup [], .tup [], .tup [], .tup [], .tup [], .tup [], .tup []] [] [] := by kernel_rfl
theorem two1_eq (k : Int) (x : Nat) (g : Nat → AV) : two1 twoL1 k x g = .ite (decide (0 < k)) (.stop twoR (twoA k x g) [] []) (.stop twoL2 (twoB k x g) [] []) := by kernel_rfl
theorem twoR_eq (k : Int) (x : Nat) (g : Nat → AV) : two1 twoR k x g = .ite (decide (0 < k)) (.stop twoR (twoA k x g) [] []) (.stop twoL2 (twoB k x g) [] []) := by kernel_rfl
theorem two2_eq (k : Int) (x : Nat) (g : Nat → AV) : two1 twoL2 k x g = .ite (decide (k < 0)) (.stop twoS (twoC k x g) [] []) (.ret (.tup (twoD k x g)) [] []) := by kernel_rfl
theorem twoS_eq (k : Int) (x : Nat) (g : Nat → AV) : two1 twoS k x g = .ite (decide (k < 0)) (.stop twoS (twoC k x g) [] []) (.ret (.tup (twoD k x g)) [] []) := by kernel_rfl

noncomputable def dbl : Nat → Nat → Nat
  | 0, x => x
  | n + 1, x => dbl n (fmul .f64 x 4611686018427387904)
noncomputable def hlv : Nat → Nat → Nat
  | 0, x => x
  | n + 1, x => hlv n (fdiv .f64 x 4611686018427387904)
theorem hT0 : SoundT Try.prog noT := noT_sound Try.prog

theorem two_up (L : List Item) (hL : ∀ k x g, two1 L k x g = .ite (decide (0 < k)) (.stop twoR (twoA k x g) [] []) (.stop twoL2 (twoB k x g) [] [])) :
    ∀ (n : Nat) (k : Int) (x : Nat) (g : Nat → AV), k = n → n < 4000 → ∃ g', Reach Try.prog L (twoT k x g) [] twoL2 (twoT 0 (dbl n x) g') []
  | 0, k, x, g, hk, _ => by
    refine ⟨fun i => getL (twoB k x g) i, ?_⟩
    have hk0 : k = 0 := by omega
    subst hk0
    refine toLoop_reach (n := 100) (nd := []) hT0 (T := noT) ?_ rfl
    have := hL 0 x g
    unfold two1 at this
    rw [this]; rfl
  | n + 1, k, x, g, hk, hn => by
    have h1 : Reach Try.prog L (twoT k x g) [] twoR (twoA k x g) [] := by
      refine toLoop_reach (n := 100) (nd := []) hT0 (T := noT) ?_ rfl
      have := hL k x g
      unfold two1 at this
      rw [this]
      have : 0 < k := by omega
      simp [Res.sel, this]
    have hw : IntKind.i64.wrap (k - 1) = k - 1 := wrap64_id (by omega) (by omega)
    have h2 : twoA k x g = twoT (k - 1) (fmul .f64 x 4611686018427387904) (fun i => getL (twoA k x g) i) := by
      unfold twoA twoT
      rw [hw]; rfl
    rw [h2] at h1
    obtain ⟨g', h3⟩ := two_up twoR twoR_eq n (k - 1) (fmul .f64 x 4611686018427387904) (fun i => getL (twoA k x g) i) (by omega) (by omega)
    exact ⟨g', h1.trans h3⟩
theorem two_down (L : List Item) (hL : ∀ k x g, two1 L k x g = .ite (decide (k < 0)) (.stop twoS (twoC k x g) [] []) (.ret (.tup (twoD k x g)) [] [])) :
    ∀ (n : Nat) (k : Int) (x : Nat) (g : Nat → AV), k = -n → n < 4000 → ∃ g', Ends Try.prog L (twoT k x g) [] (twoD 0 (hlv n x) g') []
  | 0, k, x, g, hk, _ => by
    refine ⟨g, ?_⟩
    have hk0 : k = 0 := by omega
    subst hk0
    refine toLoop_ends (n := 100) (nd := []) hT0 (T := noT) ?_ rfl
    have := hL 0 x g
    unfold two1 at this
    rw [this]; rfl
  | n + 1, k, x, g, hk, hn => by
    have h1 : Reach Try.prog L (twoT k x g) [] twoS (twoC k x g) [] := by
      refine toLoop_reach (n := 100) (nd := []) hT0 (T := noT) ?_ rfl
      have := hL k x g
      unfold two1 at this
      rw [this]
      have : k < 0 := by omega
      simp [Res.sel, this]
    have hw : IntKind.i64.wrap (k + 1) = k + 1 := wrap64_id (by omega) (by omega)
    have h2 : twoC k x g = twoT (k + 1) (fdiv .f64 x 4611686018427387904) (fun i => getL (twoC k x g) i) := by
      unfold twoC twoT
      rw [hw]; rfl
    rw [h2] at h1
    obtain ⟨g', h3⟩ := two_down twoS twoS_eq n (k + 1) (fdiv .f64 x 4611686018427387904) (fun i => getL (twoC k x g) i) (by omega) (by omega)
    exact ⟨g', h1.ends h3⟩

/-- 2 to the k, in bits. -/
noncomputable def pow2 (k : Int) : Nat := ((k + 1023).toNat) * 4503599627370496
theorem dbl_step : ((List.range 130).all fun n => fmul .f64 ((n + 1023) * 4503599627370496) 4611686018427387904 == (n + 1024) * 4503599627370496) = true := by kernel_rfl
theorem hlv_step : ((List.range 160).all fun n => fdiv .f64 ((1023 - n) * 4503599627370496) 4611686018427387904 == (1022 - n) * 4503599627370496) = true := by kernel_rfl
theorem dbl_pow : ∀ (n m : Nat), m + n ≤ 130 → dbl n ((m + 1023) * 4503599627370496) = (m + n + 1023) * 4503599627370496
  | 0, m, _ => rfl
  | n + 1, m, h => by
    have := List.all_eq_true.1 dbl_step m (by simp; omega)
    simp only [beq_iff_eq] at this
    rw [dbl, this]
    have := dbl_pow n (m + 1) (by omega)
    rw [show m + 1024 = m + 1 + 1023 by omega, this]
    exact congrArg (· * 4503599627370496) (by omega)
theorem hlv_pow : ∀ (n m : Nat), m + n ≤ 160 → hlv n ((1023 - m) * 4503599627370496) = (1023 - (m + n)) * 4503599627370496
  | 0, m, _ => rfl
  | n + 1, m, h => by
    have := List.all_eq_true.1 hlv_step m (by simp; omega)
    simp only [beq_iff_eq] at this
    rw [hlv, this]
    have := hlv_pow n (m + 1) (by omega)
    rw [show 1022 - m = 1023 - (m + 1) by omega, this]
    exact congrArg (· * 4503599627370496) (by omega)

theorem two_ok (k : Int) (h0 : -160 ≤ k) (h1 : k ≤ 130) (H : List AB) : CallOK Try.prog 269 [.i false .i64 k] H (.f false .f64 (pow2 k)) H := by
  have e0 : Reach Try.prog [.code (Try.f269.body.getD .skip)] (.i false .i64 k :: undefs 16) [] twoL1 (twoT k 4607182418800017408 fun i => getL [.i false .i64 k, .tup [], .f true .f64 0, .f true .f64 4607182418800017408, .tup [], .tup [], .tup [], .tup [], .tup [], .tup [], .tup [], .tup [], .tup [], .tup [], .tup [], .tup [], .tup []] i) [] := by
    have : Reach Try.prog [.code (Try.f269.body.getD .skip)] (.i false .i64 k :: undefs 16) [] twoL1 [.i false .i64 k, .tup [], .f true .f64 0, .f true .f64 4607182418800017408, .tup [], .tup [], .tup [], .tup [], .tup [], .tup [], .tup [], .tup [], .tup [], .tup [], .tup [], .tup [], .tup []] [] := by
      refine toLoop_reach (n := 100) (nd := []) hT0 (T := noT) ?_ rfl
      have := two0_eq k
      unfold two0 at this
      rw [this]; rfl
    exact this.weak (eqv_of_bare rfl)
  have fin : ∀ {x : Nat} {g : Nat → AV}, Ends Try.prog [.code (Try.f269.body.getD .skip)] (.i false .i64 k :: undefs 16) [] (twoD 0 x g) [] → x = pow2 k → CallOK Try.prog 269 [.i false .i64 k] H (.f false .f64 (pow2 k)) H := fun {x g} he hx => by
    subst hx
    have hb : Try.f269.body = some (Try.f269.body.getD .skip) := rfl
    have := call_of_ends (args := [.i false .i64 k]) (m := []) (vs := [.f false .f64 (pow2 k)]) Try.func269 hb he (by rfl) rfl
    exact this.lift rfl rfl H rfl
  rcases (by omega : k < 0 ∨ 0 ≤ k) with hk | hk
  · obtain ⟨n, hn⟩ : ∃ n : Nat, k = -n := ⟨k.natAbs, by omega⟩
    have e1 : ∀ x g, Reach Try.prog twoL1 (twoT k x g) [] twoL2 (twoT k x fun i => getL (twoB k x g) i) [] := fun x g => by
      refine toLoop_reach (n := 100) (nd := []) hT0 (T := noT) ?_ rfl
      have := two1_eq k x g
      unfold two1 at this
      rw [this]
      have : ¬ 0 < k := by omega
      simp [Res.sel, this]; rfl
    obtain ⟨g', e2⟩ := two_down twoL2 two2_eq n k 4607182418800017408 _ hn (by omega)
    refine fin ((e0.trans (e1 _ _)).ends e2) ?_
    have := hlv_pow n 0 (by omega)
    rw [show (1023 - 0) * 4503599627370496 = 4607182418800017408 from rfl] at this
    rw [this]
    unfold pow2
    exact congrArg (· * 4503599627370496) (by omega)
  · obtain ⟨n, hn⟩ : ∃ n : Nat, k = n := ⟨k.natAbs, by omega⟩
    obtain ⟨g1, e1⟩ := two_up twoL1 two1_eq n k 4607182418800017408 (fun i => getL [.i false .i64 k, .tup [], .f true .f64 0, .f true .f64 4607182418800017408, .tup [], .tup [], .tup [], .tup [], .tup [], .tup [], .tup [], .tup [], .tup [], .tup [], .tup [], .tup [], .tup []] i) hn (by omega)
    obtain ⟨g', e2⟩ := two_down twoL2 two2_eq 0 0 (dbl n 4607182418800017408) g1 rfl (by omega)
    refine fin ((e0.trans e1).ends e2) ?_
    have := dbl_pow n 0 (by omega)
    rw [show (0 + 1023) * 4503599627370496 = 4607182418800017408 from rfl] at this
    show dbl n 4607182418800017408 = _
    rw [this]
    unfold pow2
    exact congrArg (· * 4503599627370496) (by omega)
end Go.Ax

/- Floats that are exact. -/
namespace Go.Ax
open Go Ieee

/-- A finite number of a format: its last digit's place counts r above the least one. -/
def canon (f : Format) (g : Bool) (m r : Nat) : Nat := f.word g (r * f.binade + m)
theorem log2_eq {m k : Nat} (h0 : 2 ^ k ≤ m) (h1 : m < 2 ^ (k + 1)) : m.log2 = k := by
  have hm : m ≠ 0 := by have := Nat.two_pow_pos k; omega
  have a := (Nat.le_log2 hm).2 h0
  have b := (Nat.log2_lt hm).2 h1
  omega
theorem cut_exact (g : Bool) (m s : Nat) (hm : m ≠ 0) : Toward.even.cut g (m * 2 ^ s) s = m := by
  have hl : s ≤ (m * 2 ^ s).log2 := by
    rw [Nat.le_log2 (Nat.mul_ne_zero hm (Nat.pos_iff_ne_zero.1 (Nat.two_pow_pos s)))]
    exact Nat.le_mul_of_pos_left _ (Nat.pos_of_ne_zero hm)
  have hmin : min s ((m * 2 ^ s).log2 + 2) = s := by omega
  unfold Toward.cut
  simp only [hmin, Nat.one_shiftLeft, Nat.mul_div_cancel _ (Nat.two_pow_pos s), Nat.mul_mod_left]
  have hp := Nat.two_pow_pos s
  have h1 : ¬ (2 ^ s < 2 * 0) := by omega
  have h2 : (2 ^ s == 2 * 0) = false := by simp
  simp [h2]
theorem cut_zero (g : Bool) (m : Nat) : Toward.even.cut g m 0 = m := by
  unfold Toward.cut
  simp [Nat.mod_one]

/-- A number m * 2 ^ s at a place, m of full length: it is written as it is. -/
theorem nearest_down (f : Format) (g : Bool) (m s r : Nat) (place : Int) (h0 : 2 ^ f.fractionBits ≤ m) (h1 : m < 2 ^ (f.fractionBits + 1)) (hp : place + s = f.leastPlace + r) (hi : r * f.binade + m ≤ f.infRung) :
    f.nearest g (m * 2 ^ s) place = canon f g m r := by
  have hm : m ≠ 0 := by have := Nat.two_pow_pos f.fractionBits; omega
  have hlog : (m * 2 ^ s).log2 = f.fractionBits + s := by
    refine log2_eq ?_ ?_
    · rw [Nat.pow_add]; exact Nat.mul_le_mul_right _ h0
    · rw [show f.fractionBits + s + 1 = f.fractionBits + 1 + s by omega, Nat.pow_add]
      exact Nat.mul_lt_mul_of_pos_right h1 (Nat.two_pow_pos s)
  unfold Format.nearest
  rw [if_neg (Nat.mul_ne_zero hm (Nat.pos_iff_ne_zero.1 (Nat.two_pow_pos s)))]
  have hlast : max (place + ((m * 2 ^ s).log2 : Nat) - f.fractionBits) f.leastPlace = f.leastPlace + r := by rw [hlog]; omega
  simp only [hlast]
  have e1 : (place - (f.leastPlace + r)).toNat = 0 := by omega
  have e2 : ((f.leastPlace + r) - place).toNat = s := by omega
  have e3 : (f.leastPlace + (r : Int) - f.leastPlace).toNat = r := by omega
  rw [e1, e2, e3, Nat.shiftLeft_zero, cut_exact g m s hm, Nat.min_eq_left hi]
  rfl
/-- A number that is shorter: zeros are put behind it. -/
theorem nearest_up (f : Format) (g : Bool) (m s r : Nat) (place : Int) (h0 : 2 ^ f.fractionBits ≤ m * 2 ^ s) (h1 : m * 2 ^ s < 2 ^ (f.fractionBits + 1)) (hp : place = f.leastPlace + r + s) (hi : r * f.binade + m * 2 ^ s ≤ f.infRung) :
    f.nearest g m place = canon f g (m * 2 ^ s) r := by
  have hm : m ≠ 0 := by
    intro h
    subst h
    have := Nat.two_pow_pos f.fractionBits
    simp at h0
  have hlog : m.log2 + s = f.fractionBits := by
    have : (m * 2 ^ s).log2 = f.fractionBits := log2_eq h0 h1
    rw [← this]
    refine (log2_eq ?_ ?_).symm
    · rw [Nat.pow_add]; exact Nat.mul_le_mul_right _ (Nat.log2_self_le hm)
    · rw [show m.log2 + s + 1 = m.log2 + 1 + s by omega, Nat.pow_add]
      exact Nat.mul_lt_mul_of_pos_right Nat.lt_log2_self (Nat.two_pow_pos s)
  unfold Format.nearest
  rw [if_neg hm]
  have hlast : max (place + (m.log2 : Nat) - f.fractionBits) f.leastPlace = f.leastPlace + r := by omega
  simp only [hlast]
  have e1 : (place - (f.leastPlace + r)).toNat = s := by omega
  have e2 : ((f.leastPlace + r) - place).toNat = 0 := by omega
  have e3 : (f.leastPlace + (r : Int) - f.leastPlace).toNat = r := by omega
  rw [e1, e2, e3, Nat.shiftLeft_eq, cut_zero, Nat.min_eq_left hi]
  rfl
/-- A number below the full length at the least place. -/
theorem nearest_sub (f : Format) (g : Bool) (m s : Nat) (place : Int) (h1 : m < 2 ^ (f.fractionBits + 1)) (hp : place + s = f.leastPlace) (hi : m ≤ f.infRung) :
    f.nearest g (m * 2 ^ s) place = canon f g m 0 := by
  by_cases hm : m = 0
  · subst hm
    unfold Format.nearest
    simp [canon]
  have hlog : (m * 2 ^ s).log2 ≤ f.fractionBits + s := by
    have := (Nat.log2_lt (k := f.fractionBits + s + 1) (Nat.mul_ne_zero hm (Nat.pos_iff_ne_zero.1 (Nat.two_pow_pos s)))).2 (by
      rw [show f.fractionBits + s + 1 = f.fractionBits + 1 + s by omega, Nat.pow_add]
      exact Nat.mul_lt_mul_of_pos_right h1 (Nat.two_pow_pos s))
    omega
  unfold Format.nearest
  rw [if_neg (Nat.mul_ne_zero hm (Nat.pos_iff_ne_zero.1 (Nat.two_pow_pos s)))]
  have hlast : max (place + ((m * 2 ^ s).log2 : Nat) - f.fractionBits) f.leastPlace = f.leastPlace := by omega
  simp only [hlast]
  have e1 : (place - f.leastPlace).toNat = 0 := by omega
  have e2 : (f.leastPlace - place).toNat = s := by omega
  have e3 : (f.leastPlace - f.leastPlace).toNat = 0 := by omega
  rw [e1, e2, e3, Nat.shiftLeft_zero, cut_exact g m s hm, Nat.zero_mul, Nat.zero_add, Nat.min_eq_left hi]
  simp [canon]

theorem read_word (f : Format) (g : Bool) (k : Nat) (hk : k < f.signWeight) : (f.word g k / f.signWeight % 2 == 1) = g ∧ f.word g k % f.signWeight = k := by
  have hs : 0 < f.signWeight := Nat.two_pow_pos _
  cases g with
  | false =>
    simp only [Format.word, Bool.false_eq_true, if_false]
    rw [Nat.div_eq_of_lt hk, Nat.mod_eq_of_lt hk]
    exact ⟨rfl, rfl⟩
  | true =>
    simp only [Format.word, if_true]
    rw [Nat.add_div_left _ hs, Nat.div_eq_of_lt hk, Nat.add_mod_left, Nat.mod_eq_of_lt hk]
    exact ⟨rfl, rfl⟩
theorem inf_lt (f : Format) : f.infRung < f.signWeight := by
  have h : 0 < f.binade := Nat.two_pow_pos _
  have : f.infRung + f.binade = f.signWeight := by
    have h : 0 < 2 ^ f.exponentBits := Nat.two_pow_pos _
    unfold Format.infRung Format.signWeight
    rw [Nat.pow_add, ← Nat.succ_mul]
    exact congrArg (· * f.binade) (by omega)
  omega
/-- What a written number reads as. -/
theorem read_canon (f : Format) (g : Bool) (m r : Nat) (h1 : m < 2 ^ (f.fractionBits + 1)) (h0 : r = 0 ∨ 2 ^ f.fractionBits ≤ m) (hi : r * f.binade + m < f.infRung) :
    f.read (canon f g m r) = .number g m (f.leastPlace + r) := by
  have hs := inf_lt f
  obtain ⟨e1, e2⟩ := read_word f g (r * f.binade + m) (by omega)
  have hb : f.binade = 2 ^ f.fractionBits := rfl
  have hbp : 0 < f.binade := Nat.two_pow_pos _
  rw [Nat.pow_succ, ← hb] at h1
  rw [← hb] at h0
  unfold canon Format.read
  simp only [e1, e2]
  by_cases hlt : r * f.binade + m < f.binade
  · have hr : r = 0 := by
      rcases Nat.eq_zero_or_pos r with h | h
      · exact h
      · have : 1 * f.binade ≤ r * f.binade := Nat.mul_le_mul_right _ h
        omega
    subst hr
    rw [if_pos hlt]
    simp
  · rw [if_neg hlt, if_pos hi]
    have hm : f.binade ≤ m := by
      rcases h0 with h | h
      · subst h; omega
      · exact h
    have hd : (r * f.binade + m) / f.binade = r + 1 := by
      rw [Nat.add_comm, Nat.add_mul_div_right _ _ hbp]
      have : m / f.binade = 1 := by
        refine Nat.div_eq_of_lt_le (by omega) (by omega)
      omega
    have hmod : (r * f.binade + m) % f.binade = m - f.binade := by
      rw [Nat.add_comm, Nat.add_mul_mod_self_right, Nat.mod_eq_sub_mod hm, Nat.mod_eq_of_lt (by omega)]
    rw [hd, hmod]
    congr 1
    omega
end Go.Ax

/- spec.l01Float: the float with a place. -/
namespace Go.Ax
open Go Go.Proofs Ieee

theorem d_least : double.leastPlace = -1074 := by decide
theorem s_least : single.leastPlace = -149 := by decide
theorem s_frac : single.fractionBits = 23 := rfl
theorem d_bin : double.binade = 4503599627370496 := rfl
theorem s_bin : single.binade = 8388608 := rfl
theorem d_inf : double.infRung = 9218868437227405312 := rfl
theorem s_inf : single.infRung = 2139095040 := rfl

/-- A whole number of at most 53 digits, as a float64. -/
theorem near_int (n s : Nat) (h0 : 4503599627370496 ≤ n * 2 ^ s) (h1 : n * 2 ^ s < 9007199254740992) (hs : s ≤ 52) : FloatKind.f64.nearest (n : Int) = canon double false (n * 2 ^ s) (1074 - s) := by
  have e : FloatKind.f64.nearest (n : Int) = double.nearest false n 0 := by
    unfold FloatKind.nearest FloatKind.encode
    have : decide ((n : Int) < 0) = false := by simp
    rw [this]; rfl
  rw [e]
  refine nearest_up double false n s (1074 - s) 0 h0 h1 (by rw [d_least]; omega) ?_
  rw [d_bin, d_inf]
  have : (1074 - s) * 4503599627370496 ≤ 1074 * 4503599627370496 := Nat.mul_le_mul_right _ (by omega)
  exact Nat.le_trans (Nat.add_le_add this (Nat.le_of_lt h1)) (by decide)
theorem pow2_canon (k : Int) (h : -1022 ≤ k) : pow2 k = canon double false (4503599627370496) (k + 1022).toNat := by
  unfold pow2 canon Format.word
  rw [d_bin]
  simp only [Bool.false_eq_true, if_false]
  omega
/-- A number times a power of two. -/
theorem mul_pow2 (m r : Nat) (k : Int) (h0 : 4503599627370496 ≤ m) (h1 : m < 9007199254740992) (hr : r ≤ 2000) (hk : -1022 ≤ k) (hk' : k ≤ 900) (hrk : 0 ≤ r + k) (hrk' : r + k ≤ 2000) :
    fmul .f64 (canon double false m r) (pow2 k) = canon double false m (r + k).toNat := by
  rw [pow2_canon k hk]
  have e1 : double.read (canon double false m r) = .number false m (double.leastPlace + r) := by
    refine read_canon double false m r h1 (.inr h0) ?_
    rw [d_bin, d_inf]
    have : r * 4503599627370496 ≤ 2000 * 4503599627370496 := Nat.mul_le_mul_right _ hr
    omega
  have e2 : double.read (canon double false (4503599627370496) (k + 1022).toNat) = .number false (4503599627370496) (double.leastPlace + ((k + 1022).toNat : Nat)) := by
    refine read_canon double false _ _ (by decide) (.inr (Nat.le_refl _)) ?_
    rw [d_bin, d_inf]
    have : (k + 1022).toNat * 4503599627370496 ≤ 1922 * 4503599627370496 := Nat.mul_le_mul_right _ (by omega)
    omega
  have e3 : double.mul (canon double false m r) (canon double false (4503599627370496) (k + 1022).toNat) = some (double.nearest false (m * 4503599627370496) (double.leastPlace + r + (double.leastPlace + ((k + 1022).toNat : Nat)))) := by
    unfold Format.mul
    rw [e1, e2]
    rfl
  have e4 := nearest_down double false m 52 (r + k).toNat (double.leastPlace + r + (double.leastPlace + ((k + 1022).toNat : Nat))) h0 h1 (by rw [d_least]; omega) (by
    rw [d_bin, d_inf]
    have : (r + k).toNat * 4503599627370496 ≤ 2000 * 4503599627370496 := Nat.mul_le_mul_right _ (by omega)
    exact Nat.le_trans (Nat.add_le_add this (Nat.le_of_lt h1)) (by decide))
  show (double.mul _ _).getD _ = _
  rw [e3, e4]
  rfl

theorem shift_of (n : Nat) (h : 0 < n) (h1 : n < 9007199254740992) : ∃ s, s ≤ 52 ∧ 4503599627370496 ≤ n * 2 ^ s ∧ n * 2 ^ s < 9007199254740992 := by
  have hn : n ≠ 0 := by omega
  have hl : n.log2 < 53 := (Nat.log2_lt hn).2 (by rw [show 2 ^ 53 = 9007199254740992 from rfl]; exact h1)
  refine ⟨52 - n.log2, by omega, ?_, ?_⟩
  · have e : 4503599627370496 = 2 ^ n.log2 * 2 ^ (52 - n.log2) := by
      rw [← Nat.pow_add, show n.log2 + (52 - n.log2) = 52 by omega]
    calc 4503599627370496 = 2 ^ n.log2 * 2 ^ (52 - n.log2) := e
      _ ≤ n * 2 ^ (52 - n.log2) := Nat.mul_le_mul_right _ (Nat.log2_self_le hn)
  · have e : 2 ^ (n.log2 + 1) * 2 ^ (52 - n.log2) = 9007199254740992 := by
      rw [← Nat.pow_add, show n.log2 + 1 + (52 - n.log2) = 53 by omega]
    calc n * 2 ^ (52 - n.log2) < 2 ^ (n.log2 + 1) * 2 ^ (52 - n.log2) := Nat.mul_lt_mul_of_pos_right Nat.lt_log2_self (Nat.two_pow_pos _)
      _ = 9007199254740992 := e

/-- A float of 24 digits by a whole number times a power of two. -/
theorem place_float (n : Nat) (k : Int) (hn : 0 < n) (h1 : n < 16777216) (hk : -149 ≤ k) (hk' : k ≤ 104) (hs : k = -149 ∨ 8388608 ≤ n) :
    fcvt .f64 .f32 (fmul .f64 (FloatKind.f64.nearest (n : Int)) (pow2 k)) = (k + 149).toNat * 8388608 + n ∧ fcvtOK .f64 .f32 (fmul .f64 (FloatKind.f64.nearest (n : Int)) (pow2 k)) = true := by
  obtain ⟨s, hs1, hs2, hs3⟩ := shift_of n hn (by omega)
  have hs' : s ≤ 1074 := by omega
  rw [near_int n s hs2 hs3 hs1, mul_pow2 (n * 2 ^ s) (1074 - s) k hs2 hs3 (by omega) (by omega) (by omega) (by omega) (by omega)]
  have e1 : double.read (canon double false (n * 2 ^ s) (((1074 - s : Nat) : Int) + k).toNat) = .number false (n * 2 ^ s) (double.leastPlace + ((((1074 - s : Nat) : Int) + k).toNat : Nat)) := by
    refine read_canon double false _ _ hs3 (.inr hs2) ?_
    rw [d_bin, d_inf]
    have : (((1074 - s : Nat) : Int) + k).toNat * 4503599627370496 ≤ 1200 * 4503599627370496 := Nat.mul_le_mul_right _ (by omega)
    omega
  have e2 : single.nearest false (n * 2 ^ s) (double.leastPlace + ((((1074 - s : Nat) : Int) + k).toNat : Nat)) = canon single false n (k + 149).toNat := by
    rcases hs with h | h
    · subst h
      exact nearest_sub single false n s _ (by rw [s_frac]; omega) (by rw [d_least, s_least]; omega) (by rw [s_inf]; omega)
    · refine nearest_down single false n s (k + 149).toNat _ (by rw [s_frac]; exact h) (by rw [s_frac]; omega) (by rw [d_least, s_least]; omega) ?_
      rw [s_bin, s_inf]
      have : (k + 149).toNat * 8388608 ≤ 253 * 8388608 := Nat.mul_le_mul_right _ (by omega)
      exact Nat.le_trans (Nat.add_le_add this (Nat.le_of_lt h1)) (by decide)
  have e3 : single.read (canon single false n (k + 149).toNat) = .number false n (single.leastPlace + ((k + 149).toNat : Nat)) := by
    refine read_canon single false n _ (by rw [s_frac]; omega) ?_ ?_
    · rcases hs with h | h
      · left; omega
      · right; rw [s_frac]; exact h
    · rw [s_bin, s_inf]
      have : (k + 149).toNat * 8388608 ≤ 253 * 8388608 := Nat.mul_le_mul_right _ (by omega)
      omega
  have e4 : FloatKind.f64.decode (canon double false (n * 2 ^ s) (((1074 - s : Nat) : Int) + k).toNat) = .number false (n * 2 ^ s) (double.leastPlace + ((((1074 - s : Nat) : Int) + k).toNat : Nat)) := e1
  have e5 : FloatKind.f32.encode (.number false (n * 2 ^ s) (double.leastPlace + ((((1074 - s : Nat) : Int) + k).toNat : Nat))) = canon single false n (k + 149).toNat := e2
  have e6 : FloatKind.f32.decode (canon single false n (k + 149).toNat) = .number false n (single.leastPlace + ((k + 149).toNat : Nat)) := e3
  constructor
  · unfold fcvt
    rw [if_neg (by decide), e4]
    dsimp only
    rw [e5]
    unfold canon Format.word
    rw [s_bin]
    simp
  · unfold fcvtOK
    rw [if_neg (by decide), e4]
    dsimp only
    rw [e5, e6]
    rfl
end Go.Ax

/- spec.l01Float: the float with a place (its call). -/
namespace Go.Ax
open Go Go.Proofs

def withN1 (v : AV) : Option (List Bool) → Option (AV × List Bool)
  | some n => some (v, n)
  | none => none
theorem withN1_some {v v' : AV} {o : Option (List Bool)} {n : List Bool} (h : withN1 v o = some (v', n)) : v = v' ∧ o = some n := by
  cases o <;> simp [withN1] at h
  exact ⟨h.1, by rw [h.2]⟩
noncomputable def gTwo : List AV → Option (AV × List Bool)
  | [.i l .i64 k] => withN1 (.f l .f64 (pow2 k)) (chk l (decide (-160 ≤ k) && decide (k ≤ 130)))
  | _ => none
theorem two_at : SoundAt Try.prog 269 (pureT gTwo) := fun args H nd K => by
  refine pureT_sound (fun args v n h hn H => ?_) args H nd K
  unfold gTwo at h
  split at h <;> (try (cases h; done))
  rename_i l k
  obtain ⟨rfl, hc⟩ := withN1_some h
  have hn := chk_spec hc hn
  simp only [Bool.and_eq_true, decide_eq_true_eq] at hn
  exact ((two_ok k hn.1 hn.2 H).bare (args' := [.i l .i64 k]) rfl).weaken fun σ x r => (by cases r with | f hr => exact .f hr)
/-- The float with a place. -/
noncomputable def fltOf (k : Int) : Nat := if k < 0 then 2147483648 + (-k).toNat else k.toNat
noncomputable def tF1 : Table := look [(269, pureT gTwo)] noT
theorem tF1_sound : SoundT Try.prog tF1 := look_sound (noT_sound _) fun p hp => by
  simp only [List.mem_cons, List.not_mem_nil, or_false] at hp
  subst hp; exact two_at

noncomputable def fltE (k : Int) : Int := IntKind.i64.wrap (IntKind.i64.wrap (k.fdiv (2 ^ min (Int.toNat 23) IntKind.i64.bits) - 127) - 23)
noncomputable def fltRes (r : Res) (k : Int) : Res := Res.ite (decide (k < 0)) r
  (Res.ite (decide (k < 8388608))
    (Res.ret (AV.f false FloatKind.f32 (fcvt FloatKind.f64 FloatKind.f32 (fmul FloatKind.f64 (FloatKind.f64.nearest k) (pow2 (-149))))) [] [fcvtOK FloatKind.f64 FloatKind.f32 (fmul FloatKind.f64 (FloatKind.f64.nearest k) (pow2 (-149)))])
    (Res.ret (AV.f false FloatKind.f32 (fcvt FloatKind.f64 FloatKind.f32 (fmul FloatKind.f64 (FloatKind.f64.nearest (IntKind.i64.wrap (k.tmod 8388608 + 8388608))) (pow2 (fltE k))))) []
      [fcvtOK FloatKind.f64 FloatKind.f32 (fmul FloatKind.f64 (FloatKind.f64.nearest (IntKind.i64.wrap (k.tmod 8388608 + 8388608))) (pow2 (fltE k))),
        decide (-160 ≤ fltE k) && decide (fltE k ≤ 130)]))
theorem flt_run1 (k : Int) : runF Try.prog tF1 100 226 [.i false .i64 k] [] [] (fun v H nd => .ret v H nd) = fltRes .fail k := by kernel_rfl

theorem flt_zero : fcvt .f64 .f32 (fmul .f64 (FloatKind.f64.nearest 0) (pow2 (-149))) = 0 ∧ fcvtOK .f64 .f32 (fmul .f64 (FloatKind.f64.nearest 0) (pow2 (-149))) = true := by
  constructor <;> kernel_rfl
theorem flt_pos (k : Int) (h0 : 0 ≤ k) (h1 : k ≤ 2139095039) (H : List AB) : CallOK Try.prog 226 [.i false .i64 k] H (.f false .f32 (fltOf k)) H := by
  have hS := runF_sound tF1_sound 100
  have hr := flt_run1 k
  have hn : ¬ k < 0 := by omega
  have hv : fltOf k = k.toNat := by unfold fltOf; rw [if_neg hn]
  rw [hv]
  by_cases hs : k < 8388608
  · have key : fcvt .f64 .f32 (fmul .f64 (FloatKind.f64.nearest k) (pow2 (-149))) = k.toNat ∧ fcvtOK .f64 .f32 (fmul .f64 (FloatKind.f64.nearest k) (pow2 (-149))) = true := by
      by_cases hz : k = 0
      · subst hz; exact flt_zero
      · have := place_float k.toNat (-149) (by omega) (by omega) (by omega) (by omega) (.inl rfl)
        rw [Int.toNat_of_nonneg h0] at this
        simpa using this
    refine (call_of_sel (T := runF Try.prog tF1 100) (H' := []) hS (v := .f false .f32 k.toNat) (nd := [fcvtOK FloatKind.f64 FloatKind.f32 (fmul FloatKind.f64 (FloatKind.f64.nearest k) (pow2 (-149)))]) ?_ ?_).lift rfl rfl H rfl
    · rw [hr]; simp only [fltRes, Res.sel, hn, hs, decide_false, decide_true, Bool.false_eq_true, if_false, if_true, key.1]
    · simp only [allT, key.2]; rfl
  · have hq : k.fdiv (2 ^ min (Int.toNat 23) IntKind.i64.bits) = k / 8388608 := by
      rw [Int.fdiv_eq_ediv_of_nonneg _ (by decide)]
      rfl
    have hm : k.tmod 8388608 = k % 8388608 := Int.tmod_eq_emod_of_nonneg h0
    have hE : fltE k = k / 8388608 - 150 := by
      unfold fltE
      rw [hq, wrap64_id (n := k / 8388608 - 127) (by omega) (by omega), wrap64_id (by omega) (by omega)]
      omega
    have hM : IntKind.i64.wrap (k.tmod 8388608 + 8388608) = ((k % 8388608 + 8388608).toNat : Nat) := by
      rw [hm, wrap64_id (by omega) (by omega)]
      omega
    have key := place_float (k % 8388608 + 8388608).toNat (k / 8388608 - 150) (by omega) (by omega) (by omega) (by omega) (.inr (by omega))
    have hval : (k / 8388608 - 150 + 149).toNat * 8388608 + (k % 8388608 + 8388608).toNat = k.toNat := by omega
    rw [hval] at key
    refine (call_of_sel (T := runF Try.prog tF1 100) (H' := []) hS (v := .f false .f32 k.toNat) (nd := [fcvtOK FloatKind.f64 FloatKind.f32 (fmul FloatKind.f64 (FloatKind.f64.nearest (IntKind.i64.wrap (k.tmod 8388608 + 8388608))) (pow2 (fltE k))),
        decide (-160 ≤ fltE k) && decide (fltE k ≤ 130)]) ?_ ?_).lift rfl rfl H rfl
    · rw [hr]; simp only [fltRes, Res.sel, hn, hs, decide_false, Bool.false_eq_true, if_false, hE, hM, key.1]
    · rw [hE, hM, key.2]
      simp [allT]
      omega

noncomputable def gFlt : List AV → Option (AV × List Bool)
  | [.i l .i64 k] => withN1 (.f l .f32 (fltOf k)) (chk l (decide (0 ≤ k) && decide (k ≤ 2139095039)))
  | _ => none
theorem flt_at : SoundAt Try.prog 226 (pureT gFlt) := fun args H nd K => by
  refine pureT_sound (fun args v n h hn H => ?_) args H nd K
  unfold gFlt at h
  split at h <;> (try (cases h; done))
  rename_i l k
  obtain ⟨rfl, hc⟩ := withN1_some h
  have hn := chk_spec hc hn
  simp only [Bool.and_eq_true, decide_eq_true_eq] at hn
  exact ((flt_pos k hn.1 hn.2 H).bare (args' := [.i l .i64 k]) rfl).weaken fun σ x r => (by cases r with | f hr => exact .f hr)
noncomputable def tF2 : Table := look [(226, pureT gFlt), (269, pureT gTwo)] noT
theorem tF2_sound : SoundT Try.prog tF2 := look_sound (noT_sound _) fun p hp => by
  simp only [List.mem_cons, List.not_mem_nil, or_false] at hp
  rcases hp with rfl | rfl
  · exact flt_at
  · exact two_at
theorem neg_word (m : Nat) (h : m < 2147483648) : fneg .f32 m = 2147483648 + m := by
  show m ^^^ 2 ^ 31 = 2 ^ 31 + m
  have h' : m < 2 ^ 31 := h
  have e := Nat.two_pow_add_eq_or_of_lt h' 1
  rw [Nat.mul_one] at e
  rw [e]
  refine Nat.eq_of_testBit_eq fun i => ?_
  rw [Nat.testBit_xor, Nat.testBit_or, Nat.testBit_two_pow]
  by_cases hi : 31 = i
  · subst hi
    rw [Nat.testBit_lt_two_pow h']; simp
  · simp [hi]
noncomputable def fltNeg (k : Int) : Res := Res.ret (AV.f false .f32 (fneg .f32 (fltOf (IntKind.i64.wrap (0 - k))))) [] [decide (0 ≤ IntKind.i64.wrap (0 - k)) && decide (IntKind.i64.wrap (0 - k) ≤ 2139095039)]
theorem flt_run2 (k : Int) : runF Try.prog tF2 100 226 [.i false .i64 k] [] [] (fun v H nd => .ret v H nd) = fltRes (fltNeg k) k := by kernel_rfl
theorem flt_ok (k : Int) (h0 : -2139095039 ≤ k) (h1 : k ≤ 2139095039) (H : List AB) : CallOK Try.prog 226 [.i false .i64 k] H (.f false .f32 (fltOf k)) H := by
  by_cases hk : 0 ≤ k
  · exact flt_pos k hk h1 H
  · have hn : k < 0 := by omega
    have hS := runF_sound tF2_sound 100
    have hr := flt_run2 k
    have hw : IntKind.i64.wrap (0 - k) = -k := by rw [wrap64_id (by omega) (by omega)]; omega
    have hneg : fneg .f32 (fltOf (-k)) = fltOf k := by
      unfold fltOf
      rw [if_pos hn, if_neg (by omega)]
      have hb : (-k).toNat < 2147483648 := by omega
      generalize (-k).toNat = m at hb
      exact neg_word m hb
    refine (call_of_sel (T := runF Try.prog tF2 100) (H' := []) hS (v := .f false .f32 (fltOf k)) (nd := [decide (0 ≤ -k) && decide (-k ≤ 2139095039)]) ?_ ?_).lift rfl rfl H rfl
    · rw [hr]; simp only [fltRes, fltNeg, Res.sel, hn, decide_true, if_true, hw, hneg]
    · simp [allT]; omega
noncomputable def gFloat : List AV → Option (AV × List Bool)
  | [.i l .i64 k] => withN1 (.f l .f32 (fltOf k)) (chk l (decide (-2139095039 ≤ k) && decide (k ≤ 2139095039)))
  | _ => none
theorem float_at : SoundAt Try.prog 226 (pureT gFloat) := fun args H nd K => by
  refine pureT_sound (fun args v n h hn H => ?_) args H nd K
  unfold gFloat at h
  split at h <;> (try (cases h; done))
  rename_i l k
  obtain ⟨rfl, hc⟩ := withN1_some h
  have hn := chk_spec hc hn
  simp only [Bool.and_eq_true, decide_eq_true_eq] at hn
  exact ((flt_ok k hn.1 hn.2 H).bare (args' := [.i l .i64 k]) rfl).weaken fun σ x r => (by cases r with | f hr => exact .f hr)
end Go.Ax

/- spec.l01Next as a table's row: small numbers are told one by one. -/
namespace Go.Ax
open Go Go.Proofs

def splitK (K : AV → Res) (x : Int) : Nat → Res
  | 0 => K (.i true .i64 (Int.ofNat 0))
  | j + 1 => .ite (decide (x = Int.ofNat (j + 1))) (K (.i true .i64 (Int.ofNat (j + 1)))) (splitK K x j)
theorem splitK_sel (K : AV → Res) (x : Int) : ∀ j, ∃ k : Nat, (splitK K x j).sel = (K (.i true .i64 (Int.ofNat k))).sel ∧ (0 ≤ x → x ≤ j → x = k)
  | 0 => ⟨0, rfl, fun h0 h1 => by omega⟩
  | j + 1 => by
    by_cases h : x = Int.ofNat (j + 1)
    · exact ⟨j + 1, by simp only [splitK, Res.sel, h, decide_true, if_true], fun _ _ => h⟩
    · obtain ⟨k, h1, h2⟩ := splitK_sel K x j
      refine ⟨k, by simp only [splitK, Res.sel, h, decide_false, Bool.false_eq_true, if_false, h1], fun h0 h3 => h2 h0 ?_⟩
      have : x ≠ ((j + 1 : Nat) : Int) := h
      omega

noncomputable def nextT : Table := fun _ args H nd K =>
  match args with
  | [p, .i l .i64 n] => match p with
    | .p _ id off => match readCode (getB H 0), readSrc (getB H id), decide (off = 0) && !decide (id = 0) with
      | some (o', b), some (o, m, a, h), true =>
        match l && decide (1 ≤ n) && decide (n ≤ 9) with
        | true => splitK (fun v => K v (setB H id (srcR o m (nxA ⟨b, o', m⟩ a n) (nxS h n))) (okB ⟨b, o', m⟩ o m :: nd)) (nxV ⟨b, o', m⟩ a h n) (n.toNat - 1)
        | false => K (.i false .i64 (nxV ⟨b, o', m⟩ a h n)) (setB H id (srcR o m (nxA ⟨b, o', m⟩ a n) (nxS h n))) (okB ⟨b, o', m⟩ o m :: nd)
      | _, _, _ => .fail
    | _ => .fail
  | _ => .fail

theorem next_at : SoundAt Try.prog 96 nextT := fun args H nd K => by
  unfold nextT
  split
  case h_2 => exact .inl rfl
  rename_i p l n
  split
  case h_2 => exact .inl rfl
  rename_i lp id off
  split
  case h_2 => exact .inl rfl
  rename_i o' b o m a h hc hs h0
  simp only [Bool.and_eq_true, decide_eq_true_eq, Bool.not_eq_true', decide_eq_false_iff_not] at h0
  obtain ⟨rfl, h0⟩ := h0
  have main : ∀ v : AV, (okB ⟨b, o', m⟩ o m = true → v.bare = .i false .i64 (nxV ⟨b, o', m⟩ a h n)) → allT (okB ⟨b, o', m⟩ o m :: nd) = true →
      allT nd = true ∧ CallOK Try.prog 96 [.p lp id 0, .i l .i64 n] H v (setB H id (srcR o m (nxA ⟨b, o', m⟩ a n) (nxS h n))) := fun v hv hn => by
    simp only [allT, Bool.and_eq_true] at hn
    have hg : goodB ⟨b, o', m⟩ = true := by have := hn.1; simp only [okB, Bool.and_eq_true] at this; exact this.1.1
    have ho : o = o' := by have := hn.1; simp only [okB, Bool.and_eq_true, decide_eq_true_eq] at this; exact this.1.2
    subst ho
    obtain ⟨H2, k, e1, e2, e3⟩ := next_ok hg a h n
    refine ⟨hn.2, ?_⟩
    have hk := (k.src e1 e2 e3 (l := lp) (id := id) (H := H) hc h0 hs).bare (args' := [.p lp id 0, .i l .i64 n]) rfl
    refine hk.weaken fun σ x r => ?_
    have := hv hn.1
    rw [← this] at r
    exact r.unbare
  split
  · rename_i hl
    simp only [Bool.and_eq_true, decide_eq_true_eq] at hl
    obtain ⟨k, e1, e2⟩ := splitK_sel (fun v => K v (setB H id (srcR o m (nxA ⟨b, o', m⟩ a n) (nxS h n))) (okB ⟨b, o', m⟩ o m :: nd)) (nxV ⟨b, o', m⟩ a h n) (n.toNat - 1)
    refine .inr ⟨_, _, _, e1, fun hn => main _ (fun hk => ?_) hn⟩
    have hg : goodB ⟨b, o', m⟩ = true := by simp only [okB, Bool.and_eq_true] at hk; exact hk.1.1
    have hb := nxV_bound hg a h n
    have hb2 := hb.2 hl.1.2
    have := e2 hb.1 (by omega)
    rw [this]; rfl
  · exact .inr ⟨_, _, _, rfl, fun hn => main _ (fun _ => rfl) hn⟩

def allAt (P : Program) : List (FuncId × Table) → Prop
  | [] => True
  | p :: l => SoundAt P p.1 p.2 ∧ allAt P l
theorem allAt_mem {P : Program} : ∀ {l : List (FuncId × Table)}, allAt P l → ∀ p ∈ l, SoundAt P p.1 p.2
  | [], _, p, hp => by cases hp
  | q :: l, h, p, hp => by
    cases hp with
    | head => exact h.1
    | tail _ hp => exact allAt_mem h.2 p hp
noncomputable def rows1 : List (FuncId × Table) := [(96, nextT), (226, pureT gFloat)]
theorem rows1_at : allAt Try.prog rows1 := ⟨next_at, float_at, trivial⟩
end Go.Ax

/- spec.l01DrawNumber: some number. -/
namespace Go.Ax
open Go Go.Proofs

def plc (x : Int) : Bool := decide (-2139095039 ≤ x) && decide (x ≤ 2139095039)
def numNd (k : Bool) (x0 x1 x2 x3 x4 : Int) : List Bool :=
  List.replicate 41 k ++ ([plc (x1)] ++ (List.replicate 5 k ++ ([plc (IntKind.i64.wrap (0 - x1))] ++ (List.replicate 5 k ++ ([plc (IntKind.i64.wrap (2139095039 - x2))] ++ (List.replicate 5 k ++ ([plc (IntKind.i64.wrap (0 - IntKind.i64.wrap (2139095039 - x2)))] ++ (List.replicate 5 k ++ ([plc (IntKind.i64.wrap (x3 * 8388608))] ++ (List.replicate 5 k ++ ([plc (IntKind.i64.wrap (0 - IntKind.i64.wrap (x3 * 8388608)))] ++ (List.replicate 5 k ++ ([plc (IntKind.i64.wrap (IntKind.i64.wrap (52 * 8388608) + x4))] ++ (List.replicate 6 k ++ ([plc (IntKind.i64.wrap (0 - IntKind.i64.wrap (IntKind.i64.wrap (52 * 8388608) + x4)))] ++ (List.replicate 6 k ++ ([plc (IntKind.i64.wrap (IntKind.i64.wrap (190 * 8388608) + x4))] ++ (List.replicate 6 k ++ ([plc (IntKind.i64.wrap (0 - IntKind.i64.wrap (IntKind.i64.wrap (190 * 8388608) + x4)))] ++ (List.replicate 6 k ++ ([plc (IntKind.i64.wrap (IntKind.i64.wrap (63 * 8388608) + x4))] ++ (List.replicate 6 k ++ ([plc (IntKind.i64.wrap (0 - IntKind.i64.wrap (IntKind.i64.wrap (63 * 8388608) + x4)))] ++ (List.replicate 6 k ++ ([plc (x0)] ++ (List.replicate 4 k ++ ([plc (IntKind.i64.wrap (0 - x0))] ++ (List.replicate 3 k))))))))))))))))))))))))))))
theorem plc_true (x : Int) (h : -2139095039 ≤ x ∧ x ≤ 2139095039) : plc x = true := by
  simp [plc, h.1, h.2]
theorem allT_rep : ∀ (n : Nat), allT (List.replicate n true) = true
  | 0 => rfl
  | n + 1 => by simpa [List.replicate_succ, allT] using allT_rep n
theorem numNd_true (x0 x1 x2 x3 x4 : Int) (h0 : 0 ≤ x0 ∧ x0 < 2139095040) (h1 : 0 ≤ x1 ∧ x1 < 16777216) (h2 : 0 ≤ x2 ∧ x2 < 4194304) (h3 : 0 ≤ x3 ∧ x3 < 255) (h4 : 0 ≤ x4 ∧ x4 < 16777216) : allT (numNd true x0 x1 x2 x3 x4) = true := by
  have w : ∀ y : Int, -9223372036854775808 ≤ y ∧ y ≤ 9223372036854775807 → IntKind.i64.wrap y = y := fun y h => wrap64_id h.1 h.2
  unfold numNd
  have e1 : IntKind.i64.wrap (52 * 8388608) = 436207616 := by rw [w _ (by omega)]; rfl
  have e2 : IntKind.i64.wrap (190 * 8388608) = 1593835520 := by rw [w _ (by omega)]; rfl
  have e3 : IntKind.i64.wrap (63 * 8388608) = 528482304 := by rw [w _ (by omega)]; rfl
  rw [e1, e2, e3, w (0 - x1) (by omega), w (2139095039 - x2) (by omega), w (0 - (2139095039 - x2)) (by omega), w (x3 * 8388608) (by omega), w (0 - x3 * 8388608) (by omega),
    w (436207616 + x4) (by omega), w (0 - (436207616 + x4)) (by omega), w (1593835520 + x4) (by omega), w (0 - (1593835520 + x4)) (by omega), w (528482304 + x4) (by omega), w (0 - (528482304 + x4)) (by omega), w (0 - x0) (by omega)]
  simp only [allT_append, allT_rep, allT, Bool.true_and, Bool.and_true]
  repeat rw [plc_true _ (by omega)]
  rfl

def formF : Form Nat where
  get := fun | .f _ .f32 x => some x | _ => none
  val := fun x => .f false .f32 x
  rel := fun {v x} h σ y r => by
    split at h <;> cases h
    cases r with | f hr => exact .f hr
  low := fun _ => rfl
noncomputable def tab1 : Table := deep Try.prog rows1 [95] 1000 5
theorem tab1_sound : SoundT Try.prog tab1 := deep_sound (allAt_mem rows1_at) 5
noncomputable def number (c : Cd) (a : Nat) (h : Int) : Option (Nat × Nat × Int × List Bool) :=
  srcEx formF c (runF Try.prog tab1 1000 201 [.p true 1 0] [codeB c false, srcB c a h] [] fun v H nd => .ret v H nd)
theorem number_nd (c : Cd) (a : Nat) (h : Int) : (number c a h).map (fun r => r.2.2.2) = some (numNd (okB c c.off c.len) (nxV c a h 2139095040) (nxV c (nxA c (nxA c a 2139095040) 10) (nxS (nxS h 2139095040) 10) 16777216)
    (nxV c (nxA c (nxA c a 2139095040) 10) (nxS (nxS h 2139095040) 10) 4194304) (nxV c (nxA c (nxA c a 2139095040) 10) (nxS (nxS h 2139095040) 10) 255)
    (nxV c (nxA c (nxA c (nxA c a 2139095040) 10) 3) (nxS (nxS (nxS h 2139095040) 10) 3) 16777216)) := by kernel_rfl
theorem number_ex {c : Cd} (hc : goodB c = true) (a : Nat) (h : Int) : ∃ x a' h', SrcOK Try.prog 201 [] c a h (.f false .f32 x) a' h' := by
  have hn := number_nd c a h
  have hk : okB c c.off c.len = true := by simp [okB, hc]
  cases hr : number c a h with
  | none => rw [hr] at hn; cases hn
  | some r =>
    obtain ⟨x, a', h', nd⟩ := r
    rw [hr] at hn
    simp only [Option.map_some, Option.some.injEq] at hn
    refine ⟨x, a', h', srcOK_of_ex (F := formF) (runF_sound tab1_sound 1000) hr ?_ rfl⟩
    rw [hn, hk]
    have b : ∀ a h n, 1 ≤ n → 0 ≤ nxV c a h n ∧ nxV c a h n < n := fun a h n hn => ⟨(nxV_bound hc a h n).1, (nxV_bound hc a h n).2 hn⟩
    exact numNd_true _ _ _ _ _ (b _ _ _ (by decide)) (b _ _ _ (by decide)) (b _ _ _ (by decide)) (b _ _ _ (by decide)) (b _ _ _ (by decide))

/-- The number drawn, and the state behind it. -/
noncomputable def numV (c : Cd) (a : Nat) (h : Int) : Nat × Nat × Int :=
  open Classical in if hx : ∃ r : Nat × Nat × Int, SrcOK Try.prog 201 [] c a h (.f false .f32 r.1) r.2.1 r.2.2 then hx.choose else (0, a, h)
theorem numV_ok {c : Cd} (hc : goodB c = true) (a : Nat) (h : Int) : SrcOK Try.prog 201 [] c a h (.f false .f32 (numV c a h).1) (numV c a h).2.1 (numV c a h).2.2 := by
  obtain ⟨x, a', h', hx⟩ := number_ex hc a h
  have he : ∃ r : Nat × Nat × Int, SrcOK Try.prog 201 [] c a h (.f false .f32 r.1) r.2.1 r.2.2 := ⟨(x, a', h'), hx⟩
  unfold numV
  rw [dif_pos he]
  exact he.choose_spec
noncomputable def numT : Table := srcT fun c a h sc => match sc with
  | [] => some (.f false .f32 (numV c a h).1, (numV c a h).2.1, (numV c a h).2.2, [])
  | _ => none
theorem num_at : SoundAt Try.prog 201 numT := fun args H nd K => by
  refine srcT_sound (fun c a h sc v a' h' q hc hg _ => ?_) args H nd K
  split at hg <;> cases hg
  exact numV_ok hc a h
end Go.Ax

/- spec.l10Draw: a list of some numbers. -/
namespace Go.Ax
open Go Go.Proofs

noncomputable def rows2 : List (FuncId × Table) := (201, numT) :: rows1
theorem rows2_at : allAt Try.prog rows2 := ⟨num_at, rows1_at⟩
noncomputable def tab2 : Table := deep Try.prog rows2 [95] 1000 5
theorem tab2_sound : SoundT Try.prog tab2 := deep_sound (allAt_mem rows2_at) 5

noncomputable def drC : Code := Try.f135.body.getD .skip
noncomputable def dr0 (c : Cd) (a : Nat) (h n : Int) : Res := toLoop Try.prog tab2 100 [.code drC] (.p true 1 0 :: .i false .i64 n :: undefs 31) [codeB c false, srcB c a h]
def cL : Code → Code
  | .seq a _ => a
  | c => c
def cR : Code → Code
  | .seq _ b => b
  | c => c
def cB : Code → Code
  | .block _ c => c
  | c => c
def cO : Code → Code
  | .loop c => c
  | c => c
noncomputable def drL : List Item := [.code (.loop (cO (cB (cL (cR (cR drC)))))), .inBlock 0, .code (cR (cR (cR drC)))]
noncomputable def drR : List Item := [.inLoop (cO (cB (cL (cR (cR drC))))), .inBlock 0, .code (cR (cR (cR drC)))]
def Res.conds : Res → List Bool → List Bool
  | .ite b x y, p :: l => b :: (match p with
    | true => x.conds l
    | false => y.conds l)
  | _, _ => []
/-- The way that is gone is the one whose tests hold. -/
theorem Res.sel_at : ∀ (l : List Bool) (r : Res), r.conds l = l → r.sel = (r.at l).sel
  | [], r, _ => by cases r <;> rfl
  | p :: l, r, h => by
    cases r with
    | ite b x y =>
      simp only [Res.conds, List.cons.injEq] at h
      obtain ⟨rfl, h⟩ := h
      cases b with
      | true => exact Res.sel_at l x h
      | false => exact Res.sel_at l y h
    | _ => rfl
theorem toLoop_head (P : Program) (T : Table) (n : Nat) (c : Code) (k : List Item) (t : List AV) (H : List AB) : toLoop P T (n + 1) (.code (.loop c) :: k) t H = toLoop P T (n + 1) (.inLoop c :: k) t H := rfl
noncomputable def drT (n : Int) (xs : List Nat) (w : Bool) : List AV := [.p true 1 0, .i false .i64 n, .any, .any, .any, .sl false 2 0 xs.length 1, .b false w, .any, .any, .any, .any, .any, .any, .any, .any, .any, .any, .any, .any, .any, .any, .any, .any, .any, .any, .any, .any, .any, .any, .any, .any, .any, .any]
noncomputable def drM : List Bool := [false, false, true, true, true, false, false] ++ List.replicate 26 true
noncomputable def drH (c : Cd) (a : Nat) (h : Int) (xs : List Nat) : List AB := [codeB c false, srcB c a h, .cells true (.f32 xs)]
noncomputable def dr1 (L : List Item) (c : Cd) (a : Nat) (h n : Int) (xs : List Nat) (w : Bool) : Res := toLoop Try.prog tab2 200 L (drT n xs w) (drH c a h xs)

/-- What a leaf comes to where only what is of use is kept. -/
noncomputable def drFin : Res → Option (List AV × List AB × List Bool)
  | .stop _ t H nd => some (renL 2 (renL 2 (blur drM t)), dropB 2 2 (dropB 2 2 H), nd)
  | _ => none
theorem stop_fin {r : Res} {L : List Item} {t : List AV} {H : List AB} {nd : List Bool} (h1 : r.todo = L) (h2 : drFin r = some (t, H, nd)) : ∃ t0 H0, r = .stop L t0 H0 nd ∧ t = renL 2 (renL 2 (blur drM t0)) ∧ H = dropB 2 2 (dropB 2 2 H0) := by
  cases r <;> simp [drFin] at h2
  rename_i todo t0 H0 nd0
  obtain ⟨rfl, rfl, rfl⟩ := h2
  simp [Res.todo] at h1
  subst h1
  exact ⟨t0, H0, rfl, rfl, rfl⟩
noncomputable def drA (c : Cd) (a : Nat) (h : Int) (w : Bool) : Nat := bif w then nxA c (numV c (nxA c a 21) (nxS h 21)).2.1 200 else nxA c (nxA c a 21) 200
noncomputable def drS (c : Cd) (a : Nat) (h : Int) (w : Bool) : Int := bif w then nxS (numV c (nxA c a 21) (nxS h 21)).2.2 200 else nxS (nxS h 21) 200
noncomputable def drQ (c : Cd) (a : Nat) (h : Int) (w : Bool) : Bool := bif w then nxV c (numV c (nxA c a 21) (nxS h 21)).2.1 (numV c (nxA c a 21) (nxS h 21)).2.2 200 == 0 else nxV c (nxA c a 21) (nxS h 21) 200 == 0
noncomputable def drX (c : Cd) (a : Nat) (h : Int) (w q : Bool) : Nat := bif q then fmul .f32 (fltOf 2139095039) 1073741824 else bif w then (numV c (nxA c a 21) (nxS h 21)).1 else FloatKind.f32.nearest (IntKind.i64.wrap (nxV c a h 21 - 10))
noncomputable def drN (n : Int) (xs : List Nat) (w : Bool) : List AV := [.p true 1 0, .i false .i64 (IntKind.i64.wrap (n - 1)), .any, .any, .any, .sl false 2 0 (xs.length + 1) 1, .b false w, .any, .any, .any, .any, .any, .any, .any, .any, .any, .any, .any, .any, .any, .any, .any, .any, .any, .any, .any, .any, .any, .any, .any, .any, .any, .any]
noncomputable def drK (xs : List Nat) : Bool := decide (0 = 0) && decide (1 = 1) && decide (xs.length * 1 = (Cells.f32 xs).len) && decide ((2 * (xs.length + 1) + 1024) * 4 ≤ 2 ^ 48)
noncomputable def drNd (c : Cd) (xs : List Nat) (w : Bool) : List Bool := match w with
  | true => [drK xs, okB c c.off c.len, okB c c.off c.len, okB c c.off c.len]
  | false => [drK xs, okB c c.off c.len, okB c c.off c.len]

theorem dr_conds (c : Cd) (a : Nat) (h n : Int) (xs : List Nat) (w : Bool) (w' q : Bool) : (dr1 drR c a h n xs w).conds [true, w', q] = [decide (0 < n), w, drQ c a h w'] := by
  cases w' <;> cases q <;> kernel_rfl
theorem dr_todo (c : Cd) (a : Nat) (h n : Int) (xs : List Nat) (w : Bool) (w' q : Bool) : ((dr1 drR c a h n xs w).at [true, w', q]).todo = drR := by
  cases w' <;> cases q <;> kernel_rfl
theorem dr_fin (c : Cd) (a : Nat) (h n : Int) (xs : List Nat) (w : Bool) (w' q : Bool) : drFin ((dr1 drR c a h n xs w).at [true, w', q]) =
    some (drN n xs w, [codeB c false, srcB c (drA c a h w') (drS c a h w'), .cells true (.f32 (List.take (xs.length * 1) (List.drop 0 xs) ++ [drX c a h w' q]))], drNd c xs w') := by
  cases w' <;> cases q <;> kernel_rfl

theorem drK_true (xs : List Nat) (h : xs.length ≤ 5000) : drK xs = true := by
  unfold drK Cells.len
  simp
  omega
theorem drN_eq (n : Int) (xs : List Nat) (x : Nat) (w : Bool) (h : 0 < n) (h1 : n ≤ 5000) : drN n xs w = drT (n - 1) (xs ++ [x]) w := by
  unfold drN drT
  rw [wrap64_id (by omega) (by omega), List.length_append]
  rfl
/-- One round. -/
theorem dr_round {c : Cd} (hc : goodB c = true) {todoS : List Item} {tS : List AV} {HS : List AB} (hHS : HS.length ≤ 2) (a : Nat) (h n : Int) (xs : List Nat) (w : Bool) (hn : 0 < n) (hn1 : n ≤ 5000) (hx : xs.length ≤ 5000)
    (L : List Item) (hL : L = drL ∨ L = drR) (hr : Reach Try.prog todoS tS HS L (drT n xs w) (drH c a h xs)) :
    ∃ x a' h', Reach Try.prog todoS tS HS drR (drT (n - 1) (xs ++ [x]) w) (drH c a' h' (xs ++ [x])) := by
  have hok : okB c c.off c.len = true := by simp [okB, hc]
  refine ⟨drX c a h w (drQ c a h w), drA c a h w, drS c a h w, ?_⟩
  have hd : decide (0 < n) = true := by simpa using hn
  have e1 : (dr1 drR c a h n xs w).sel = ((dr1 drR c a h n xs w).at [true, w, drQ c a h w]).sel := Res.sel_at _ _ (by rw [dr_conds, hd])
  obtain ⟨t0, H0, e2, e3, e4⟩ := stop_fin (dr_todo c a h n xs w w (drQ c a h w)) (dr_fin c a h n xs w w (drQ c a h w))
  rw [e2] at e1
  have hnd : allT (drNd c xs w) = true := by
    have := drK_true xs hx
    cases w <;> simp [drNd, allT, hok, this]
  have e5 : (toLoop Try.prog tab2 200 L (drT n xs w) (drH c a h xs)).sel = .stop drR t0 H0 (drNd c xs w) := by
    rcases hL with rfl | rfl
    · have : toLoop Try.prog tab2 200 drL (drT n xs w) (drH c a h xs) = dr1 drR c a h n xs w := toLoop_head _ _ 199 _ _ _ _
      rw [this]; exact e1
    · exact e1
  have e6 := (hr.trans (toLoop_reach tab2_sound e5 hnd)).weak (blur_eqv drM t0)
  have hlen : 4 ≤ H0.length := by
    have h1 := congrArg List.length e4
    simp only [List.length_cons, List.length_nil] at h1
    rcases Nat.lt_or_ge 2 (dropB 2 2 H0).length with h2 | h2
    · have h3 := dropB_length 2 2 _ h2
      rcases Nat.lt_or_ge 2 H0.length with h4 | h4
      · have h5 := dropB_length 2 2 _ h4; omega
      · have : ∀ (l : List AB), l.length ≤ 2 → (dropB 2 2 l).length ≤ 2 := by
          intro l hl
          match l, hl with
          | [], _ => simp [dropB]
          | [_], _ => simp [dropB]
          | [_, _], _ => simp [dropB]
        have := this _ h4; omega
    · have : ∀ (l : List AB), l.length ≤ 2 → (dropB 2 2 l).length ≤ 2 := by
        intro l hl
        match l, hl with
        | [], _ => simp [dropB]
        | [_], _ => simp [dropB]
        | [_, _], _ => simp [dropB]
      have := this _ h2; omega
  have e7 := e6.drop 2 hHS (by omega)
  have h8 := dropB_length 2 2 H0 (by omega)
  have e9 := e7.drop 2 hHS (by omega)
  rw [← e3, ← e4, drN_eq n xs (drX c a h w (drQ c a h w)) w hn hn1, List.drop_zero, Nat.mul_one, List.take_length] at e9
  exact e9
theorem dr_rounds {c : Cd} (hc : goodB c = true) {todoS : List Item} {tS : List AV} {HS : List AB} (hHS : HS.length ≤ 2) (w : Bool) : ∀ (m : Nat) (a : Nat) (h n : Int) (xs : List Nat), n = m → xs.length + m ≤ 5000 →
    Reach Try.prog todoS tS HS drR (drT n xs w) (drH c a h xs) → ∃ ys a' h', ys.length = xs.length + m ∧ Reach Try.prog todoS tS HS drR (drT 0 ys w) (drH c a' h' ys)
  | 0, a, h, n, xs, hn, _, hr => by
    have : n = 0 := by omega
    subst this
    exact ⟨xs, a, h, rfl, hr⟩
  | m + 1, a, h, n, xs, hn, hb, hr => by
    obtain ⟨x, a', h', hr'⟩ := dr_round hc hHS a h n xs w (by omega) (by omega) (by omega) drR (.inr rfl) hr
    obtain ⟨ys, a2, h2, e, hr2⟩ := dr_rounds hc hHS w m a' h' (n - 1) (xs ++ [x]) (by omega) (by simp; omega) hr'
    exact ⟨ys, a2, h2, by rw [e]; simp; omega, hr2⟩

/-- The end. -/
noncomputable def retOf (rs : List ResultVar) : Res → Option (Option (List AV × List Bool) × List AB × List Bool)
  | .ret v H nd => match v with
    | .tup t => some (resV Try.prog t H rs, H, nd)
    | _ => none
  | _ => none
theorem retOf_some {rs : List ResultVar} {r : Res} {x : Option (List AV × List Bool)} {H : List AB} {nd : List Bool} (h : retOf rs r = some (x, H, nd)) : ∃ t, r = .ret (.tup t) H nd ∧ resV Try.prog t H rs = x := by
  unfold retOf at h
  split at h <;> (try (cases h; done))
  split at h <;> cases h
  exact ⟨_, rfl, rfl⟩
theorem dr_exit (c : Cd) (a : Nat) (h n : Int) (xs : List Nat) (w : Bool) : (dr1 drR c a h n xs w).conds [false] = [decide (0 < n)] ∧
    retOf Try.f135.results.toList ((dr1 drR c a h n xs w).at [false]) = some (some ([.sl false 2 0 xs.length 1], []), drH c a h xs, []) := by
  constructor <;> kernel_rfl
theorem dr_end {c : Cd} {todoS : List Item} {tS : List AV} {HS : List AB} (a : Nat) (h : Int) (xs : List Nat) (w : Bool) (L : List Item) (hL : L = drL ∨ L = drR) (hr : Reach Try.prog todoS tS HS L (drT 0 xs w) (drH c a h xs)) :
    ∃ t, Ends Try.prog todoS tS HS t (drH c a h xs) ∧ resV Try.prog t (drH c a h xs) Try.f135.results.toList = some ([.sl false 2 0 xs.length 1], []) := by
  obtain ⟨e1, e2⟩ := dr_exit c a h 0 xs w
  obtain ⟨t, e3, e4⟩ := retOf_some e2
  have e5 : (dr1 drR c a h 0 xs w).sel = .ret (.tup t) (drH c a h xs) [] := by
    rw [Res.sel_at [false] _ (by rw [e1]; rfl), e3]; rfl
  have e6 : (toLoop Try.prog tab2 200 L (drT 0 xs w) (drH c a h xs)).sel = .ret (.tup t) (drH c a h xs) [] := by
    rcases hL with rfl | rfl
    · have : toLoop Try.prog tab2 200 drL (drT 0 xs w) (drH c a h xs) = dr1 drR c a h 0 xs w := toLoop_head _ _ 199 _ _ _ _
      rw [this]; exact e5
    · exact e5
  exact ⟨t, hr.ends (toLoop_ends tab2_sound e6 rfl), e4⟩

/-- The beginning. -/
noncomputable def dr0Fin : Res → Option (List AV × List AB × List Bool)
  | .stop _ t H nd => some ((blur drM t).map AV.bare, H, nd)
  | _ => none
theorem dr0_at (c : Cd) (a : Nat) (h n : Int) : ∀ p ∈ [[true], [false, true], [false, false, true], [false, false, false, true], [false, false, false, false]],
    ((dr0 c a h n).at p).todo = drL ∧ dr0Fin ((dr0 c a h n).at p) = some ((drT n [] (p == [false, false, false, false])).map AV.bare, drH c (nxA c a 5) (nxS h 5) [], [okB c c.off c.len]) := by
  intro p hp
  simp only [List.mem_cons, List.not_mem_nil, or_false] at hp
  rcases hp with rfl | rfl | rfl | rfl | rfl <;> constructor <;> kernel_rfl
theorem dr0_conds (c : Cd) (a : Nat) (h n : Int) : (dr0 c a h n).conds [true] = [decide (nxV c a h 5 = 4)] ∧ (dr0 c a h n).conds [false, true] = [decide (nxV c a h 5 = 4), decide (nxV c a h 5 = 3)] ∧
    (dr0 c a h n).conds [false, false, true] = [decide (nxV c a h 5 = 4), decide (nxV c a h 5 = 3), decide (nxV c a h 5 = 2)] ∧
    (dr0 c a h n).conds [false, false, false, true] = [decide (nxV c a h 5 = 4), decide (nxV c a h 5 = 3), decide (nxV c a h 5 = 2), decide (nxV c a h 5 = 1)] ∧
    (dr0 c a h n).conds [false, false, false, false] = [decide (nxV c a h 5 = 4), decide (nxV c a h 5 = 3), decide (nxV c a h 5 = 2), decide (nxV c a h 5 = 1)] := by
  refine ⟨?_, ?_, ?_, ?_, ?_⟩ <;> kernel_rfl
theorem dr_begin {c : Cd} (hc : goodB c = true) (a : Nat) (h n : Int) : ∃ w, Reach Try.prog [.code drC] (.p true 1 0 :: .i false .i64 n :: undefs 31) [codeB c false, srcB c a h] drL (drT n [] w) (drH c (nxA c a 5) (nxS h 5) []) := by
  have hok : okB c c.off c.len = true := by simp [okB, hc]
  have go : ∀ p ∈ [[true], [false, true], [false, false, true], [false, false, false, true], [false, false, false, false]], (dr0 c a h n).conds p = p →
      ∃ w, Reach Try.prog [.code drC] (.p true 1 0 :: .i false .i64 n :: undefs 31) [codeB c false, srcB c a h] drL (drT n [] w) (drH c (nxA c a 5) (nxS h 5) []) := fun p hp hcond => by
    obtain ⟨e1, e2⟩ := dr0_at c a h n p hp
    have e3 := Res.sel_at p _ hcond
    cases hr : (dr0 c a h n).at p <;> rw [hr] at e1 e2 e3 <;> simp [dr0Fin] at e2
    rename_i todo t H nd
    obtain ⟨e4, e5, e6⟩ := e2
    simp only [Res.todo] at e1
    subst e1; subst e5; subst e6
    refine ⟨p == [false, false, false, false], ((toLoop_reach tab2_sound e3 (by simp [allT, hok])).weak (blur_eqv drM t)).weak (eqv_of_bare ?_)⟩
    rw [← e4]
  obtain ⟨c1, c2, c3, c4, c5⟩ := dr0_conds c a h n
  by_cases h4 : nxV c a h 5 = 4
  · exact go [true] (by simp) (by rw [c1]; simp [h4])
  by_cases h3 : nxV c a h 5 = 3
  · exact go [false, true] (by simp) (by rw [c2]; simp [h3])
  by_cases h2 : nxV c a h 5 = 2
  · exact go [false, false, true] (by simp) (by rw [c3]; simp [h2])
  by_cases h1 : nxV c a h 5 = 1
  · exact go [false, false, false, true] (by simp) (by rw [c4]; simp [h1])
  · exact go [false, false, false, false] (by simp) (by rw [c5]; simp [h1, h2, h3, h4])

theorem l10_ok {c : Cd} (hc : goodB c = true) (a : Nat) (h n : Int) (h0 : 0 ≤ n) (h1 : n ≤ 5000) : ∃ xs a' h', xs.length = n.toNat ∧
    CallOK Try.prog 135 [.p true 1 0, .i false .i64 n] [codeB c false, srcB c a h] (.sl false 2 0 xs.length 1) (drH c a' h' xs) := by
  obtain ⟨w, e1⟩ := dr_begin hc a h n
  have hb : Try.f135.body = some drC := rfl
  have fin : ∀ {xs : List Nat} {a' : Nat} {h' : Int} {L : List Item}, (L = drL ∨ L = drR) → Reach Try.prog [.code drC] (.p true 1 0 :: .i false .i64 n :: undefs 31) [codeB c false, srcB c a h] L (drT 0 xs w) (drH c a' h' xs) →
      CallOK Try.prog 135 [.p true 1 0, .i false .i64 n] [codeB c false, srcB c a h] (.sl false 2 0 xs.length 1) (drH c a' h' xs) := fun {xs a' h' L} hL hr => by
    obtain ⟨t, e2, e3⟩ := dr_end a' h' xs w L hL hr
    exact call_of_ends (args := [.p true 1 0, .i false .i64 n]) (m := []) Try.func135 hb e2 e3 rfl
  by_cases hn : n = 0
  · subst hn
    exact ⟨[], _, _, rfl, fin (.inl rfl) e1⟩
  · obtain ⟨x, a1, h2, e2⟩ := dr_round hc (by simp) _ _ n [] w (by omega) h1 (by simp) drL (.inl rfl) e1
    obtain ⟨ys, a', h', e3, e4⟩ := dr_rounds hc (by simp) w (n - 1).toNat a1 h2 (n - 1) ([] ++ [x]) (by omega) (by simp; omega) e2
    refine ⟨ys, a', h', ?_, fin (.inr rfl) e4⟩
    rw [e3]; simp; omega
end Go.Ax

/- spec.l01From: a source out of a text of bytes. -/
namespace Go.Ax
open Go Go.Proofs

/-- A leaf where only what is of use is kept, by a mask. -/
noncomputable def leafM (M : List Bool) : Res → Option (List AV × List AB × List Bool)
  | .stop _ t H nd => some (blur M t, H, nd)
  | _ => none
theorem leafM_stop {M : List Bool} {r : Res} {L : List Item} {t : List AV} {H : List AB} {nd : List Bool} (h1 : r.todo = L) (h2 : leafM M r = some (t, H, nd)) : ∃ t0, r = .stop L t0 H nd ∧ t = blur M t0 := by
  cases r <;> simp [leafM] at h2
  rename_i todo t0 H0 nd0
  obtain ⟨rfl, rfl, rfl⟩ := h2
  simp [Res.todo] at h1
  subst h1
  exact ⟨t0, rfl, rfl⟩
/-- From a leaf to a way. -/
theorem reach_leaf {P : Program} {T : Table} (hT : SoundT P T) {n : Nat} {todo L : List Item} {t0 t : List AV} {H H' : List AB} {nd : List Bool} {M p : List Bool} (hc : (toLoop P T n todo t0 H).conds p = p)
    (h1 : ((toLoop P T n todo t0 H).at p).todo = L) (h2 : leafM M ((toLoop P T n todo t0 H).at p) = some (t, H', nd)) (hn : allT nd = true) : Reach P todo t0 H L t H' := by
  obtain ⟨t1, e1, rfl⟩ := leafM_stop h1 h2
  have e2 := Res.sel_at p _ hc
  rw [e1] at e2
  exact (toLoop_reach hT e2 hn).weak (blur_eqv M t1)
theorem ends_leaf {T : Table} (hT : SoundT Try.prog T) {n : Nat} {todo : List Item} {t0 : List AV} {H H' : List AB} {nd : List Bool} {rs : List ResultVar} {x : Option (List AV × List Bool)} {p : List Bool} (hc : (toLoop Try.prog T n todo t0 H).conds p = p)
    (h2 : retOf rs ((toLoop Try.prog T n todo t0 H).at p) = some (x, H', nd)) (hn : allT nd = true) : ∃ t, Ends Try.prog todo t0 H t H' ∧ resV Try.prog t H' rs = x := by
  obtain ⟨t, e1, e2⟩ := retOf_some h2
  have e3 := Res.sel_at p _ hc
  rw [e1] at e3
  exact ⟨t, toLoop_ends hT e3 hn, e2⟩

noncomputable def frC : Code := Try.f94.body.getD .skip
noncomputable def frL : List Item := [.code (.loop (cO (cB (cR (cL (cR (cR frC))))))), .inBlock 0, .code (cR (cR (cR frC)))]
noncomputable def frR : List Item := [.inLoop (cO (cB (cR (cL (cR (cR frC)))))), .inBlock 0, .code (cR (cR (cR frC)))]
noncomputable def frT (c : Cd) (i : Nat) : List AV := [.sl false 0 c.off c.len 0, .any, .any, .p true 1 0, .i false .i64 (Int.ofNat i)] ++ List.replicate 33 .any
noncomputable def frN (c : Cd) (i : Nat) : List AV := [.sl false 0 c.off c.len 0, .any, .any, .p true 1 0, .i false .i64 (IntKind.i64.wrap (Int.ofNat i + 1))] ++ List.replicate 33 .any
noncomputable def frM : List Bool := [false, true, true, false, false] ++ List.replicate 33 true
noncomputable def srcZ (c : Cd) (h : Int) : AB := .cells true (.lit [.sl false 0 c.off c.len 0, .i true .i64 0, .i false .u64 h])
noncomputable def fr0 (c : Cd) : Res := toLoop Try.prog noT 100 [.code frC] (.sl false 0 c.off c.len 0 :: undefs 37) [codeB c false]
noncomputable def fr1 (c : Cd) (i : Nat) (h : Int) : Res := toLoop Try.prog noT 100 frR (frT c i) [codeB c false, srcZ c h]
noncomputable def frH (c : Cd) (i : Nat) (h : Int) : Int := IntKind.u64.wrap (IntKind.u64.wrap (IntKind.u64.wrap (h * 1099511628211) + IntKind.u64.wrap (c.bytes.getD (c.off + (Int.ofNat i).toNat * 1 - c.off) 0)) + 41)

theorem fr0_fin (c : Cd) : (fr0 c).todo = frL ∧ (leafM frM (fr0 c)).map (fun r => (r.1.map AV.bare, r.2)) = some ((frT c 0).map AV.bare, [codeB c false, srcZ c (IntKind.u64.wrap (10331 + IntKind.u64.wrap (Int.ofNat c.len)))], []) := by
  constructor <;> kernel_rfl
theorem fr1_go (c : Cd) (i : Nat) (h : Int) : (fr1 c i h).conds [true, true] = [decide (Int.ofNat i < ↑c.len), decide (Int.ofNat i < 4096)] ∧ ((fr1 c i h).at [true, true]).todo = frR ∧
    leafM frM ((fr1 c i h).at [true, true]) = some (frN c i, [codeB c false, srcZ c (frH c i h)], [decide (c.off ≤ c.off + (Int.ofNat i).toNat * 1), decide (c.off + (Int.ofNat i).toNat * 1 - c.off < c.bytes.length), decide (0 ≤ Int.ofNat i) && decide (Int.ofNat i < ↑c.len)]) := by
  refine ⟨?_, ?_, ?_⟩ <;> kernel_rfl
theorem fr1_end (c : Cd) (i : Nat) (h : Int) : (fr1 c i h).conds [false] = [decide (Int.ofNat i < ↑c.len)] ∧
    retOf Try.f94.results.toList ((fr1 c i h).at [false]) = some (some ([.p true 1 0], []), [codeB c false, srcZ c h], []) := by
  refine ⟨?_, ?_⟩ <;> kernel_rfl

theorem fr_from {c : Cd} (hc : goodB c = true) {todoS : List Item} {tS : List AV} {HS : List AB} (L : List Item) (hL : L = frL ∨ L = frR) : ∀ (m : Nat) (i : Nat) (h : Int), i + m = c.len →
    Reach Try.prog todoS tS HS L (frT c i) [codeB c false, srcZ c h] → ∃ t h', Ends Try.prog todoS tS HS t [codeB c false, srcZ c h'] ∧ resV Try.prog t [codeB c false, srcZ c h'] Try.f94.results.toList = some ([.p true 1 0], [])
  | 0, i, h, hi, hr => by
    have hi' : i = c.len := by omega
    subst hi'
    obtain ⟨e1, e2⟩ := fr1_end c c.len h
    have hd : decide (Int.ofNat c.len < ↑c.len) = false := by simp
    rw [hd] at e1
    have hend : ∃ t, Ends Try.prog L (frT c c.len) [codeB c false, srcZ c h] t [codeB c false, srcZ c h] ∧ resV Try.prog t [codeB c false, srcZ c h] Try.f94.results.toList = some ([.p true 1 0], []) := by
      rcases hL with rfl | rfl
      · exact ends_leaf (n := 100) hT0 (T := noT) (p := [false]) e1 e2 rfl
      · exact ends_leaf (n := 100) hT0 (T := noT) (p := [false]) e1 e2 rfl
    obtain ⟨t, e3, e4⟩ := hend
    exact ⟨t, h, hr.ends e3, e4⟩
  | m + 1, i, h, hi, hr => by
    obtain ⟨e1, e2, e3⟩ := fr1_go c i h
    have hg := hc
    simp only [goodB, Bool.and_eq_true, decide_eq_true_eq] at hg
    have hd1 : decide (Int.ofNat i < ↑c.len) = true := by simp; omega
    have hd2 : decide (Int.ofNat i < 4096) = true := by simp; omega
    rw [hd1, hd2] at e1
    have hnd : allT [decide (c.off ≤ c.off + (Int.ofNat i).toNat * 1), decide (c.off + (Int.ofNat i).toNat * 1 - c.off < c.bytes.length), decide (0 ≤ Int.ofNat i) && decide (Int.ofNat i < ↑c.len)] = true := by
      simp [allT]; omega
    have hN : frN c i = frT c (i + 1) := by
      unfold frN frT
      have : IntKind.i64.wrap (Int.ofNat i + 1) = Int.ofNat (i + 1) := by rw [wrap64_id] <;> simp <;> omega
      rw [this]
    rw [hN] at e3
    have hstep : Reach Try.prog L (frT c i) [codeB c false, srcZ c h] frR (frT c (i + 1)) [codeB c false, srcZ c (frH c i h)] := by
      rcases hL with rfl | rfl
      · exact reach_leaf (n := 100) hT0 (T := noT) (p := [true, true]) e1 e2 e3 hnd
      · exact reach_leaf (n := 100) hT0 (T := noT) (p := [true, true]) e1 e2 e3 hnd
    exact fr_from hc frR (.inr rfl) m (i + 1) _ (by omega) (hr.trans hstep)

theorem from_ok {c : Cd} (hc : goodB c = true) : ∃ h, CallOK Try.prog 94 [.sl false 0 c.off c.len 0] [codeB c false] (.p true 1 0) [codeB c false, srcZ c h] := by
  obtain ⟨e1, e2⟩ := fr0_fin c
  cases hr : fr0 c <;> rw [hr] at e1 e2 <;> simp [leafM] at e2
  rename_i todo t H nd
  obtain ⟨e3, rfl, rfl⟩ := e2
  simp only [Res.todo] at e1
  subst e1
  have h0 : Reach Try.prog [.code frC] (.sl false 0 c.off c.len 0 :: undefs 37) [codeB c false] frL (frT c 0) [codeB c false, srcZ c (IntKind.u64.wrap (10331 + IntKind.u64.wrap (Int.ofNat c.len)))] := by
    refine ((toLoop_reach (n := 100) (nd := []) hT0 (T := noT) (t' := t) (todo' := frL) ?_ rfl).weak (blur_eqv frM t)).weak (eqv_of_bare ?_)
    · unfold fr0 at hr; rw [hr]; rfl
    · rw [← e3]
  obtain ⟨t', h', e4, e5⟩ := fr_from hc frL (.inl rfl) c.len 0 _ (by omega) h0
  have hb : Try.f94.body = some frC := rfl
  exact ⟨h', call_of_ends (args := [.sl false 0 c.off c.len 0]) (m := []) Try.func94 hb e4 e5 rfl⟩
end Go.Ax

/- Table rows for spec.l01From and spec.l10Draw. -/
namespace Go.Ax
open Go Go.Proofs

theorem CallOK.pre {P : Program} {f : FuncId} {args : List AV} {v : AV} {H G H' : List AB} (h : CallOK P f args G v H') (e : HEq H G) : CallOK P f args H v H' := fun σ w rargs s hra => by
  refine (h σ w rargs (e.sim s) hra).mono ?_
  rintro e' w' ⟨rv, rfl, σ', r1, s1, F⟩
  exact ⟨rv, rfl, σ', r1, s1, ⟨F.os, F.tape, F.output, F.size, fun b hb hno => F.old b hb fun i z hr => hno i z (by rw [(e.2 i).1]; exact hr), F.ext,
    fun i b z hb hn => (F.new i b z hb hn).imp id fun ⟨j, z', hj, hj'⟩ => ⟨j, z', by rw [(e.2 j).1]; exact hj, hj'⟩, fun i hi hr => by rw [(e.2 i).1]; exact F.mono i hi hr⟩⟩
theorem CallOK.post {P : Program} {f : FuncId} {args : List AV} {v : AV} {H G H' : List AB} (h : CallOK P f args H v G) (e : HEq G H') : CallOK P f args H v H' := fun σ w rargs s hra => by
  refine (h σ w rargs s hra).mono ?_
  rintro e' w' ⟨rv, rfl, σ', r1, s1, F⟩
  exact ⟨rv, rfl, σ', r1, e.sim s1, ⟨F.os, F.tape, F.output, F.size, F.old, F.ext, F.new, fun i hi hr => F.mono i hi (by rw [(e.2 i).1]; exact hr)⟩⟩
theorem src_same {o m a : Nat} {h : Int} {l1 l2 l3 m1 m2 m3 : Bool} :
    (AB.cells true (.lit [.sl l1 0 o m 0, .i l2 .i64 (Int.ofNat a), .i l3 .u64 h])).rw = (AB.cells true (.lit [.sl m1 0 o m 0, .i m2 .i64 (Int.ofNat a), .i m3 .u64 h])).rw ∧
    (AB.cells true (.lit [.sl l1 0 o m 0, .i l2 .i64 (Int.ofNat a), .i l3 .u64 h])).live = (AB.cells true (.lit [.sl m1 0 o m 0, .i m2 .i64 (Int.ofNat a), .i m3 .u64 h])).live ∧
    ∀ σ z ob, BlkRel σ z (AB.cells true (.lit [.sl l1 0 o m 0, .i l2 .i64 (Int.ofNat a), .i l3 .u64 h])) ob → BlkRel σ z (AB.cells true (.lit [.sl m1 0 o m 0, .i m2 .i64 (Int.ofNat a), .i m3 .u64 h])) ob :=
  ⟨rfl, rfl, fun _ _ _ ⟨c, e, fr, e1, e2, e3⟩ => ⟨c, e, fr, e1, src_rel e2, e3⟩⟩

noncomputable def fromV (c : Cd) : Int := open Classical in if hx : ∃ h, CallOK Try.prog 94 [.sl false 0 c.off c.len 0] [codeB c false] (.p true 1 0) [codeB c false, srcZ c h] then hx.choose else 0
theorem fromV_ok {c : Cd} (hc : goodB c = true) : CallOK Try.prog 94 [.sl false 0 c.off c.len 0] [codeB c false] (.p true 1 0) [codeB c false, srcZ c (fromV c)] := by
  have he := from_ok hc
  unfold fromV
  rw [dif_pos he]
  exact he.choose_spec
noncomputable def fromT : Table := fun _ args H nd K =>
  match args, H with
  | [s], B :: Hr => match readSl s, readCode B with
    | some (o, n), some (o', b) => K (.p true (Hr.length + 1) 0) (B :: (Hr ++ [srcR o n 0 (fromV ⟨b, o', n⟩)])) (okB ⟨b, o', n⟩ o n :: nd)
    | _, _ => .fail
  | _, _ => .fail
theorem readSl_spec {s : AV} {o n : Nat} (h : readSl s = some (o, n)) : ∃ l, s = .sl l 0 o n 0 := by
  unfold readSl at h
  split at h <;> (try (cases h; done))
  split at h <;> cases h
  rename_i hh
  simp at hh
  obtain ⟨rfl, rfl⟩ := hh
  exact ⟨_, rfl⟩
theorem from_at : SoundAt Try.prog 94 fromT := fun args H nd K => by
  unfold fromT
  split
  case h_2 => exact .inl rfl
  rename_i s B Hr
  split
  case h_2 => exact .inl rfl
  rename_i o n o' b hs hb
  refine .inr ⟨_, _, _, rfl, fun hn => ?_⟩
  simp only [allT, Bool.and_eq_true, okB] at hn
  obtain ⟨⟨⟨hg, ho⟩, _⟩, hnd⟩ := hn
  have ho : o = o' := of_decide_eq_true ho
  subst ho
  refine ⟨hnd, ?_⟩
  obtain ⟨l, rfl⟩ := readSl_spec hs
  have hB := readCode_spec hb
  subst hB
  have h1 := ((fromV_ok hg).frame rfl rfl rfl Hr).bare (args' := [.sl l 0 o n 0]) rfl
  have h2 := h1.post (H' := AB.code o b :: (Hr ++ [srcR o n 0 (fromV ⟨b, o, n⟩)])) (by
    refine HEq.cons ⟨rfl, rfl, fun _ _ _ h => h⟩ ?_
    have : ∀ (Hr : List AB) (X Y : AB), HEq [X] [Y] → HEq (Hr ++ [X]) (Hr ++ [Y]) := by
      intro Hr X Y h
      induction Hr with
      | nil => exact h
      | cons A Hr ih => exact HEq.cons ⟨rfl, rfl, fun _ _ _ h => h⟩ ih
    exact this Hr _ _ (HEq.cons src_same (HEq.refl [])))
  have e : upV ([codeB ⟨b, o, n⟩ false] : List AB).length Hr.length (.p true 1 0) = .p true (Hr.length + 1) 0 := by
    show AV.p true (1 + Hr.length) 0 = _
    rw [Nat.add_comm]
  rw [e] at h2
  exact h2

/-- The list drawn, and the state behind it. -/
noncomputable def l10V (c : Cd) (a : Nat) (h n : Int) : List Nat × Nat × Int :=
  open Classical in if hx : ∃ r : List Nat × Nat × Int, r.1.length = n.toNat ∧ CallOK Try.prog 135 [.p true 1 0, .i false .i64 n] [codeB c false, srcB c a h] (.sl false 2 0 r.1.length 1) (drH c r.2.1 r.2.2 r.1) then hx.choose else (List.replicate n.toNat 0, a, h)
theorem l10V_length (c : Cd) (a : Nat) (h n : Int) : (l10V c a h n).1.length = n.toNat := by
  unfold l10V
  split
  · rename_i hx; exact hx.choose_spec.1
  · simp
theorem l10V_ok {c : Cd} (hc : goodB c = true) (a : Nat) (h n : Int) (h0 : 0 ≤ n) (h1 : n ≤ 5000) :
    CallOK Try.prog 135 [.p true 1 0, .i false .i64 n] [codeB c false, srcB c a h] (.sl false 2 0 (l10V c a h n).1.length 1) (drH c (l10V c a h n).2.1 (l10V c a h n).2.2 (l10V c a h n).1) := by
  obtain ⟨xs, a', h', e1, e2⟩ := l10_ok hc a h n h0 h1
  have he : ∃ r : List Nat × Nat × Int, r.1.length = n.toNat ∧ CallOK Try.prog 135 [.p true 1 0, .i false .i64 n] [codeB c false, srcB c a h] (.sl false 2 0 r.1.length 1) (drH c r.2.1 r.2.2 r.1) := ⟨(xs, a', h'), e1, e2⟩
  unfold l10V
  rw [dif_pos he]
  exact he.choose_spec.2
noncomputable def l10T : Table := fun _ args H nd K =>
  match args, H with
  | [p, .i l .i64 n], B :: S :: Hr => match p with
    | .p _ id off => match readCode B, readSrc S, decide (off = 0) && decide (id = 1) with
      | some (o', b), some (o, m, a, h), true => match chk l (decide (0 ≤ n) && decide (n ≤ 5000)) with
        | some q => K (.sl l (Hr.length + 2) 0 n.toNat 1) (B :: srcR o m (l10V ⟨b, o', m⟩ a h n).2.1 (l10V ⟨b, o', m⟩ a h n).2.2 :: (Hr ++ [.cells true (.f32 (l10V ⟨b, o', m⟩ a h n).1)])) (okB ⟨b, o', m⟩ o m :: (q ++ nd))
        | none => .fail
      | _, _, _ => .fail
    | _ => .fail
  | _, _ => .fail
theorem l10_at : SoundAt Try.prog 135 l10T := fun args H nd K => by
  unfold l10T
  split
  case h_2 => exact .inl rfl
  rename_i p l n B S Hr
  split
  case h_2 => exact .inl rfl
  rename_i lp id off
  split
  case h_2 => exact .inl rfl
  rename_i o' b o m a h hb hs h0
  split
  case h_2 => exact .inl rfl
  rename_i q hq
  refine .inr ⟨_, _, _, rfl, fun hn => ?_⟩
  simp only [allT, allT_append, Bool.and_eq_true, okB] at hn
  obtain ⟨⟨⟨hg, ho⟩, _⟩, hqt, hnd⟩ := hn
  have ho : o = o' := of_decide_eq_true ho
  subst ho
  refine ⟨hnd, ?_⟩
  have hr := chk_spec hq hqt
  simp only [Bool.and_eq_true, decide_eq_true_eq] at hr h0
  obtain ⟨rfl, rfl⟩ := h0
  have hB := readCode_spec hb
  subst hB
  obtain ⟨l1, l2, l3, rfl⟩ := readSrc_spec hs
  have h1 := ((l10V_ok hg a h n hr.1 hr.2).frame rfl rfl rfl Hr).bare (args' := [.p lp 1 0, .i l .i64 n]) rfl
  have h2 := h1.pre (H := AB.code o b :: AB.cells true (.lit [.sl l1 0 o m 0, .i l2 .i64 (Int.ofNat a), .i l3 .u64 h]) :: Hr)
    (HEq.cons ⟨rfl, rfl, fun _ _ _ h => h⟩ (HEq.cons src_same (HEq.refl Hr)))
  refine h2.weaken fun σ x r => ?_
  have e : upV ([codeB ⟨b, o, m⟩ false, srcB ⟨b, o, m⟩ a h] : List AB).length Hr.length (.sl false 2 0 (l10V ⟨b, o, m⟩ a h n).1.length 1) = .sl false (2 + Hr.length) 0 (l10V ⟨b, o, m⟩ a h n).1.length 1 := rfl
  rw [e, l10V_length, Nat.add_comm] at r
  rcases sl_cases r with ⟨_, g2, _⟩ | ⟨_, _, _, g1, g2, g3, rfl⟩
  · cases g2
  · exact .sl g1 g2 g3
noncomputable def rows3 : List (FuncId × Table) := (135, l10T) :: (94, fromT) :: rows2
theorem rows3_at : allAt Try.prog rows3 := ⟨l10_at, from_at, rows2_at⟩
end Go.Ax

/- Calls whose results lie in new blocks. -/
namespace Go.Ax
open Go Go.Proofs

/-- Blocks out of use dropped, one behind the other. -/
def dropN (k0 : Nat) : List Nat → AV → List AB → Option (AV × List AB)
  | [], v, H => some (v, H)
  | k :: ks, v, H => match Nat.ble k0 k && Nat.blt k H.length with
    | true => dropN k0 ks (renV k v) (dropB k k H)
    | false => none
section
variable {P : Program}
theorem dropN_call {f : FuncId} {args : List AV} {H0 : List AB} : ∀ {ks : List Nat} {v v' : AV} {H H' : List AB}, dropN H0.length ks v H = some (v', H') → CallOK P f args H0 v H → CallOK P f args H0 v' H'
  | [], _, _, _, _, h, k => by cases h; exact k
  | i :: ks, v, v', H, H', h, k => by
    simp only [dropN] at h
    split at h
    · rename_i hb
      rw [Bool.and_eq_true] at hb
      exact dropN_call h (k.drop i (Nat.le_of_ble_eq_true hb.1) (blt_true hb.2))
    · cases h
def leafD (k0 : Nat) (ks : List Nat) : Res → Option (AV × List AB × List Bool)
  | .ret v H nd => match dropN k0 ks v H with
    | some (v', H') => some (v', H', nd)
    | none => none
  | _ => none
theorem call_of_leaf {T : Table} {f : FuncId} {args : List AV} {H0 H' : List AB} {ks : List Nat} {dirs conds nd : List Bool} {v : AV} (hT : SoundT P T)
    (h : (condsP (T f args H0 [] fun v H nd => .ret v H nd) dirs, leafD H0.length ks ((T f args H0 [] fun v H nd => .ret v H nd).at dirs)) = (conds, some (v, H', nd))) (hc : allT conds = true) (hn : allT nd = true) : CallOK P f args H0 v H' := by
  simp only [Prod.mk.injEq] at h
  obtain ⟨h1, h2⟩ := h
  have e := sel_of_conds _ dirs (by rw [h1]; exact hc)
  generalize hl : (T f args H0 [] fun v H nd => .ret v H nd).at dirs = r at h2 e
  unfold leafD at h2
  split at h2 <;> (try (cases h2; done))
  split at h2 <;> cases h2
  rename_i hd
  exact dropN_call hd (call_of_sel hT e hn)
theorem plain_low {a : AV} (h : below 0 a = true) (n : Nat) : plainV n a = true := by
  cases a
  case p => simp [below] at h
  case sl => simp [below] at h
  all_goals exact h
theorem plain_lowL : ∀ {l : List AV}, belowL 0 l = true → ∀ n, l.all (plainV n) = true
  | [], _, _ => rfl
  | a :: l, h, n => by
    simp only [belowL, Bool.and_eq_true] at h
    simp only [List.all_cons, Bool.and_eq_true]
    exact ⟨plain_low h.1 n, plain_lowL h.2 n⟩
end
end Go.Ax

/- One way of an evaluation up to a place, or to the end. -/
namespace Go.Ax
open Go Go.Proofs

noncomputable def tab0 : Table := tabOf (cdeep Try.prog [] [] 3000 8)
theorem tab0_sound : SoundT Try.prog tab0 := cdeep_sound (fun p hp => by cases hp) 8
section
variable {P : Program} {T : Table}
theorem jupto_toLp (stop : List Item → Bool) (n : Nat) (L : List Item) (t : List AV) (H : List AB) : jupto P T stop n (toLp L) t H = jupto P T stop n L t H := by
  unfold toLp
  split
  · cases n with
    | zero => rfl
    | succ n =>
      unfold jupto jRun
      rw [cNext_loop stop 99]
  · rfl
theorem jupto_eq {stop : List Item → Bool} {n : Nat} {L R : List Item} (h : toLp L = toLp R) (t : List AV) (H : List AB) : jupto P T stop n L t H = jupto P T stop n R t H := by
  rw [← jupto_toLp, h, jupto_toLp]
theorem way_reach {stop : List Item → Bool} {n : Nat} {L R todo' : List Item} {p M nd : List Bool} {t0 t' : List AV} {H0 H' : List AB} (hT : SoundT P T) (hL : toLp L = toLp R) (hc : allT (condsP (jupto P T stop n R t0 H0) p) = true)
    (hl : lfM M ((jupto P T stop n R t0 H0).at p) = (true, todo', t'.map AV.bare, H', nd)) (hn : allT nd = true) : Reach P L t0 H0 todo' t' H' := by
  simp only [lfM, Prod.mk.injEq] at hl
  obtain ⟨a1, a2, a3, a4, a5⟩ := hl
  have hs := isStop_at a1 hc
  rw [← jupto_eq hL] at hs
  have hr := jupto_reach hT hs (by rw [jupto_eq hL, a5]; exact hn)
  rw [jupto_eq hL, a2, a4] at hr
  exact (hr.weak (blur_eqv M _)).weak (eqv_of_bare a3)
theorem endOfJ {stop : List Item → Bool} {n : Nat} {todo : List Item} {t0 : List AV} {H0 : List AB} {rs : List ResultVar} {r : Res} {x : Option (List AV × List Bool)} {H : List AB} {nd : List Bool} (hT : SoundT P T)
    (h : endOf P rs r = some (x, H, nd)) (hs : (jupto P T stop n todo t0 H0).sel = r.sel) (hn : allT nd = true) : ∃ t, Ends P todo t0 H0 t H ∧ resV P t H rs = x := by
  unfold endOf at h
  split at h <;> (try (cases h; done))
  split at h <;> cases h
  exact ⟨_, jupto_ends hT hs hn, rfl⟩
theorem way_ends {stop : List Item → Bool} {n : Nat} {L R : List Item} {p nd : List Bool} {t0 : List AV} {H0 H' : List AB} {rs : List ResultVar} {x : Option (List AV × List Bool)} (hT : SoundT P T) (hL : toLp L = toLp R) (hc : allT (condsP (jupto P T stop n R t0 H0) p) = true)
    (hl : endOf P rs ((jupto P T stop n R t0 H0).at p) = some (x, H', nd)) (hn : allT nd = true) : ∃ t, Ends P L t0 H0 t H' ∧ resV P t H' rs = x := by
  refine endOfJ (stop := stop) (n := n) hT hl ?_ hn
  rw [jupto_eq hL]
  exact sel_of_conds _ _ hc
end
end Go.Ax

/- slices.Sort at lists of int64: what the library's sort asks of the program (written by the kit's tool for layings). -/
namespace Go.Ax
open Go Go.Proofs Go.Shelf
def laysSort_ren : Go.Shelf.Ren := ⟨fun | 53 => 257 | 64 => 275 | 63 => 274 | 78 => 290 | 79 => 291 | 70 => 281 | 71 => 282 | 72 => 283 | 73 => 284 | 74 => 285 | 75 => 286 | 59 => 287 | 76 => 288 | 77 => 289 | 88 => 293 | 89 => 294 | 90 => 295 | 91 => 296 | 92 => 297 | 68 => 298 | 96 => 299 | n => n, fun | 22 => 50 | 23 => 2 | 3 => 3 | 51 => 99 | 0 => 0 | 67 => 202 | 69 => 37 | 4 => 4 | 61 => 194 | 60 => 193 | 44 => 199 | 5 => 5 | 9 => 9 | 75 => 203 | 79 => 207 | 83 => 209 | 84 => 210 | n => n, fun | n => n⟩
theorem laysSort : Go.Proofs.SlLaysN.n53 Try.prog laysSort_ren := {
  mixed := by kernel_rfl
  f53 := ⟨Try.f257.name, by decide, Try.func257.trans (congrArg some (by kernel_rfl))⟩
  f59 := ⟨Try.f287.name, by decide, Try.func287.trans (congrArg some (by kernel_rfl))⟩
  f63 := ⟨Try.f274.name, by decide, Try.func274.trans (congrArg some (by kernel_rfl))⟩
  f64 := Try.func275.trans (congrArg some (by kernel_rfl))
  f68 := ⟨Try.f298.name, by decide, Try.func298.trans (congrArg some (by kernel_rfl))⟩
  f70 := ⟨Try.f281.name, by decide, Try.func281.trans (congrArg some (by kernel_rfl))⟩
  f71 := ⟨Try.f282.name, by decide, Try.func282.trans (congrArg some (by kernel_rfl))⟩
  f72 := ⟨Try.f283.name, by decide, Try.func283.trans (congrArg some (by kernel_rfl))⟩
  f73 := ⟨Try.f284.name, by decide, Try.func284.trans (congrArg some (by kernel_rfl))⟩
  f74 := ⟨Try.f285.name, by decide, Try.func285.trans (congrArg some (by kernel_rfl))⟩
  f75 := ⟨Try.f286.name, by decide, Try.func286.trans (congrArg some (by kernel_rfl))⟩
  f76 := ⟨Try.f288.name, by decide, Try.func288.trans (congrArg some (by kernel_rfl))⟩
  f77 := ⟨Try.f289.name, by decide, Try.func289.trans (congrArg some (by kernel_rfl))⟩
  f78 := Try.func290.trans (congrArg some (by kernel_rfl))
  f79 := Try.func291.trans (congrArg some (by kernel_rfl))
  f88 := ⟨Try.f293.name, by decide, Try.func293.trans (congrArg some (by kernel_rfl))⟩
  f89 := Try.func294.trans (congrArg some (by kernel_rfl))
  f90 := Try.func295.trans (congrArg some (by kernel_rfl))
  f91 := ⟨Try.f296.name, by decide, Try.func296.trans (congrArg some (by kernel_rfl))⟩
  f92 := ⟨Try.f297.name, by decide, Try.func297.trans (congrArg some (by kernel_rfl))⟩
  f96 := ⟨Try.f299.name, by decide, Try.func299.trans (congrArg some (by kernel_rfl))⟩
  t0 := Try.underlying0
  a0 := Try.isAgg0
  z0 := Try.sizeOf0
  v0 := Try.zeroValue0
  t3 := Try.underlying3
  a3 := Try.isAgg3
  z3 := Try.sizeOf3
  v3 := Try.zeroValue3
  t4 := Try.underlying4
  a4 := Try.isAgg4
  z4 := Try.sizeOf4
  v4 := Try.zeroValue4
  t5 := Try.underlying5
  a5 := Try.isAgg5
  z5 := Try.sizeOf5
  v5 := Try.zeroValue5
  t9 := Try.underlying9
  a9 := Try.isAgg9
  z9 := Try.sizeOf9
  v9 := Try.zeroValue9
  t22 := Try.underlying50
  a22 := Try.isAgg50
  z22 := Try.sizeOf50
  v22 := Try.zeroValue50
  t23 := Try.underlying2
  a23 := Try.isAgg2
  z23 := Try.sizeOf2
  v23 := Try.zeroValue2
  t44 := Try.underlying199
  a44 := Try.isAgg199
  z44 := Try.sizeOf199
  v44 := Try.zeroValue199
  t51 := Try.underlying99
  a51 := Try.isAgg99
  z51 := Try.sizeOf99
  v51 := Try.zeroValue99
  t60 := Try.underlying193
  a60 := Try.isAgg193
  z60 := Try.sizeOf193
  v60 := Try.zeroValue193
  t61 := Try.underlying194
  a61 := Try.isAgg194
  z61 := Try.sizeOf194
  v61 := Try.zeroValue194
  t67 := Try.underlying202
  a67 := Try.isAgg202
  z67 := Try.sizeOf202
  v67 := Try.zeroValue202
  t69 := Try.underlying37
  a69 := Try.isAgg37
  z69 := Try.sizeOf37
  v69 := Try.zeroValue37
  t75 := Try.underlying203
  a75 := Try.isAgg203
  z75 := Try.sizeOf203
  v75 := Try.zeroValue203
  t79 := Try.underlying207
  a79 := Try.isAgg207
  z79 := Try.sizeOf207
  v79 := Try.zeroValue207
  t83 := Try.underlying209
  a83 := Try.isAgg209
  z83 := Try.sizeOf209
  v83 := Try.zeroValue209
  t84 := Try.underlying210
  a84 := Try.isAgg210
  z84 := Try.sizeOf210
  v84 := Try.zeroValue210 }
end Go.Ax

/- Numbers that are not too great do not become infinite. -/
namespace Go.Ax
open Go Ieee

theorem cut_le (g : Bool) (n d k : Nat) (hk : n < 2 ^ (k + d)) (hd : 0 < k) : Toward.even.cut g n d ≤ 2 ^ k := by
  unfold Toward.cut
  simp only [Nat.one_shiftLeft]
  have hb : ∀ b : Bool, b.toNat ≤ 1 := fun b => by cases b <;> decide
  have hlow : n / 2 ^ min d (n.log2 + 2) < 2 ^ k := by
    rw [Nat.div_lt_iff_lt_mul (Nat.two_pow_pos _), ← Nat.pow_add]
    rcases Nat.le_total d (n.log2 + 2) with h | h
    · rw [Nat.min_eq_left h]; exact hk
    · rw [Nat.min_eq_right h]
      exact Nat.lt_of_lt_of_le (Nat.lt_log2_self (n := n)) (Nat.pow_le_pow_right (by decide) (by omega))
  have := hb ((decide (2 ^ min d (n.log2 + 2) < 2 * (n % 2 ^ min d (n.log2 + 2)))) || (2 ^ min d (n.log2 + 2) == 2 * (n % 2 ^ min d (n.log2 + 2)) && n / 2 ^ min d (n.log2 + 2) % 2 == 1))
  omega

theorem nearest_small (g : Bool) (m : Nat) (place : Int) (h : place + m.log2 ≤ 126) : (single.read (single.nearest g m place)).isInfinity = false := by
  have hrung : ∃ k, single.nearest g m place = single.word g k ∧ k < single.infRung := by
    unfold Format.nearest
    by_cases hm : m = 0
    · rw [if_pos hm]; exact ⟨0, rfl, by decide⟩
    · rw [if_neg hm]
      refine ⟨_, rfl, ?_⟩
      have hl : single.leastPlace = -149 := by decide
      have hf : single.fractionBits = 23 := rfl
      have hbin : single.binade = 8388608 := rfl
      have hinf : single.infRung = 2139095040 := rfl
      simp only [hl, hf, hbin, hinf]
      generalize hlast : max (place + (m.log2 : Nat) - (23 : Nat)) (-149) = last
      have h1 : last ≤ 103 := by omega
      have h2 : -149 ≤ last := by omega
      have hml := Nat.lt_log2_self (n := m)
      have hkept : Toward.even.cut g (m <<< (place - last).toNat) (last - place).toNat ≤ 2 ^ 24 := by
        refine cut_le g _ _ 24 ?_ (by decide)
        rw [Nat.shiftLeft_eq]
        calc m * 2 ^ (place - last).toNat < 2 ^ (m.log2 + 1) * 2 ^ (place - last).toNat := Nat.mul_lt_mul_of_pos_right hml (Nat.two_pow_pos _)
          _ = 2 ^ (m.log2 + 1 + (place - last).toNat) := by rw [← Nat.pow_add]
          _ ≤ 2 ^ (24 + (last - place).toNat) := Nat.pow_le_pow_right (by decide) (by omega)
      have h3 : (last - -149).toNat * 8388608 ≤ 252 * 8388608 := Nat.mul_le_mul_right _ (by omega)
      have h4 : (2 : Nat) ^ 24 = 16777216 := by decide
      rw [h4] at hkept
      refine Nat.lt_of_le_of_lt (Nat.min_le_left _ _) ?_
      exact Nat.lt_of_le_of_lt (Nat.add_le_add h3 hkept) (by decide)
  obtain ⟨k, e, hk⟩ := hrung
  obtain ⟨_, e2⟩ := read_word single g k (Nat.lt_trans hk (inf_lt single))
  rw [e]
  unfold Format.read
  simp only [e2]
  split
  · rfl
  · rfl
theorem fcvtOK_small (x : Nat) (g : Bool) (m : Nat) (e : Int) (hx : double.read x = .number g m e) (h : e + m.log2 ≤ 126) : fcvtOK .f64 .f32 x = true := by
  have h1 : FloatKind.f64.decode x = .number g m e := hx
  have h2 : (FloatKind.f32.decode (FloatKind.f32.encode (.number g m e))).isInfinity = false := nearest_small g m e h
  unfold fcvtOK
  rw [if_neg (by decide), h1]
  dsimp only
  rw [h2]; rfl
end Go.Ax

/- Whole numbers by powers of two. -/
namespace Go.Ax
open Go Go.Proofs Ieee

theorem near_signed (g : Bool) (n s : Nat) (h0 : 4503599627370496 ≤ n * 2 ^ s) (h1 : n * 2 ^ s < 9007199254740992) (hs : s ≤ 52) : double.nearest g n 0 = canon double g (n * 2 ^ s) (1074 - s) := by
  refine nearest_up double g n s (1074 - s) 0 h0 h1 (by rw [d_least]; omega) ?_
  rw [d_bin, d_inf]
  have : (1074 - s) * 4503599627370496 ≤ 1074 * 4503599627370496 := Nat.mul_le_mul_right _ (by omega)
  exact Nat.le_trans (Nat.add_le_add this (Nat.le_of_lt h1)) (by decide)

theorem quot_exact (g : Bool) (m N d q : Nat) (i j : Int) (hN : N ≠ 0) (hl : m.log2 = N.log2) (q1 : m <<< d / N = q) (q2 : m <<< d % N = 0) :
    Datum.quotient d (.number g m i) (.number false N j) = some (.number g (2 * q) (i - j - d - 1)) := by
  unfold Datum.quotient
  simp only [if_neg hN, hl, Nat.add_sub_cancel, q1, q2]
  simp
theorem div_pow2 (g : Bool) (m r : Nat) (k : Int) (h0 : 4503599627370496 ≤ m) (h1 : m < 9007199254740992) (hr : r ≤ 2000) (hk : -1022 ≤ k) (hk' : k ≤ 900) (hrk : 0 ≤ r - k) (hrk' : r - k ≤ 2000) :
    fdiv .f64 (canon double g m r) (pow2 k) = canon double g m (r - k).toNat := by
  rw [pow2_canon k hk]
  have e1 : double.read (canon double g m r) = .number g m (double.leastPlace + r) := by
    refine read_canon double g m r h1 (.inr h0) ?_
    rw [d_bin, d_inf]
    have : r * 4503599627370496 ≤ 2000 * 4503599627370496 := Nat.mul_le_mul_right _ hr
    omega
  have e2 : double.read (canon double false (4503599627370496) (k + 1022).toNat) = .number false (4503599627370496) (double.leastPlace + ((k + 1022).toNat : Nat)) := by
    refine read_canon double false _ _ (by decide) (.inr (Nat.le_refl _)) ?_
    rw [d_bin, d_inf]
    have : (k + 1022).toNat * 4503599627370496 ≤ 1922 * 4503599627370496 := Nat.mul_le_mul_right _ (by omega)
    omega
  have l1 : m.log2 = 52 := log2_eq h0 h1
  have l2 : (4503599627370496 : Nat).log2 = 52 := log2_eq (by decide) (by decide)
  have q1 : m <<< 54 / 4503599627370496 = m * 4 := by
    rw [Nat.shiftLeft_eq, show (2 : Nat) ^ 54 = 4 * 4503599627370496 by decide, ← Nat.mul_assoc, Nat.mul_div_cancel _ (by decide)]
  have q2 : m <<< 54 % 4503599627370496 = 0 := by
    rw [Nat.shiftLeft_eq, show (2 : Nat) ^ 54 = 4 * 4503599627370496 by decide, ← Nat.mul_assoc, Nat.mul_mod_left]
  have e3 : double.div (canon double g m r) (canon double false (4503599627370496) (k + 1022).toNat) = some (double.nearest g (m * 2 ^ 3) (double.leastPlace + r - (double.leastPlace + ((k + 1022).toNat : Nat)) - 55)) := by
    unfold Format.div
    rw [e1, e2]
    have : Datum.quotient (double.fractionBits + 2) (.number g m (double.leastPlace + r)) (.number false 4503599627370496 (double.leastPlace + ((k + 1022).toNat : Nat))) =
        some (.number g (m * 2 ^ 3) (double.leastPlace + r - (double.leastPlace + ((k + 1022).toNat : Nat)) - 55)) := by
      have := quot_exact g m 4503599627370496 54 (m * 4) (double.leastPlace + r) (double.leastPlace + ((k + 1022).toNat : Nat)) (by decide) (l1.trans l2.symm) q1 q2
      have hd : double.fractionBits + 2 = 54 := rfl
      rw [hd, this]
      have h8 : 2 * (m * 4) = m * 2 ^ 3 := by rw [show (2 : Nat) ^ 3 = 8 from rfl]; omega
      have h9 : ∀ y : Int, y - ((54 : Nat) : Int) - 1 = y - 55 := fun y => by omega
      rw [h8, h9]
    rw [this]
    rfl
  have e4 := nearest_down double g m 3 (r - k).toNat (double.leastPlace + r - (double.leastPlace + ((k + 1022).toNat : Nat)) - 55) h0 h1 (by rw [d_least]; omega) (by
    rw [d_bin, d_inf]
    have : (r - k).toNat * 4503599627370496 ≤ 2000 * 4503599627370496 := Nat.mul_le_mul_right _ (by omega)
    exact Nat.le_trans (Nat.add_le_add this (Nat.le_of_lt h1)) (by decide))
  show (double.div _ _).getD _ = _
  rw [e3, e4]
  rfl

/-- A whole number of at most 26 digits by a power of two: it is no great number. -/
theorem unit_ok (x : Int) (k : Int) (hx : x.natAbs < 67108864) (hx0 : x ≠ 0) (hk : 0 ≤ k) (hk' : k ≤ 100) : fcvtOK .f64 .f32 (fdiv .f64 (FloatKind.f64.nearest x) (pow2 k)) = true := by
  have e : FloatKind.f64.nearest x = double.nearest (decide (x < 0)) x.natAbs 0 := rfl
  obtain ⟨s, hs1, hs2, hs3⟩ := shift_of x.natAbs (by omega) (by omega)
  rw [e, near_signed _ _ s hs2 hs3 hs1, div_pow2 _ _ _ k hs2 hs3 (by omega) (by omega) (by omega) (by omega) (by omega)]
  have hl : (x.natAbs * 2 ^ s).log2 = 52 := log2_eq hs2 hs3
  have hs26 : 26 < s := by
    rcases Nat.lt_or_ge 26 s with h | h
    · exact h
    · have h2 : 2 ^ s ≤ 2 ^ 26 := Nat.pow_le_pow_right (by decide) h
      have : x.natAbs * 2 ^ s ≤ 67108863 * 2 ^ 26 := Nat.mul_le_mul (by omega) h2
      have h3 : (2 : Nat) ^ 26 = 67108864 := by decide
      rw [h3] at this
      omega
  refine fcvtOK_small _ (decide (x < 0)) (x.natAbs * 2 ^ s) (double.leastPlace + ((((1074 - s : Nat) : Int) - k).toNat : Nat)) ?_ ?_
  · refine read_canon double _ _ _ hs3 (.inr hs2) ?_
    rw [d_bin, d_inf]
    have : (((1074 - s : Nat) : Int) - k).toNat * 4503599627370496 ≤ 1100 * 4503599627370496 := Nat.mul_le_mul_right _ (by omega)
    omega
  · rw [hl, d_least]; omega
end Go.Ax

/- Functions that draw a value out of a text of bytes: table rows. -/
namespace Go.Ax
open Go Go.Proofs

/-- A call that only reads the bytes leaves every memory that begins with them as it was. -/
theorem CallOK.read {P : Program} {f : FuncId} {args : List AV} {v : AV} {c : Cd} {H1 : List AB} (h : CallOK P f args [codeB c false] v H1) (hv : below 0 v = true) (ha : belowL 1 args = true) (Hr : List AB) :
    CallOK P f args (codeB c false :: Hr) v (codeB c false :: Hr) := fun σ w rargs s hra => by
  have hl : 0 < σ.length := by rw [s.len]; simp
  obtain ⟨x, hx⟩ : ∃ x, σ[0]? = some x := ⟨_, List.getElem?_eq_getElem hl⟩
  have e0 : Ext [x] σ := fun i b hb => by
    match i, hb with
    | 0, hb => cases hb; exact hx
    | i + 1, hb => simp at hb
  have s0 : Sim [x] [codeB c false] w := by
    refine ⟨rfl, fun i b z hb => ?_, fun i j b z z' hi hj hr _ => ?_⟩
    · match i, hb with
      | 0, hb =>
        cases hb
        exact low_blk e0 rfl (by rfl : lowB 1 (codeB c false) = true) (s.blk 0 b z hx)
      | i + 1, hb => simp at hb
    · match i, hi with
      | 0, _ => simp [getB, codeB, AB.rw] at hr
      | i + 1, hi => simp at hi
  refine (h [x] w rargs s0 (belowL_rel e0 rfl ha hra)).mono ?_
  rintro e w' ⟨rv, rfl, σ', r1, s1, f1⟩
  have hE : ∀ τ : List (Nat × Nat), Ext [] τ := fun τ i b hb => by simp at hb
  refine ⟨rv, rfl, σ, (below_rel (σ := []) (τ := σ') (hE _) rfl hv r1).mono (hE _), ?_⟩
  have f2 : Fr σ (roH (codeB c false :: Hr)) w σ (roH (codeB c false :: Hr)) w' := ⟨f1.os, f1.tape, f1.output, f1.size, fun b hb _ => f1.old b hb fun i z hr => by
      match i with
      | 0 => simp [getB, codeB, AB.rw] at hr
      | i + 1 => simp [getB, AB.rw] at hr, Ext.refl σ, fun i b z h h' => (by rw [h'] at h; cases h), fun i _ h => h⟩
  exact s.ro_back f2

/-- What a drawing function must be: some value of a form, whatever memory is behind the bytes. -/
def DrawOK (P : Program) (f : FuncId) (c : Cd) (v : AV) : Prop := ∀ Hr, CallOK P f [.sl false 0 c.off c.len 0] (codeB c false :: Hr) v (codeB c false :: Hr)
def formI : Form Int where
  get := fun | .i _ .i64 x => some x | _ => none
  val := fun x => .i false .i64 x
  rel := fun {v x} h σ y r => by
    split at h <;> cases h
    cases r; exact .i _ _
  low := fun _ => rfl
end Go.Ax

/- spec.l01Next as a table's row: numbers below a bound are told one by one. -/
namespace Go.Ax
open Go Go.Proofs

noncomputable def nextM (mx : Int) : Table := fun _ args H nd K =>
  match args with
  | [p, .i l .i64 n] => match p with
    | .p _ id off => match readCode (getB H 0), readSrc (getB H id), decide (off = 0) && !decide (id = 0) with
      | some (o', b), some (o, m, a, h), true =>
        match l && decide (1 ≤ n) && decide (n ≤ mx) with
        | true => splitK (fun v => K v (setB H id (srcR o m (nxA ⟨b, o', m⟩ a n) (nxS h n))) (okB ⟨b, o', m⟩ o m :: nd)) (nxV ⟨b, o', m⟩ a h n) (n.toNat - 1)
        | false => K (.i false .i64 (nxV ⟨b, o', m⟩ a h n)) (setB H id (srcR o m (nxA ⟨b, o', m⟩ a n) (nxS h n))) (okB ⟨b, o', m⟩ o m :: nd)
      | _, _, _ => .fail
    | _ => .fail
  | _ => .fail

theorem nextM_at (mx : Int) : SoundAt Try.prog 96 (nextM mx) := fun args H nd K => by
  unfold nextM
  split
  case h_2 => exact .inl rfl
  rename_i p l n
  split
  case h_2 => exact .inl rfl
  rename_i lp id off
  split
  case h_2 => exact .inl rfl
  rename_i o' b o m a h hc hs h0
  simp only [Bool.and_eq_true, decide_eq_true_eq, Bool.not_eq_true', decide_eq_false_iff_not] at h0
  obtain ⟨rfl, h0⟩ := h0
  have main : ∀ v : AV, (okB ⟨b, o', m⟩ o m = true → v.bare = .i false .i64 (nxV ⟨b, o', m⟩ a h n)) → allT (okB ⟨b, o', m⟩ o m :: nd) = true →
      allT nd = true ∧ CallOK Try.prog 96 [.p lp id 0, .i l .i64 n] H v (setB H id (srcR o m (nxA ⟨b, o', m⟩ a n) (nxS h n))) := fun v hv hn => by
    simp only [allT, Bool.and_eq_true] at hn
    have hg : goodB ⟨b, o', m⟩ = true := by have := hn.1; simp only [okB, Bool.and_eq_true] at this; exact this.1.1
    have ho : o = o' := by have := hn.1; simp only [okB, Bool.and_eq_true, decide_eq_true_eq] at this; exact this.1.2
    subst ho
    obtain ⟨H2, k, e1, e2, e3⟩ := next_ok hg a h n
    refine ⟨hn.2, ?_⟩
    have hk := (k.src e1 e2 e3 (l := lp) (id := id) (H := H) hc h0 hs).bare (args' := [.p lp id 0, .i l .i64 n]) rfl
    refine hk.weaken fun σ x r => ?_
    have := hv hn.1
    rw [← this] at r
    exact r.unbare
  split
  · rename_i hl
    simp only [Bool.and_eq_true, decide_eq_true_eq] at hl
    obtain ⟨k, e1, e2⟩ := splitK_sel (fun v => K v (setB H id (srcR o m (nxA ⟨b, o', m⟩ a n) (nxS h n))) (okB ⟨b, o', m⟩ o m :: nd)) (nxV ⟨b, o', m⟩ a h n) (n.toNat - 1)
    refine .inr ⟨_, _, _, e1, fun hn => main _ (fun hk => ?_) hn⟩
    have hg : goodB ⟨b, o', m⟩ = true := by simp only [okB, Bool.and_eq_true] at hk; exact hk.1.1
    have hb := nxV_bound hg a h n
    have hb2 := hb.2 hl.1.2
    have := e2 hb.1 (by omega)
    rw [this]; rfl
  · exact .inr ⟨_, _, _, rfl, fun hn => main _ (fun _ => rfl) hn⟩


noncomputable def rows4 (mx : Int) : List (FuncId × Table) := (96, nextM mx) :: rows3
theorem rows4_at (mx : Int) : allAt Try.prog (rows4 mx) := ⟨nextM_at mx, rows3_at⟩
noncomputable def tab4 (mx : Int) : Table := deep Try.prog (rows4 mx) [95] 2000 6
theorem tab4_sound (mx : Int) : SoundT Try.prog (tab4 mx) := deep_sound (allAt_mem (rows4_at mx)) 6
end Go.Ax

/- spec.l01DrawUnit: some number. -/
namespace Go.Ax
open Go Go.Proofs

noncomputable def uF (x : Int) (d : Nat) : Bool := fcvtOK .f64 .f32 (fdiv .f64 (FloatKind.f64.nearest (IntKind.i64.wrap x)) d)
noncomputable def unitNd (k : Bool) (x1 x2 : Int) : List Bool := [k, uF (x1 - 16777216) 4715268809856909312, k, k, k, uF (x1 - 16777216) 4715268809856909312, k, k, k, uF (x1 - 16777216) 4715268809856909312, k, k, k, uF (x1 - 16777216) 4769312005385355264, k, k, k,
  uF (x2 - 64) 4634204016564240384, k, k, k, k, k, k, k, k, k, k, k]
theorem uF_true (x : Int) (k : Int) (d : Nat) (hd : d = pow2 k) (h0 : fcvtOK .f64 .f32 (fdiv .f64 (FloatKind.f64.nearest 0) d) = true) (hx : -67108863 ≤ x ∧ x ≤ 67108863) (hk : 0 ≤ k) (hk' : k ≤ 100) : uF x d = true := by
  unfold uF
  rw [wrap64_id (by omega) (by omega)]
  by_cases hz : x = 0
  · subst hz; exact h0
  · rw [hd]; exact unit_ok x k (by omega) hz hk hk'
noncomputable def unitR (c : Cd) (a : Nat) (h : Int) : Option (Nat × Nat × Int × List Bool) :=
  srcEx formF c (runF Try.prog (tab4 7) 1000 202 [.p true 1 0] [codeB c false, srcB c a h] [] fun v H nd => .ret v H nd)
theorem unit_nd (c : Cd) (a : Nat) (h : Int) : (unitR c a h).map (fun r => r.2.2.2) = some (unitNd (okB c c.off c.len) (nxV c (nxA c a 6) (nxS h 6) 33554432) (nxV c (nxA c a 6) (nxS h 6) 129)) := by kernel_rfl
theorem unit_z1 : fcvtOK .f64 .f32 (fdiv .f64 (FloatKind.f64.nearest 0) 4715268809856909312) = true := by kernel_rfl
theorem unit_z2 : fcvtOK .f64 .f32 (fdiv .f64 (FloatKind.f64.nearest 0) 4769312005385355264) = true := by kernel_rfl
theorem unit_z3 : fcvtOK .f64 .f32 (fdiv .f64 (FloatKind.f64.nearest 0) 4634204016564240384) = true := by kernel_rfl
theorem unit_ex {c : Cd} (hc : goodB c = true) (a : Nat) (h : Int) : ∃ x a' h', SrcOK Try.prog 202 [] c a h (.f false .f32 x) a' h' := by
  have hn := unit_nd c a h
  have hk : okB c c.off c.len = true := by simp [okB, hc]
  cases hr : unitR c a h with
  | none => rw [hr] at hn; cases hn
  | some r =>
    obtain ⟨x, a', h', nd⟩ := r
    rw [hr] at hn
    simp only [Option.map_some, Option.some.injEq] at hn
    refine ⟨x, a', h', srcOK_of_ex (F := formF) (runF_sound (tab4_sound 7) 1000) hr ?_ rfl⟩
    rw [hn, hk]
    have b1 := nxV_bound hc (nxA c a 6) (nxS h 6) 33554432
    have b2 := nxV_bound hc (nxA c a 6) (nxS h 6) 129
    have b1' := b1.2 (by decide)
    have b2' := b2.2 (by decide)
    have e1 := uF_true (nxV c (nxA c a 6) (nxS h 6) 33554432 - 16777216) 24 4715268809856909312 (by kernel_rfl) unit_z1 (by omega) (by decide) (by decide)
    have e2 := uF_true (nxV c (nxA c a 6) (nxS h 6) 33554432 - 16777216) 36 4769312005385355264 (by kernel_rfl) unit_z2 (by omega) (by decide) (by decide)
    have e3 := uF_true (nxV c (nxA c a 6) (nxS h 6) 129 - 64) 6 4634204016564240384 (by kernel_rfl) unit_z3 (by omega) (by decide) (by decide)
    unfold unitNd
    rw [e1, e2, e3]
    rfl
noncomputable def unitV (c : Cd) (a : Nat) (h : Int) : Nat × Nat × Int :=
  open Classical in if hx : ∃ r : Nat × Nat × Int, SrcOK Try.prog 202 [] c a h (.f false .f32 r.1) r.2.1 r.2.2 then hx.choose else (0, a, h)
theorem unitV_ok {c : Cd} (hc : goodB c = true) (a : Nat) (h : Int) : SrcOK Try.prog 202 [] c a h (.f false .f32 (unitV c a h).1) (unitV c a h).2.1 (unitV c a h).2.2 := by
  obtain ⟨x, a', h', hx⟩ := unit_ex hc a h
  have he : ∃ r : Nat × Nat × Int, SrcOK Try.prog 202 [] c a h (.f false .f32 r.1) r.2.1 r.2.2 := ⟨(x, a', h'), hx⟩
  unfold unitV
  rw [dif_pos he]
  exact he.choose_spec
noncomputable def unitT : Table := srcT fun c a h sc => match sc with
  | [] => some (.f false .f32 (unitV c a h).1, (unitV c a h).2.1, (unitV c a h).2.2, [])
  | _ => none
theorem unit_at : SoundAt Try.prog 202 unitT := fun args H nd K => by
  refine srcT_sound (fun c a h sc v a' h' q hc hg _ => ?_) args H nd K
  split at hg <;> cases hg
  exact unitV_ok hc a h
end Go.Ax

/- spec.l01DrawComplex: some complex number. -/
namespace Go.Ax
open Go Go.Proofs

noncomputable def rows5 (mx : Int) : List (FuncId × Table) := (202, unitT) :: rows4 mx
theorem rows5_at (mx : Int) : allAt Try.prog (rows5 mx) := ⟨unit_at, rows4_at mx⟩
noncomputable def tab5 (mx : Int) : Table := deep Try.prog (rows5 mx) [95, 200] 2000 6
theorem tab5_sound (mx : Int) : SoundT Try.prog (tab5 mx) := deep_sound (allAt_mem (rows5_at mx)) 6
def formC : Form (Nat × Nat) where
  get := fun | .c _ .f32 x y => some (x, y) | _ => none
  val := fun x => .c false .f32 x.1 x.2
  rel := fun {v x} h σ y r => by
    split at h <;> cases h
    cases r with | c h1 h2 => exact .c h1 h2
  low := fun _ => rfl
noncomputable def cpxR (c : Cd) (a : Nat) (h : Int) : Option ((Nat × Nat) × Nat × Int × List Bool) :=
  srcEx formC c (runF Try.prog (tab5 4) 1000 108 [.p true 1 0] [codeB c false, srcB c a h] [] fun v H nd => .ret v H nd)
theorem cpx_nd (c : Cd) (a : Nat) (h : Int) : (cpxR c a h).map (fun r => r.2.2.2) = some (List.replicate 383 (okB c c.off c.len)) := by kernel_rfl
theorem cpx_ex {c : Cd} (hc : goodB c = true) (a : Nat) (h : Int) : ∃ (x : Nat × Nat) (a' : Nat) (h' : Int), SrcOK Try.prog 108 [] c a h (.c false .f32 x.1 x.2) a' h' := by
  have hn := cpx_nd c a h
  have hk : okB c c.off c.len = true := by simp [okB, hc]
  cases hr : cpxR c a h with
  | none => rw [hr] at hn; cases hn
  | some r =>
    obtain ⟨x, a', h', nd⟩ := r
    rw [hr] at hn
    simp only [Option.map_some, Option.some.injEq] at hn
    refine ⟨x, a', h', srcOK_of_ex (F := formC) (runF_sound (tab5_sound 4) 1000) hr ?_ rfl⟩
    rw [hn, hk]
    exact allT_rep 383
noncomputable def cpxV (c : Cd) (a : Nat) (h : Int) : (Nat × Nat) × Nat × Int :=
  open Classical in if hx : ∃ r : (Nat × Nat) × Nat × Int, SrcOK Try.prog 108 [] c a h (.c false .f32 r.1.1 r.1.2) r.2.1 r.2.2 then hx.choose else ((0, 0), a, h)
theorem cpxV_ok {c : Cd} (hc : goodB c = true) (a : Nat) (h : Int) : SrcOK Try.prog 108 [] c a h (.c false .f32 (cpxV c a h).1.1 (cpxV c a h).1.2) (cpxV c a h).2.1 (cpxV c a h).2.2 := by
  obtain ⟨x, a', h', hx⟩ := cpx_ex hc a h
  have he : ∃ r : (Nat × Nat) × Nat × Int, SrcOK Try.prog 108 [] c a h (.c false .f32 r.1.1 r.1.2) r.2.1 r.2.2 := ⟨(x, a', h'), hx⟩
  unfold cpxV
  rw [dif_pos he]
  exact he.choose_spec
noncomputable def cpxT : Table := srcT fun c a h sc => match sc with
  | [] => some (.c false .f32 (cpxV c a h).1.1 (cpxV c a h).1.2, (cpxV c a h).2.1, (cpxV c a h).2.2, [])
  | _ => none
theorem cpx_at : SoundAt Try.prog 108 cpxT := fun args H nd K => by
  refine srcT_sound (fun c a h sc v a' h' q hc hg _ => ?_) args H nd K
  split at hg <;> cases hg
  exact cpxV_ok hc a h
end Go.Ax

/- spec.DrawFlatWave: some number and some complex number. -/
namespace Go.Ax
open Go Go.Proofs

noncomputable def rows6 (mx : Int) : List (FuncId × Table) := (108, cpxT) :: rows5 mx
theorem rows6_at (mx : Int) : allAt Try.prog (rows6 mx) := ⟨cpx_at, rows5_at mx⟩
end Go.Ax

/- impl.halved and impl.modulo as table rows. -/
namespace Go.Ax
open Go Go.Proofs

noncomputable def tabD : Table := deep Try.prog [] [] 3000 8
theorem tabD_sound : SoundT Try.prog tabD := deep_sound (fun p hp => by cases hp) 8
theorem mod_val (k : Int) : (IntKind.i64.wrap (k.tmod 64 + 64)).tmod 64 = k % 64 := by
  have h1 : k.tmod 64 < 64 := Int.tmod_lt_of_pos k (by decide)
  have h2 : -64 < k.tmod 64 := by
    have := Int.lt_tmod_of_pos k (show (0 : Int) < 64 by decide); omega
  rw [wrap64_id (by omega) (by omega), Int.tmod_eq_emod_of_nonneg (by omega)]
  have h3 : k.tmod 64 = k - 64 * k.tdiv 64 := by have := Int.tmod_add_mul_tdiv k 64; omega
  omega
end Go.Ax
