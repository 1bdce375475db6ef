/- Codes of Walsh: contract and row. -/
import Derived.Test.YtdcjjibekhcplaaDap
namespace Go.Ax
open Go Go.Proofs

theorem no_ro : ∀ i, (getB ([] : List AB) i).rw = false := fun _ => rfl
def pow7 (n : Int) : Bool := decide (n ∈ ([1, 2, 4, 8, 16, 32, 64] : List Int))
def wcOK (n k : Int) : Bool := pow7 n && inK n k
def wcL (n k : Int) : List Nat := plusM (walL n.toNat k.toNat)
def wcC (n k : Int) : Int := cond (wcOK n k) 0 2
theorem inK_iff {n k : Int} : inK n k = true ↔ 0 ≤ k ∧ k ≤ n - 1 := by
  unfold inK
  rw [leQ_eq, leQ_eq]
  by_cases h : 0 ≤ k <;> simp [h]
theorem wkQ_ok {k : Int} (h : in64 k = true) (n : Nat) (m : Bool) : allT (wkQ k n m) = true := by
  cases m with
  | false =>
    unfold wkQ
    rw [h, allT_append, allT_rep]
    exact intT_ok n
  | true =>
    unfold wkQ
    rw [h, allT_append, allT_rep]
    rfl
theorem wk_call {f : FuncId} {n : Nat} {m : Bool} (h : WkRun f n m) (hn : n ≤ 64) (hp : pow7 (Int.ofNat n) = true) (k : Int) : CallOK Try.prog f [.i true .i64 (Int.ofNat n), .i false .i64 k] [] (uniV ([] : List AB).length (wcOK (Int.ofNat n) k) (wcL (Int.ofNat n) k).length (wcC (Int.ofNat n) k)) ([] ++ [uniB (wcOK (Int.ofNat n) k) (wcL (Int.ofNat n) k)]) := by
  have h0 := h k
  simp only [Prod.mk.injEq] at h0
  obtain ⟨c1, o1, c2, b2⟩ := h0
  unfold wcC wcOK
  rw [hp, Bool.true_and]
  cases hk : inK (Int.ofNat n) k with
  | true =>
    have h64 : in64 k = true := by
      rw [inK_iff] at hk
      rw [in64_iff]
      simp only [Int.ofNat_eq_natCast] at hk
      omega
    exact out_call (H0 := []) tabWc_sound (sel_of_conds _ [false] (by show allT (condsP (rWk f (Int.ofNat n) k) [false]) = true; rw [c1, hk]; rfl)) (outD_K o1 (wkQ_ok h64 n m)) no_ro
  | false =>
    exact badC_call (H0 := []) (c := 2) tabWc_sound (sel_of_conds _ [true] (by show allT (condsP (rWk f (Int.ofNat n) k) [true]) = true; rw [c2, hk]; rfl)) b2 no_ro _ _
theorem wk_bad {f : FuncId} {n : Int} (h : WkBad f n) (hp : pow7 n = false) (k : Int) : CallOK Try.prog f [.i true .i64 n, .i false .i64 k] [] (uniV ([] : List AB).length (wcOK n k) (wcL n k).length (wcC n k)) ([] ++ [uniB (wcOK n k) (wcL n k)]) := by
  unfold wcC wcOK
  rw [hp, Bool.false_and]
  exact badC_call (H0 := []) (c := 2) tabWc_sound rfl (h k) no_ro _ _
def ns60' : List Int := [12, 64, 32, 16, 8, 4, 2, 1]
theorem wc_ok (f : FuncId) (hf : f = 61 ∨ f = 62) (n k : Int) (hn : n ∈ ns60') : CallOK Try.prog f [.i false .i64 n, .i false .i64 k] [] (uniV ([] : List AB).length (wcOK n k) (wcL n k).length (wcC n k)) ([] ++ [uniB (wcOK n k) (wcL n k)]) := by
  refine CallOK.bare (args := [.i true .i64 n, .i false .i64 k]) ?_ rfl
  simp only [ns60', List.mem_cons, List.not_mem_nil, or_false] at hn
  rcases hf with rfl | rfl
  · rcases hn with rfl | rfl | rfl | rfl | rfl | rfl | rfl | rfl
    · exact wk_bad wk12 rfl k
    · exact wk_call wk64 (by omega) rfl k
    · exact wk_call wk32 (by omega) rfl k
    · exact wk_call wk16 (by omega) rfl k
    · exact wk_call wk8 (by omega) rfl k
    · exact wk_call wk4 (by omega) rfl k
    · exact wk_call wk2 (by omega) rfl k
    · exact wk_call wk1 (by omega) rfl k
  · rcases hn with rfl | rfl | rfl | rfl | rfl | rfl | rfl | rfl
    · exact wk_bad swk12 rfl k
    · exact wk_call swk64 (by omega) rfl k
    · exact wk_call swk32 (by omega) rfl k
    · exact wk_call swk16 (by omega) rfl k
    · exact wk_call swk8 (by omega) rfl k
    · exact wk_call swk4 (by omega) rfl k
    · exact wk_call swk2 (by omega) rfl k
    · exact wk_call swk1 (by omega) rfl k
noncomputable def wcT : Table := fun _ args H nd K =>
  match args with
  | [.i _ .i64 n, .i _ .i64 k] => K (uniV H.length (wcOK n k) (wcL n k).length (wcC n k)) (H ++ [uniB (wcOK n k) (wcL n k)]) (decide (n ∈ ns60') :: nd)
  | _ => .fail
theorem wc_at (f : FuncId) (hf : f = 61 ∨ f = 62) : SoundAt Try.prog f wcT := fun args H nd K => by
  unfold wcT
  split
  case h_2 => exact .inl rfl
  rename_i l n m k
  refine .inr ⟨_, _, _, rfl, fun hn => ?_⟩
  simp only [allT, Bool.and_eq_true, decide_eq_true_eq] at hn
  refine ⟨hn.2, ?_⟩
  have k1 := uni_at (H := H) (ids := []) (wc_ok f hf n k hn.1) no_ro rfl rfl (fun i hi => by simp at hi)
  exact k1.bare rfl
end Go.Ax

/- Numbers that are not too great do not become infinite. -/
namespace Go.Ax
open Go Ieee

theorem cut_le (g : Bool) (n d k : Nat) (hk : n < 2 ^ (k + d)) (hd : 0 < k) : Toward.even.cut g n d ≤ 2 ^ k := by
  unfold Toward.cut
  simp only [Nat.one_shiftLeft]
  have hb : ∀ b : Bool, b.toNat ≤ 1 := fun b => by cases b <;> decide
  have hlow : n / 2 ^ min d (n.log2 + 2) < 2 ^ k := by
    rw [Nat.div_lt_iff_lt_mul (Nat.two_pow_pos _), ← Nat.pow_add]
    rcases Nat.le_total d (n.log2 + 2) with h | h
    · rw [Nat.min_eq_left h]; exact hk
    · rw [Nat.min_eq_right h]
      exact Nat.lt_of_lt_of_le (Nat.lt_log2_self (n := n)) (Nat.pow_le_pow_right (by decide) (by omega))
  have := hb ((decide (2 ^ min d (n.log2 + 2) < 2 * (n % 2 ^ min d (n.log2 + 2)))) || (2 ^ min d (n.log2 + 2) == 2 * (n % 2 ^ min d (n.log2 + 2)) && n / 2 ^ min d (n.log2 + 2) % 2 == 1))
  omega

theorem nearest_small (g : Bool) (m : Nat) (place : Int) (h : place + m.log2 ≤ 126) : (single.read (single.nearest g m place)).isInfinity = false := by
  have hrung : ∃ k, single.nearest g m place = single.word g k ∧ k < single.infRung := by
    unfold Format.nearest
    by_cases hm : m = 0
    · rw [if_pos hm]; exact ⟨0, rfl, by decide⟩
    · rw [if_neg hm]
      refine ⟨_, rfl, ?_⟩
      have hl : single.leastPlace = -149 := by decide
      have hf : single.fractionBits = 23 := rfl
      have hbin : single.binade = 8388608 := rfl
      have hinf : single.infRung = 2139095040 := rfl
      simp only [hl, hf, hbin, hinf]
      generalize hlast : max (place + (m.log2 : Nat) - (23 : Nat)) (-149) = last
      have h1 : last ≤ 103 := by omega
      have h2 : -149 ≤ last := by omega
      have hml := Nat.lt_log2_self (n := m)
      have hkept : Toward.even.cut g (m <<< (place - last).toNat) (last - place).toNat ≤ 2 ^ 24 := by
        refine cut_le g _ _ 24 ?_ (by decide)
        rw [Nat.shiftLeft_eq]
        calc m * 2 ^ (place - last).toNat < 2 ^ (m.log2 + 1) * 2 ^ (place - last).toNat := Nat.mul_lt_mul_of_pos_right hml (Nat.two_pow_pos _)
          _ = 2 ^ (m.log2 + 1 + (place - last).toNat) := by rw [← Nat.pow_add]
          _ ≤ 2 ^ (24 + (last - place).toNat) := Nat.pow_le_pow_right (by decide) (by omega)
      have h3 : (last - -149).toNat * 8388608 ≤ 252 * 8388608 := Nat.mul_le_mul_right _ (by omega)
      have h4 : (2 : Nat) ^ 24 = 16777216 := by decide
      rw [h4] at hkept
      refine Nat.lt_of_le_of_lt (Nat.min_le_left _ _) ?_
      exact Nat.lt_of_le_of_lt (Nat.add_le_add h3 hkept) (by decide)
  obtain ⟨k, e, hk⟩ := hrung
  obtain ⟨_, e2⟩ := read_word single g k (Nat.lt_trans hk (inf_lt single))
  rw [e]
  unfold Format.read
  simp only [e2]
  split
  · rfl
  · rfl
theorem fcvtOK_small (x : Nat) (g : Bool) (m : Nat) (e : Int) (hx : double.read x = .number g m e) (h : e + m.log2 ≤ 126) : fcvtOK .f64 .f32 x = true := by
  have h1 : FloatKind.f64.decode x = .number g m e := hx
  have h2 : (FloatKind.f32.decode (FloatKind.f32.encode (.number g m e))).isInfinity = false := nearest_small g m e h
  unfold fcvtOK
  rw [if_neg (by decide), h1]
  dsimp only
  rw [h2]; rfl
end Go.Ax

/- Whole numbers by powers of two. -/
namespace Go.Ax
open Go Go.Proofs Ieee

theorem near_signed (g : Bool) (n s : Nat) (h0 : 4503599627370496 ≤ n * 2 ^ s) (h1 : n * 2 ^ s < 9007199254740992) (hs : s ≤ 52) : double.nearest g n 0 = canon double g (n * 2 ^ s) (1074 - s) := by
  refine nearest_up double g n s (1074 - s) 0 h0 h1 (by rw [d_least]; omega) ?_
  rw [d_bin, d_inf]
  have : (1074 - s) * 4503599627370496 ≤ 1074 * 4503599627370496 := Nat.mul_le_mul_right _ (by omega)
  exact Nat.le_trans (Nat.add_le_add this (Nat.le_of_lt h1)) (by decide)

theorem quot_exact (g : Bool) (m N d q : Nat) (i j : Int) (hN : N ≠ 0) (hl : m.log2 = N.log2) (q1 : m <<< d / N = q) (q2 : m <<< d % N = 0) :
    Datum.quotient d (.number g m i) (.number false N j) = some (.number g (2 * q) (i - j - d - 1)) := by
  unfold Datum.quotient
  simp only [if_neg hN, hl, Nat.add_sub_cancel, q1, q2]
  simp
theorem div_pow2 (g : Bool) (m r : Nat) (k : Int) (h0 : 4503599627370496 ≤ m) (h1 : m < 9007199254740992) (hr : r ≤ 2000) (hk : -1022 ≤ k) (hk' : k ≤ 900) (hrk : 0 ≤ r - k) (hrk' : r - k ≤ 2000) :
    fdiv .f64 (canon double g m r) (pow2 k) = canon double g m (r - k).toNat := by
  rw [pow2_canon k hk]
  have e1 : double.read (canon double g m r) = .number g m (double.leastPlace + r) := by
    refine read_canon double g m r h1 (.inr h0) ?_
    rw [d_bin, d_inf]
    have : r * 4503599627370496 ≤ 2000 * 4503599627370496 := Nat.mul_le_mul_right _ hr
    omega
  have e2 : double.read (canon double false (4503599627370496) (k + 1022).toNat) = .number false (4503599627370496) (double.leastPlace + ((k + 1022).toNat : Nat)) := by
    refine read_canon double false _ _ (by decide) (.inr (Nat.le_refl _)) ?_
    rw [d_bin, d_inf]
    have : (k + 1022).toNat * 4503599627370496 ≤ 1922 * 4503599627370496 := Nat.mul_le_mul_right _ (by omega)
    omega
  have l1 : m.log2 = 52 := log2_eq h0 h1
  have l2 : (4503599627370496 : Nat).log2 = 52 := log2_eq (by decide) (by decide)
  have q1 : m <<< 54 / 4503599627370496 = m * 4 := by
    rw [Nat.shiftLeft_eq, show (2 : Nat) ^ 54 = 4 * 4503599627370496 by decide, ← Nat.mul_assoc, Nat.mul_div_cancel _ (by decide)]
  have q2 : m <<< 54 % 4503599627370496 = 0 := by
    rw [Nat.shiftLeft_eq, show (2 : Nat) ^ 54 = 4 * 4503599627370496 by decide, ← Nat.mul_assoc, Nat.mul_mod_left]
  have e3 : double.div (canon double g m r) (canon double false (4503599627370496) (k + 1022).toNat) = some (double.nearest g (m * 2 ^ 3) (double.leastPlace + r - (double.leastPlace + ((k + 1022).toNat : Nat)) - 55)) := by
    unfold Format.div
    rw [e1, e2]
    have : Datum.quotient (double.fractionBits + 2) (.number g m (double.leastPlace + r)) (.number false 4503599627370496 (double.leastPlace + ((k + 1022).toNat : Nat))) =
        some (.number g (m * 2 ^ 3) (double.leastPlace + r - (double.leastPlace + ((k + 1022).toNat : Nat)) - 55)) := by
      have := quot_exact g m 4503599627370496 54 (m * 4) (double.leastPlace + r) (double.leastPlace + ((k + 1022).toNat : Nat)) (by decide) (l1.trans l2.symm) q1 q2
      have hd : double.fractionBits + 2 = 54 := rfl
      rw [hd, this]
      have h8 : 2 * (m * 4) = m * 2 ^ 3 := by rw [show (2 : Nat) ^ 3 = 8 from rfl]; omega
      have h9 : ∀ y : Int, y - ((54 : Nat) : Int) - 1 = y - 55 := fun y => by omega
      rw [h8, h9]
    rw [this]
    rfl
  have e4 := nearest_down double g m 3 (r - k).toNat (double.leastPlace + r - (double.leastPlace + ((k + 1022).toNat : Nat)) - 55) h0 h1 (by rw [d_least]; omega) (by
    rw [d_bin, d_inf]
    have : (r - k).toNat * 4503599627370496 ≤ 2000 * 4503599627370496 := Nat.mul_le_mul_right _ (by omega)
    exact Nat.le_trans (Nat.add_le_add this (Nat.le_of_lt h1)) (by decide))
  show (double.div _ _).getD _ = _
  rw [e3, e4]
  rfl

/-- A whole number of at most 26 digits by a power of two: it is no great number. -/
theorem unit_ok (x : Int) (k : Int) (hx : x.natAbs < 67108864) (hx0 : x ≠ 0) (hk : 0 ≤ k) (hk' : k ≤ 100) : fcvtOK .f64 .f32 (fdiv .f64 (FloatKind.f64.nearest x) (pow2 k)) = true := by
  have e : FloatKind.f64.nearest x = double.nearest (decide (x < 0)) x.natAbs 0 := rfl
  obtain ⟨s, hs1, hs2, hs3⟩ := shift_of x.natAbs (by omega) (by omega)
  rw [e, near_signed _ _ s hs2 hs3 hs1, div_pow2 _ _ _ k hs2 hs3 (by omega) (by omega) (by omega) (by omega) (by omega)]
  have hl : (x.natAbs * 2 ^ s).log2 = 52 := log2_eq hs2 hs3
  have hs26 : 26 < s := by
    rcases Nat.lt_or_ge 26 s with h | h
    · exact h
    · have h2 : 2 ^ s ≤ 2 ^ 26 := Nat.pow_le_pow_right (by decide) h
      have : x.natAbs * 2 ^ s ≤ 67108863 * 2 ^ 26 := Nat.mul_le_mul (by omega) h2
      have h3 : (2 : Nat) ^ 26 = 67108864 := by decide
      rw [h3] at this
      omega
  refine fcvtOK_small _ (decide (x < 0)) (x.natAbs * 2 ^ s) (double.leastPlace + ((((1074 - s : Nat) : Int) - k).toNat : Nat)) ?_ ?_
  · refine read_canon double _ _ _ hs3 (.inr hs2) ?_
    rw [d_bin, d_inf]
    have : (((1074 - s : Nat) : Int) - k).toNat * 4503599627370496 ≤ 1100 * 4503599627370496 := Nat.mul_le_mul_right _ (by omega)
    omega
  · rw [hl, d_least]; omega
end Go.Ax

/- Functions that draw a value out of a text of bytes: table rows. -/
namespace Go.Ax
open Go Go.Proofs

/-- A call that only reads the bytes leaves every memory that begins with them as it was. -/
theorem CallOK.read {P : Program} {f : FuncId} {args : List AV} {v : AV} {c : Cd} {H1 : List AB} (h : CallOK P f args [codeB c false] v H1) (hv : below 0 v = true) (ha : belowL 1 args = true) (Hr : List AB) :
    CallOK P f args (codeB c false :: Hr) v (codeB c false :: Hr) := fun σ w rargs s hra => by
  have hl : 0 < σ.length := by rw [s.len]; simp
  obtain ⟨x, hx⟩ : ∃ x, σ[0]? = some x := ⟨_, List.getElem?_eq_getElem hl⟩
  have e0 : Ext [x] σ := fun i b hb => by
    match i, hb with
    | 0, hb => cases hb; exact hx
    | i + 1, hb => simp at hb
  have s0 : Sim [x] [codeB c false] w := by
    refine ⟨rfl, fun i b z hb => ?_, fun i j b z z' hi hj hr _ => ?_⟩
    · match i, hb with
      | 0, hb =>
        cases hb
        exact low_blk e0 rfl (by rfl : lowB 1 (codeB c false) = true) (s.blk 0 b z hx)
      | i + 1, hb => simp at hb
    · match i, hi with
      | 0, _ => simp [getB, codeB, AB.rw] at hr
      | i + 1, hi => simp at hi
  refine (h [x] w rargs s0 (belowL_rel e0 rfl ha hra)).mono ?_
  rintro e w' ⟨rv, rfl, σ', r1, s1, f1⟩
  have hE : ∀ τ : List (Nat × Nat), Ext [] τ := fun τ i b hb => by simp at hb
  refine ⟨rv, rfl, σ, (below_rel (σ := []) (τ := σ') (hE _) rfl hv r1).mono (hE _), ?_⟩
  have f2 : Fr σ (roH (codeB c false :: Hr)) w σ (roH (codeB c false :: Hr)) w' := ⟨f1.os, f1.tape, f1.output, f1.size, fun b hb _ => f1.old b hb fun i z hr => by
      match i with
      | 0 => simp [getB, codeB, AB.rw] at hr
      | i + 1 => simp [getB, AB.rw] at hr, Ext.refl σ, fun i b z h h' => (by rw [h'] at h; cases h), fun i _ h => h⟩
  exact s.ro_back f2

/-- The ways of a result joined; what is asked is asked on all ways. -/
def flatR : Res → Option (AV × List Bool)
  | .ret v _ nd => match below 0 v with
    | true => some (v, nd)
    | false => none
  | .fail => none
  | .stop _ _ _ _ => none
  | .ite b x y => match flatR x, flatR y with
    | some (v, nd), some (v', nd') => match mergeV b v v' with
      | some z => some (z, nd ++ nd')
      | none => none
    | _, _ => none
theorem flatR_spec : ∀ {r : Res} {v : AV} {nd : List Bool}, flatR r = some (v, nd) → allT nd = true →
    ∃ v' H' nd', r.sel = .ret v' H' nd' ∧ allT nd' = true ∧ below 0 v' = true ∧ ∀ (σ : List (Nat × Nat)) (x : Value), Rel σ v' x → Rel σ v x
  | .ret v0 H0 nd0, v, nd, hj, hn => by
    simp only [flatR] at hj
    split at hj <;> cases hj
    rename_i hb
    exact ⟨_, H0, _, rfl, hn, hb, fun _ _ r => r⟩
  | .fail, v, nd, hj, hn => by simp [flatR] at hj
  | .stop _ _ _ _, v, nd, hj, hn => by simp [flatR] at hj
  | .ite b x y, v, nd, hj, hn => by
    simp only [flatR] at hj
    split at hj <;> (try (cases hj; done))
    rename_i v1 nd1 v2 nd2 e1 e2
    split at hj <;> cases hj
    rename_i hz
    rw [allT_append, Bool.and_eq_true] at hn
    cases b with
    | true =>
      obtain ⟨v', H', nd', g1, g2, g3, g4⟩ := flatR_spec e1 hn.1
      exact ⟨v', H', nd', g1, g2, g3, fun σ x r => mergeV_left hz (g4 σ x r)⟩
    | false =>
      obtain ⟨v', H', nd', g1, g2, g3, g4⟩ := flatR_spec e2 hn.2
      exact ⟨v', H', nd', g1, g2, g3, fun σ x r => mergeV_right hz (g4 σ x r)⟩

/-- What a drawing function must be: some value of a form, whatever memory is behind the bytes. -/
def DrawOK (P : Program) (f : FuncId) (c : Cd) (v : AV) : Prop := ∀ Hr, CallOK P f [.sl false 0 c.off c.len 0] (codeB c false :: Hr) v (codeB c false :: Hr)
def drawEx {α : Type} (F : Form α) (r : Res) : Option (α × List Bool) :=
  match flatR r with
  | some (v, nd) => match F.get v with
    | some x => some (x, nd)
    | none => none
  | none => none
theorem drawOK_of {α : Type} {F : Form α} {P : Program} {T : Table} {f : FuncId} {c : Cd} {x : α} {nd : List Bool} (hT : SoundT P T)
    (he : drawEx F (T f [.sl false 0 c.off c.len 0] [codeB c false] [] fun v H nd => .ret v H nd) = some (x, nd)) (hn : allT nd = true) : DrawOK P f c (F.val x) := fun Hr => by
  unfold drawEx at he
  split at he <;> (try (cases he; done))
  rename_i v nd1 hj
  split at he <;> cases he
  rename_i hx
  obtain ⟨v', H', nd', g1, g2, g3, g4⟩ := flatR_spec hj hn
  exact ((call_of_sel hT g1 g2).read g3 rfl Hr).weaken fun σ y r => F.rel hx σ y (g4 σ y r)
theorem drawOK_some {α : Type} {F : Form α} {P : Program} {T : Table} {f : FuncId} {c : Cd} {m : Nat} (hT : SoundT P T) (hc : goodB c = true)
    (hn : ((drawEx F (T f [.sl false 0 c.off c.len 0] [codeB c false] [] fun v H nd => .ret v H nd)).map fun r => r.2) = some (List.replicate m (okB c c.off c.len))) : ∃ x, DrawOK P f c (F.val x) := by
  cases hr : drawEx F (T f [.sl false 0 c.off c.len 0] [codeB c false] [] fun v H nd => .ret v H nd) with
  | none => rw [hr] at hn; cases hn
  | some r =>
    obtain ⟨x, nd⟩ := r
    rw [hr] at hn
    simp only [Option.map_some, Option.some.injEq] at hn
    refine ⟨x, drawOK_of hT hr ?_⟩
    have hok : okB c c.off c.len = true := by simp [okB, hc]
    rw [hn, hok]
    exact allT_rep m

def formI : Form Int where
  get := fun | .i _ .i64 x => some x | _ => none
  val := fun x => .i false .i64 x
  rel := fun {v x} h σ y r => by
    split at h <;> cases h
    cases r; exact .i _ _
  low := fun _ => rfl
noncomputable def tab3 : Table := deep Try.prog rows3 [95] 2000 6
theorem tab3_sound : SoundT Try.prog tab3 := deep_sound (allAt_mem rows3_at) 6
theorem drawPhase_nd (c : Cd) : ((drawEx formI (runF Try.prog tab3 1000 9 [.sl false 0 c.off c.len 0] [codeB c false] [] fun v H nd => .ret v H nd)).map fun r => r.2) = some (List.replicate 20 (okB c c.off c.len)) := by kernel_rfl
theorem drawPhase_ok {c : Cd} (hc : goodB c = true) : ∃ k, DrawOK Try.prog 9 c (.i false .i64 k) := drawOK_some (F := formI) (runF_sound tab3_sound 1000) hc (drawPhase_nd c)
end Go.Ax

/- spec.l01Next as a table's row: numbers below a bound are told one by one. -/
namespace Go.Ax
open Go Go.Proofs

noncomputable def nextM (mx : Int) : Table := fun _ args H nd K =>
  match args with
  | [p, .i l .i64 n] => match p with
    | .p _ id off => match readCode (getB H 0), readSrc (getB H id), decide (off = 0) && !decide (id = 0) with
      | some (o', b), some (o, m, a, h), true =>
        match l && decide (1 ≤ n) && decide (n ≤ mx) with
        | true => splitK (fun v => K v (setB H id (srcR o m (nxA ⟨b, o', m⟩ a n) (nxS h n))) (okB ⟨b, o', m⟩ o m :: nd)) (nxV ⟨b, o', m⟩ a h n) (n.toNat - 1)
        | false => K (.i false .i64 (nxV ⟨b, o', m⟩ a h n)) (setB H id (srcR o m (nxA ⟨b, o', m⟩ a n) (nxS h n))) (okB ⟨b, o', m⟩ o m :: nd)
      | _, _, _ => .fail
    | _ => .fail
  | _ => .fail

theorem nextM_at (mx : Int) : SoundAt Try.prog 96 (nextM mx) := fun args H nd K => by
  unfold nextM
  split
  case h_2 => exact .inl rfl
  rename_i p l n
  split
  case h_2 => exact .inl rfl
  rename_i lp id off
  split
  case h_2 => exact .inl rfl
  rename_i o' b o m a h hc hs h0
  simp only [Bool.and_eq_true, decide_eq_true_eq, Bool.not_eq_true', decide_eq_false_iff_not] at h0
  obtain ⟨rfl, h0⟩ := h0
  have main : ∀ v : AV, (okB ⟨b, o', m⟩ o m = true → v.bare = .i false .i64 (nxV ⟨b, o', m⟩ a h n)) → allT (okB ⟨b, o', m⟩ o m :: nd) = true →
      allT nd = true ∧ CallOK Try.prog 96 [.p lp id 0, .i l .i64 n] H v (setB H id (srcR o m (nxA ⟨b, o', m⟩ a n) (nxS h n))) := fun v hv hn => by
    simp only [allT, Bool.and_eq_true] at hn
    have hg : goodB ⟨b, o', m⟩ = true := by have := hn.1; simp only [okB, Bool.and_eq_true] at this; exact this.1.1
    have ho : o = o' := by have := hn.1; simp only [okB, Bool.and_eq_true, decide_eq_true_eq] at this; exact this.1.2
    subst ho
    obtain ⟨H2, k, e1, e2, e3⟩ := next_ok hg a h n
    refine ⟨hn.2, ?_⟩
    have hk := (k.src e1 e2 e3 (l := lp) (id := id) (H := H) hc h0 hs).bare (args' := [.p lp id 0, .i l .i64 n]) rfl
    refine hk.weaken fun σ x r => ?_
    have := hv hn.1
    rw [← this] at r
    exact r.unbare
  split
  · rename_i hl
    simp only [Bool.and_eq_true, decide_eq_true_eq] at hl
    obtain ⟨k, e1, e2⟩ := splitK_sel (fun v => K v (setB H id (srcR o m (nxA ⟨b, o', m⟩ a n) (nxS h n))) (okB ⟨b, o', m⟩ o m :: nd)) (nxV ⟨b, o', m⟩ a h n) (n.toNat - 1)
    refine .inr ⟨_, _, _, e1, fun hn => main _ (fun hk => ?_) hn⟩
    have hg : goodB ⟨b, o', m⟩ = true := by simp only [okB, Bool.and_eq_true] at hk; exact hk.1.1
    have hb := nxV_bound hg a h n
    have hb2 := hb.2 hl.1.2
    have := e2 hb.1 (by omega)
    rw [this]; rfl
  · exact .inr ⟨_, _, _, rfl, fun hn => main _ (fun _ => rfl) hn⟩


noncomputable def rows4 (mx : Int) : List (FuncId × Table) := (96, nextM mx) :: rows3
theorem rows4_at (mx : Int) : allAt Try.prog (rows4 mx) := ⟨nextM_at mx, rows3_at⟩
noncomputable def tab4 (mx : Int) : Table := deep Try.prog (rows4 mx) [95] 2000 6
theorem tab4_sound (mx : Int) : SoundT Try.prog (tab4 mx) := deep_sound (allAt_mem (rows4_at mx)) 6
def formI3 : Form (Int × Int × Int) where
  get := fun
    | .tup [a, b, c] => match formI.get a, formI.get b, formI.get c with
      | some x, some y, some z => some (x, y, z)
      | _, _, _ => none
    | _ => none
  val := fun x => .tup [.i false .i64 x.1, .i false .i64 x.2.1, .i false .i64 x.2.2]
  rel := fun {v x} h σ y r => by
    split at h <;> (try (cases h; done))
    split at h <;> cases h
    rename_i a b c x1 x2 x3 h1 h2 h3
    cases r with | tup hr =>
    generalize hal : Array.toList _ = al at hr
    cases hr with | cons r1 hr => cases hr with | cons r2 hr => cases hr with | cons r3 hr => cases hr with | nil =>
    refine .tup ?_
    rw [hal]
    exact .cons (formI.rel h1 σ _ r1) (.cons (formI.rel h2 σ _ r2) (.cons (formI.rel h3 σ _ r3) .nil))
  low := fun _ => rfl
theorem drawPlane_nd (c : Cd) : ((drawEx formI3 (runF Try.prog (tab4 7) 1000 12 [.sl false 0 c.off c.len 0] [codeB c false] [] fun v H nd => .ret v H nd)).map fun r => r.2) = some (List.replicate 224 (okB c c.off c.len)) := by kernel_rfl
theorem drawPlane_ok {c : Cd} (hc : goodB c = true) : ∃ x : Int × Int × Int, DrawOK Try.prog 12 c (formI3.val x) := drawOK_some (F := formI3) (runF_sound (tab4_sound 7) 1000) hc (drawPlane_nd c)
end Go.Ax

/- spec.l01DrawUnit: some number. -/
namespace Go.Ax
open Go Go.Proofs

noncomputable def uF (x : Int) (d : Nat) : Bool := fcvtOK .f64 .f32 (fdiv .f64 (FloatKind.f64.nearest (IntKind.i64.wrap x)) d)
noncomputable def unitNd (k : Bool) (x1 x2 : Int) : List Bool := [k, uF (x1 - 16777216) 4715268809856909312, k, k, k, uF (x1 - 16777216) 4715268809856909312, k, k, k, uF (x1 - 16777216) 4715268809856909312, k, k, k, uF (x1 - 16777216) 4769312005385355264, k, k, k,
  uF (x2 - 64) 4634204016564240384, k, k, k, k, k, k, k, k, k, k, k]
theorem uF_true (x : Int) (k : Int) (d : Nat) (hd : d = pow2 k) (h0 : fcvtOK .f64 .f32 (fdiv .f64 (FloatKind.f64.nearest 0) d) = true) (hx : -67108863 ≤ x ∧ x ≤ 67108863) (hk : 0 ≤ k) (hk' : k ≤ 100) : uF x d = true := by
  unfold uF
  rw [wrap64_id (by omega) (by omega)]
  by_cases hz : x = 0
  · subst hz; exact h0
  · rw [hd]; exact unit_ok x k (by omega) hz hk hk'
noncomputable def unitR (c : Cd) (a : Nat) (h : Int) : Option (Nat × Nat × Int × List Bool) :=
  srcEx formF c (runF Try.prog (tab4 7) 1000 202 [.p true 1 0] [codeB c false, srcB c a h] [] fun v H nd => .ret v H nd)
theorem unit_nd (c : Cd) (a : Nat) (h : Int) : (unitR c a h).map (fun r => r.2.2.2) = some (unitNd (okB c c.off c.len) (nxV c (nxA c a 6) (nxS h 6) 33554432) (nxV c (nxA c a 6) (nxS h 6) 129)) := by kernel_rfl
theorem unit_z1 : fcvtOK .f64 .f32 (fdiv .f64 (FloatKind.f64.nearest 0) 4715268809856909312) = true := by kernel_rfl
theorem unit_z2 : fcvtOK .f64 .f32 (fdiv .f64 (FloatKind.f64.nearest 0) 4769312005385355264) = true := by kernel_rfl
theorem unit_z3 : fcvtOK .f64 .f32 (fdiv .f64 (FloatKind.f64.nearest 0) 4634204016564240384) = true := by kernel_rfl
theorem unit_ex {c : Cd} (hc : goodB c = true) (a : Nat) (h : Int) : ∃ x a' h', SrcOK Try.prog 202 [] c a h (.f false .f32 x) a' h' := by
  have hn := unit_nd c a h
  have hk : okB c c.off c.len = true := by simp [okB, hc]
  cases hr : unitR c a h with
  | none => rw [hr] at hn; cases hn
  | some r =>
    obtain ⟨x, a', h', nd⟩ := r
    rw [hr] at hn
    simp only [Option.map_some, Option.some.injEq] at hn
    refine ⟨x, a', h', srcOK_of_ex (F := formF) (runF_sound (tab4_sound 7) 1000) hr ?_ rfl⟩
    rw [hn, hk]
    have b1 := nxV_bound hc (nxA c a 6) (nxS h 6) 33554432
    have b2 := nxV_bound hc (nxA c a 6) (nxS h 6) 129
    have b1' := b1.2 (by decide)
    have b2' := b2.2 (by decide)
    have e1 := uF_true (nxV c (nxA c a 6) (nxS h 6) 33554432 - 16777216) 24 4715268809856909312 (by kernel_rfl) unit_z1 (by omega) (by decide) (by decide)
    have e2 := uF_true (nxV c (nxA c a 6) (nxS h 6) 33554432 - 16777216) 36 4769312005385355264 (by kernel_rfl) unit_z2 (by omega) (by decide) (by decide)
    have e3 := uF_true (nxV c (nxA c a 6) (nxS h 6) 129 - 64) 6 4634204016564240384 (by kernel_rfl) unit_z3 (by omega) (by decide) (by decide)
    unfold unitNd
    rw [e1, e2, e3]
    rfl
noncomputable def unitV (c : Cd) (a : Nat) (h : Int) : Nat × Nat × Int :=
  open Classical in if hx : ∃ r : Nat × Nat × Int, SrcOK Try.prog 202 [] c a h (.f false .f32 r.1) r.2.1 r.2.2 then hx.choose else (0, a, h)
theorem unitV_ok {c : Cd} (hc : goodB c = true) (a : Nat) (h : Int) : SrcOK Try.prog 202 [] c a h (.f false .f32 (unitV c a h).1) (unitV c a h).2.1 (unitV c a h).2.2 := by
  obtain ⟨x, a', h', hx⟩ := unit_ex hc a h
  have he : ∃ r : Nat × Nat × Int, SrcOK Try.prog 202 [] c a h (.f false .f32 r.1) r.2.1 r.2.2 := ⟨(x, a', h'), hx⟩
  unfold unitV
  rw [dif_pos he]
  exact he.choose_spec
noncomputable def unitT : Table := srcT fun c a h sc => match sc with
  | [] => some (.f false .f32 (unitV c a h).1, (unitV c a h).2.1, (unitV c a h).2.2, [])
  | _ => none
theorem unit_at : SoundAt Try.prog 202 unitT := fun args H nd K => by
  refine srcT_sound (fun c a h sc v a' h' q hc hg _ => ?_) args H nd K
  split at hg <;> cases hg
  exact unitV_ok hc a h
end Go.Ax

/- spec.l01DrawComplex: some complex number. -/
namespace Go.Ax
open Go Go.Proofs

noncomputable def rows5 (mx : Int) : List (FuncId × Table) := (202, unitT) :: rows4 mx
theorem rows5_at (mx : Int) : allAt Try.prog (rows5 mx) := ⟨unit_at, rows4_at mx⟩
noncomputable def tab5 (mx : Int) : Table := deep Try.prog (rows5 mx) [95, 200] 2000 6
theorem tab5_sound (mx : Int) : SoundT Try.prog (tab5 mx) := deep_sound (allAt_mem (rows5_at mx)) 6
def formC : Form (Nat × Nat) where
  get := fun | .c _ .f32 x y => some (x, y) | _ => none
  val := fun x => .c false .f32 x.1 x.2
  rel := fun {v x} h σ y r => by
    split at h <;> cases h
    cases r with | c h1 h2 => exact .c h1 h2
  low := fun _ => rfl
noncomputable def cpxR (c : Cd) (a : Nat) (h : Int) : Option ((Nat × Nat) × Nat × Int × List Bool) :=
  srcEx formC c (runF Try.prog (tab5 4) 1000 108 [.p true 1 0] [codeB c false, srcB c a h] [] fun v H nd => .ret v H nd)
theorem cpx_nd (c : Cd) (a : Nat) (h : Int) : (cpxR c a h).map (fun r => r.2.2.2) = some (List.replicate 383 (okB c c.off c.len)) := by kernel_rfl
theorem cpx_ex {c : Cd} (hc : goodB c = true) (a : Nat) (h : Int) : ∃ (x : Nat × Nat) (a' : Nat) (h' : Int), SrcOK Try.prog 108 [] c a h (.c false .f32 x.1 x.2) a' h' := by
  have hn := cpx_nd c a h
  have hk : okB c c.off c.len = true := by simp [okB, hc]
  cases hr : cpxR c a h with
  | none => rw [hr] at hn; cases hn
  | some r =>
    obtain ⟨x, a', h', nd⟩ := r
    rw [hr] at hn
    simp only [Option.map_some, Option.some.injEq] at hn
    refine ⟨x, a', h', srcOK_of_ex (F := formC) (runF_sound (tab5_sound 4) 1000) hr ?_ rfl⟩
    rw [hn, hk]
    exact allT_rep 383
noncomputable def cpxV (c : Cd) (a : Nat) (h : Int) : (Nat × Nat) × Nat × Int :=
  open Classical in if hx : ∃ r : (Nat × Nat) × Nat × Int, SrcOK Try.prog 108 [] c a h (.c false .f32 r.1.1 r.1.2) r.2.1 r.2.2 then hx.choose else ((0, 0), a, h)
theorem cpxV_ok {c : Cd} (hc : goodB c = true) (a : Nat) (h : Int) : SrcOK Try.prog 108 [] c a h (.c false .f32 (cpxV c a h).1.1 (cpxV c a h).1.2) (cpxV c a h).2.1 (cpxV c a h).2.2 := by
  obtain ⟨x, a', h', hx⟩ := cpx_ex hc a h
  have he : ∃ r : (Nat × Nat) × Nat × Int, SrcOK Try.prog 108 [] c a h (.c false .f32 r.1.1 r.1.2) r.2.1 r.2.2 := ⟨(x, a', h'), hx⟩
  unfold cpxV
  rw [dif_pos he]
  exact he.choose_spec
noncomputable def cpxT : Table := srcT fun c a h sc => match sc with
  | [] => some (.c false .f32 (cpxV c a h).1.1 (cpxV c a h).1.2, (cpxV c a h).2.1, (cpxV c a h).2.2, [])
  | _ => none
theorem cpx_at : SoundAt Try.prog 108 cpxT := fun args H nd K => by
  refine srcT_sound (fun c a h sc v a' h' q hc hg _ => ?_) args H nd K
  split at hg <;> cases hg
  exact cpxV_ok hc a h
end Go.Ax

/- spec.DrawFlatWave: some number and some complex number. -/
namespace Go.Ax
open Go Go.Proofs

noncomputable def rows6 (mx : Int) : List (FuncId × Table) := (108, cpxT) :: rows5 mx
theorem rows6_at (mx : Int) : allAt Try.prog (rows6 mx) := ⟨cpx_at, rows5_at mx⟩
noncomputable def tab6 (mx : Int) : Table := deep Try.prog (rows6 mx) [95, 200] 2000 6
theorem tab6_sound (mx : Int) : SoundT Try.prog (tab6 mx) := deep_sound (allAt_mem (rows6_at mx)) 6
def formIC : Form (Int × Nat × Nat) where
  get := fun
    | .tup [a, b] => match formI.get a, formC.get b with
      | some x, some y => some (x, y.1, y.2)
      | _, _ => none
    | _ => none
  val := fun x => .tup [.i false .i64 x.1, .c false .f32 x.2.1 x.2.2]
  rel := fun {v x} h σ y r => by
    split at h <;> (try (cases h; done))
    split at h <;> cases h
    rename_i a b x1 x2 h1 h2
    cases r with | tup hr =>
    generalize hal : Array.toList _ = al at hr
    cases hr with | cons r1 hr => cases hr with | cons r2 hr => cases hr with | nil =>
    refine .tup ?_
    rw [hal]
    exact .cons (formI.rel h1 σ _ r1) (.cons (formC.rel h2 σ _ r2) .nil)
  low := fun _ => rfl
theorem drawFlat_nd (c : Cd) : ((drawEx formIC (runF Try.prog (tab6 9) 1000 19 [.sl false 0 c.off c.len 0] [codeB c false] [] fun v H nd => .ret v H nd)).map fun r => r.2) = some (List.replicate 27 (okB c c.off c.len)) := by kernel_rfl
theorem drawFlat_ok {c : Cd} (hc : goodB c = true) : ∃ x : Int × Nat × Nat, DrawOK Try.prog 19 c (formIC.val x) := drawOK_some (F := formIC) (runF_sound (tab6_sound 9) 1000) hc (drawFlat_nd c)
end Go.Ax

/- impl.halved and impl.modulo as table rows. -/
namespace Go.Ax
open Go Go.Proofs

/-- The phases for 8, 4, 2 and 1 parts of a turn. -/
def halvedV : AV := .agg [.c true .f32 1060439283 1060439283, .c true .f32 1064076127 1053028117, .c true .f32 1065030847 1044891073, .c true .f32 1065272429 1036565813]
noncomputable def tabD : Table := deep Try.prog [] [] 3000 8
theorem tabD_sound : SoundT Try.prog tabD := deep_sound (fun p hp => by cases hp) 8
theorem halved_run : joinR 0 (runF Try.prog tabD 3000 193 [] [] [] fun v H nd => .ret v H nd) = some (halvedV, []) := by kernel_rfl
theorem halved_ok (H : List AB) : CallOK Try.prog 193 [] H halvedV H := call_of_join (runF_sound tabD_sound 3000) halved_run rfl rfl H
def gHalved : List AV → Option (AV × List Bool)
  | [] => some (halvedV, [])
  | _ => none
theorem halved_at : SoundAt Try.prog 193 (pureT gHalved) := fun args H nd K => by
  refine pureT_sound (fun args v n h hn H => ?_) args H nd K
  unfold gHalved at h
  split at h <;> cases h
  exact halved_ok H

/-- k modulo 64, told one by one. -/
noncomputable def modT : Table := fun _ args H nd K => match args with
  | [.i _ .i64 k, .i l .i64 n] => match l && decide (n = 64) with
    | true => splitK (fun v => K v H nd) (k % 64) 63
    | false => .fail
  | _ => .fail
theorem mod_run (k : Int) : runF Try.prog noT 100 179 [.i false .i64 k, .i true .i64 64] [] [] (fun v H nd => .ret v H nd) = .ret (AV.i false IntKind.i64 ((IntKind.i64.wrap (k.tmod 64 + 64)).tmod 64)) [] [] := by kernel_rfl
theorem mod_val (k : Int) : (IntKind.i64.wrap (k.tmod 64 + 64)).tmod 64 = k % 64 := by
  have h1 : k.tmod 64 < 64 := Int.tmod_lt_of_pos k (by decide)
  have h2 : -64 < k.tmod 64 := by
    have := Int.lt_tmod_of_pos k (show (0 : Int) < 64 by decide); omega
  rw [wrap64_id (by omega) (by omega), Int.tmod_eq_emod_of_nonneg (by omega)]
  have h3 : k.tmod 64 = k - 64 * k.tdiv 64 := by have := Int.tmod_add_mul_tdiv k 64; omega
  omega
theorem mod_ok (k : Int) (H : List AB) : CallOK Try.prog 179 [.i false .i64 k, .i true .i64 64] H (.i false .i64 (k % 64)) H := by
  have h := mod_run k
  have := (call_of_sel (T := runF Try.prog noT 100) (H' := []) (runF_sound (noT_sound _) 100) (by rw [h]; rfl) rfl : CallOK Try.prog 179 [.i false .i64 k, .i true .i64 64] [] (AV.i false IntKind.i64 ((IntKind.i64.wrap (k.tmod 64 + 64)).tmod 64)) [])
  rw [mod_val] at this
  exact this.lift rfl rfl H rfl
theorem mod_at : SoundAt Try.prog 179 modT := fun args H nd K => by
  unfold modT
  split
  case h_2 => exact .inl rfl
  rename_i lk k l n
  split
  case h_2 => exact .inl rfl
  rename_i hl
  simp only [Bool.and_eq_true, decide_eq_true_eq] at hl
  obtain ⟨rfl, rfl⟩ := hl
  obtain ⟨j, e1, e2⟩ := splitK_sel (fun v => K v H nd) (k % 64) 63
  refine .inr ⟨_, _, _, e1, fun hn => ⟨hn, ?_⟩⟩
  have := e2 (by omega) (by omega)
  have h := (mod_ok k H).bare (args' := [.i lk .i64 k, .i true .i64 64]) rfl
  rw [this] at h
  exact h.weaken fun σ x r => (by cases r; exact .i _ _)
noncomputable def rowsP : List (FuncId × Table) := [(179, modT), (193, pureT gHalved)]
theorem rowsP_at : allAt Try.prog rowsP := ⟨mod_at, halved_at, trivial⟩
noncomputable def tabP : Table := deep Try.prog rowsP [] 3000 8
theorem tabP_sound : SoundT Try.prog tabP := deep_sound (allAt_mem rowsP_at) 8
end Go.Ax
