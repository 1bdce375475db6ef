/- The law of codes: its first part holds. -/
import Derived.Test.YtdcjjibekhcplaaDbg
import Derived.Test.YtdcjjibekhcplaaRows
import Derived.ProofKit
import Derived.HandedShaped
import Derived.WideKeyArr
namespace Go.Ax
open Go Go.Proofs

theorem finL_plusM {xs : List Nat} (h : finL xs = true) : finL (plusM xs) = true := by
  rw [finL_iff] at h ⊢
  intro j hj
  have hj : j < xs.length := by simpa [plusM] using hj
  have := finB_plus (h j hj)
  unfold plusM
  rw [List.getD_eq_getElem?_getD, List.getElem?_map, List.getElem?_eq_getElem hj]
  rw [List.getD_eq_getElem?_getD, List.getElem?_eq_getElem hj] at this
  exact this
theorem walL_fin (n k : Nat) : finL (walL n k) = true := by
  unfold walL
  rw [finL_map]
  intro i _
  exact isI_fin (walF_isI k i).1
theorem finL_nil : finL [] = true := rfl
theorem uW_fin (n k : Int) : finL (uW n k) = true := by
  unfold uW
  cases wcOK n k with
  | true => exact finL_plusM (walL_fin _ _)
  | false => exact finL_nil
theorem sumOK_parts {xs : List Nat} (h : sumOK xs = true) : finL xs = true ∧ powB xs.length = true ∧ gSu (Nat.log2 xs.length) (at0 xs) = true := by
  unfold sumOK at h
  simp only [Bool.and_eq_true] at h
  exact h
theorem pow_log {n : Nat} (h : powB n = true) : Nat.log2 n < 7 ∧ 2 ^ Nat.log2 n = n := by
  obtain ⟨k, hk, rfl⟩ := pow_iff.1 h
  rw [Nat.log2_two_pow]
  exact ⟨hk, rfl⟩
theorem uSum_fin (xs : List Nat) : finL (uS sumsL xs) = true := by
  unfold uS
  cases h : sumOK xs with
  | true => exact finL_plusM (sumOK_parts h).2.2
  | false => exact finL_nil
theorem uBack_fin (xs : List Nat) : finL (uS backL xs) = true := by
  unfold uS
  cases h : sumOK xs with
  | true =>
    obtain ⟨_, h2, h3⟩ := sumOK_parts h
    refine finL_plusM ?_
    rw [back_fin (pow_log h2).1]
    exact h3
  | false => exact finL_nil
theorem feq_fin_self {x : Nat} (h : finB x = true) : feq .f32 x x = true := by
  obtain ⟨a, ha⟩ := finB_iff.1 h
  rw [feq_fint ha ha]; simp
theorem zero_fin : finB 0 = true := isI_fin isI_zero
theorem cwX_fin (m j : Int) (i : Nat) : finB (cwX m j i).1 = true ∧ finB (cwX m j i).2 = true := by
  unfold cwX
  cases cwOK m j && Nat.blt i (m.toNat * m.toNat) with
  | true => exact ⟨finB_plus (isI_fin (walF_isI _ _).1), zero_fin⟩
  | false => exact ⟨zero_fin, zero_fin⟩
theorem eqZX_self {X : Nat → Nat × Nat} (h : ∀ i, finB (X i).1 = true ∧ finB (X i).2 = true) : ∀ m j, eqZX X X m j = true
  | 0, _ => rfl
  | m + 1, j => by
    simp only [eqZX, feq_fin_self (h j).1, feq_fin_self (h j).2, eqZX_self h m, Bool.and_self]
theorem poX_fin (n : Int) (xs : List Nat) (j : Nat) : finB (poX n xs j) = true := by
  unfold poX
  cases hok : poOK n xs && Nat.blt j (n.toNat * n.toNat) with
  | false => exact zero_fin
  | true =>
    rw [Bool.and_eq_true] at hok
    obtain ⟨hok, hj⟩ := hok
    unfold poOK at hok
    simp only [Bool.and_eq_true] at hok
    obtain ⟨_, hfit, hg⟩ := hok
    unfold fitB2 at hfit
    rw [Bool.and_eq_true, decide_eq_true_eq] at hfit
    obtain ⟨hs, hl⟩ := hfit
    have hlen : xs.length = n.toNat * n.toNat ∧ powB xs.length = true := by
      rcases sideB_iff.1 hs with rfl | rfl | rfl | rfl
      · have : xs.length = 1 := by omega
        rw [this]; exact ⟨rfl, rfl⟩
      · have : xs.length = 4 := by omega
        rw [this]; exact ⟨rfl, rfl⟩
      · have : xs.length = 16 := by omega
        rw [this]; exact ⟨rfl, rfl⟩
      · have : xs.length = 64 := by omega
        rw [this]; exact ⟨rfl, rfl⟩
    obtain ⟨h7, h2⟩ := pow_log hlen.2
    have hb := back_fin h7 (at0 xs)
    have hf : finL (backL (Nat.log2 xs.length) (at0 xs)) = true := by rw [hb]; exact hg
    unfold backL at hf
    rw [finL_map] at hf
    have := hf j (by rw [h2, hlen.1]; exact blt_true hj)
    exact finB_plus (max_fin this zero_fin)
theorem ne6_self {C : Int} {E : Bool} (h : E = true) : (!ne6 C C E) = true := by
  unfold ne6
  rw [eqQ_refl, h]; rfl
theorem sm_fin (n k : Int) (X : Nat → Nat) : finB (cond (smOK n k X) (plusF (smS X k.toNat (n.toNat * n.toNat))) 0) = true := by
  cases h : smOK n k X with
  | false => exact zero_fin
  | true =>
    unfold smOK at h
    simp only [Bool.and_eq_true] at h
    exact finB_plus h.2.2
theorem cds0_ok {c : Cd} (h : ltQ false 4096 (c.len : Int) = false) : allT (cds0 c) = true := by
  have e1 : eqZ (cond (cwOK (mW c) (jW c)) (mW c) 0) (cwX (mW c) (jW c)) (cond (cwOK (mW c) (jW c)) (mW c) 0) (cwX (mW c) (jW c)) = true := by
    simp [eqZ, eqZX_self (cwX_fin (mW c) (jW c))]
  have e2 : eqPP (cond (poOK (ilV c).1 (ilV c).2) (ilV c).1 0) (poX (ilV c).1 (ilV c).2) (cond (poOK (ilV c).1 (ilV c).2) (ilV c).1 0) (poX (ilV c).1 (ilV c).2) = true := by
    have : eqP (poX (ilV c).1 (ilV c).2) (poX (ilV c).1 (ilV c).2) 64 0 = true := eqP_of 64 0 fun i _ _ => feq_fin_self (poX_fin _ _ i)
    simp [eqPP, this]
  simp only [cds0, allT, h, ne6_self (like_self (uW_fin _ _)), ne6_self (like_self (uSum_fin _)), ne6_self (like_self (uBack_fin _)), ne6_self e1, ne6_self e2, ne6_self (feq_fin_self (sm_fin _ _ _)), Bool.not_false, Bool.and_self]
/-! ### What is to be shown on the way -/
theorem in60_mem {c : Cd} (hc : goodB c = true) : nW c ∈ ns60' ∧ 0 ≤ kW c ∧ kW c ≤ nW c := by
  have h := (drawQV_ok (F := formI2) (Q := in60) (f := 60) (draw60_ok hc)).1
  simp only [in60, Bool.and_eq_true, decide_eq_true_eq] at h
  exact h
theorem in69_mem {c : Cd} (hc : goodB c = true) : mW c ∈ ns69' ∧ 0 ≤ jW c ∧ jW c ≤ mW c * mW c := by
  have h := (drawQV_ok (F := formI2) (Q := in69) (f := 69) (draw69_ok hc)).1
  simp only [in69, Bool.and_eq_true, decide_eq_true_eq] at h
  exact h
theorem in72_mem {c : Cd} (hc : goodB c = true) : (pW c).1.1 ∈ ([8, 4, 2, 1] : List Int) := by
  have h := (drawQV_ok (F := formPI) (Q := in72) (f := 72) (draw72_ok hc)).1
  simp only [in72, Bool.and_eq_true, decide_eq_true_eq] at h
  exact h.1
theorem aW_len {c : Cd} (hc : goodB c = true) : (aW c).length ≤ 64 := by
  have h := (drawLV_ok (ok := ok63) (f := 63) (draw63_ok hc)).1
  exact Nat.le_of_ble_eq_true h
theorem bW_len {c : Cd} (hc : goodB c = true) : (bW c).length ≤ 64 := by
  have h := (drawLV_ok (ok := ok63) (f := 66) (draw66_ok hc)).1
  exact Nat.le_of_ble_eq_true h
theorem log_le {n : Nat} (h : n ≤ 64) : 2 ^ Nat.log2 n ≤ 64 := by
  rcases Nat.eq_zero_or_pos n with h0 | h0
  · subst h0; decide
  · exact Nat.le_trans (Nat.log2_self_le (by omega)) h
theorem lsS_len (xs : List Nat) : (lsL sumsL xs).length = 2 ^ Nat.log2 xs.length := by simp [lsL, plusM, sumsL]
theorem lsB_len (xs : List Nat) : (lsL backL xs).length = 2 ^ Nat.log2 xs.length := by simp [lsL, plusM, backL]
theorem wcL_len (n k : Int) : (wcL n k).length = n.toNat := by simp [wcL, plusM, walL]
theorem q2o_ok {ok : Bool} {L : List Nat} (h : L.length ≤ 5000) : allT (q2o ok L) = true := by cases ok <;> simp [q2o, allT]; exact h
theorem gLk_ok {C : Int} {ok : Bool} {L : List Nat} (h : L.length ≤ 5000) : gLk C ok L = true := by
  unfold gLk
  rw [andT_eq, allT_append, q2o_ok h]
  cases eqQ false C C <;> rfl
theorem q1L_ok {n : Nat} (h : n ≤ 5000) : allT (q1L n) = true := by simp [q1L, allT]; exact h
theorem qPo_ok {n : Int} {m : Nat} (h : in75 n m = true) : allT (qPo n m) = true := by
  have h5 : m ≤ 5000 := by
    simp only [in75, List.mem_cons, Prod.mk.injEq, List.not_mem_nil, or_false, decide_eq_true_eq] at h
    omega
  have h' : in75' n m = true := h
  simp [qPo, allT, h', h5]
theorem ns60_le {n : Int} (h : n ∈ ns60') : 1 ≤ n ∧ n ≤ 64 := by
  simp only [ns60', List.mem_cons, List.not_mem_nil, or_false] at h
  omega
theorem nds0_ok {c : Cd} (hc : goodB c = true) : allT (nds0 c) = true := by
  have hk : okB c c.off c.len = true := by simp [okB, hc]
  have h60 := in60_mem hc
  have h69 := in69_mem hc
  have h72 := in72_mem hc
  have h75 := (ilV_ok hc).1
  have ha := aW_len hc
  have hb := bW_len hc
  have hn := ns60_le h60.1
  have g1 := gLk_ok (C := sumC (bW c)) (ok := sumOK (bW c)) (L := lsL backL (bW c)) (by rw [lsB_len]; have := log_le hb; omega)
  have g2 := gLk_ok (C := sumC (aW c)) (ok := sumOK (aW c)) (L := lsL sumsL (aW c)) (by rw [lsS_len]; have := log_le ha; omega)
  have g3 := gLk_ok (C := wcC (nW c) (kW c)) (ok := wcOK (nW c) (kW c)) (L := wcL (nW c) (kW c)) (by rw [wcL_len]; omega)
  have q1 := q1L_ok (n := (aW c).length) (by omega)
  have q2 := q1L_ok (n := (bW c).length) (by omega)
  have q3 := qPo_ok h75
  unfold nds0
  simp only [allT_append, allT, hk, h60.1, h69.1, h72, g1, g2, g3, q1, q2, q3, decide_true, Bool.and_self]
end Go.Ax

/- The law of codes: codes and their sums, waves of codes, evaluated. -/
namespace Go.Ax
open Go Go.Proofs

def ixQ (L len : Nat) : Nat → List Bool
  | 0 => []
  | i + 1 => decide (0 + i * 1 < L) :: (decide ((0 : Int) ≤ Int.ofNat i) && decide (Int.ofNat i < (len : Int))) :: ixQ L len i
noncomputable def cdA (N : Nat) (k : Int) : List Bool := eqQ false (wcC (Int.ofNat N) k) 0 :: (!!eqQ false (sumC (uW (Int.ofNat N) k)) 0) :: (List.range N).map fun i => !!feq .f32 ((uS sumsL (uW (Int.ofNat N) k)).getD (0 + i * 1) 0) (cond (eqQ false (Int.ofNat i) k) (FloatKind.f32.nearest (Int.ofNat N)) 0)
noncomputable def ndA6 (N : Nat) (k : Int) : List Bool := ixQ (uS sumsL (uW (Int.ofNat N) k)).length (cond (sumOK (uW (Int.ofNat N) k)) (lsL sumsL (uW (Int.ofNat N) k)).length 0) N ++
  [decide (cond (wcOK (Int.ofNat N) k) (wcL (Int.ofNat N) k).length 0 = 0) || decide (0 < cond (wcOK (Int.ofNat N) k) 1 0), true, decide (cond (wcOK (Int.ofNat N) k) (wcL (Int.ofNat N) k).length 0 = (uW (Int.ofNat N) k).length), decide (cond (wcOK (Int.ofNat N) k) (wcL (Int.ofNat N) k).length 0 ≤ 5000)]
noncomputable def pA (N : Nat) : List Bool := true :: false :: List.replicate N false
def WayA (N : Nat) : Prop := ∀ c k m j, (condsP (wA true c (Int.ofNat N) k m j) (pA N), lfK 10 M45 ((wA true c (Int.ofNat N) k m j).at (pA N))) = (cdA N k, (true, lwAt 21, (t45 false c m j).map AV.bare, H33 c (Int.ofNat N) k m j, ndA6 N k))
noncomputable def cdB (N : Nat) (m j : Int) : List Bool := eqQ false (cond (cwOK m j) 0 2) 0 :: ((List.range N).map (fun i => !!(feq .f32 (cwX m j i).1 ((uW (Int.ofNat N) j).getD (0 + i * 1) 0) && feq .f32 (cwX m j i).2 0)) ++ [!!eqQ false (wcC (Int.ofNat N) j) 0])
noncomputable def ndB6 (N : Nat) (j : Int) : List Bool := ixQ (uW (Int.ofNat N) j).length (cond (wcOK (Int.ofNat N) j) (wcL (Int.ofNat N) j).length 0) N ++ [true]
noncomputable def pB (N : Nat) : List Bool := true :: (List.replicate N false ++ [false])
def WayB (N : Nat) (m : Int) : Prop := ∀ c n k j, (condsP (wB true c n k m j) (pB N), lfK 1 M54 ((wB true c n k m j).at (pB N))) = (cdB N m j, (true, lwAt 22, (t54 c).map AV.bare, [codeB c false], ndB6 N j))
theorem wayA1 : WayA 1 := fun c k m j => by kernel_rfl
theorem wayA2 : WayA 2 := fun c k m j => by kernel_rfl
theorem wayA4 : WayA 4 := fun c k m j => by kernel_rfl
theorem wayA8 : WayA 8 := fun c k m j => by kernel_rfl
theorem wayA16 : WayA 16 := fun c k m j => by kernel_rfl
theorem wayA32 : WayA 32 := fun c k m j => by kernel_rfl
theorem wayA64 : WayA 64 := fun c k m j => by kernel_rfl
theorem wayB1 : WayB 1 1 := fun c n k j => by kernel_rfl
theorem wayB2 : WayB 4 2 := fun c n k j => by kernel_rfl
theorem wayB4 : WayB 16 4 := fun c n k j => by kernel_rfl
theorem wayB8 : WayB 64 8 := fun c n k j => by kernel_rfl
end Go.Ax

/- The law of codes: the sums of codes, waves of codes, numbers and pictures there and back. -/
namespace Go.Ax
open Go Go.Proofs

theorem at0_plusM (xs : List Nat) (j : Nat) : at0 (plusM xs) j = plusF (at0 xs j) := by
  unfold at0 plusM
  rw [List.getD_eq_getElem?_getD, List.getElem?_map, List.getD_eq_getElem?_getD]
  cases xs[j]? with
  | none => exact plus_zero.symm
  | some x => rfl
theorem orth_isI {m k : Nat} (hm : m < 7) (hk : k < 2 ^ m) {x : Nat → Nat} (hx : ∀ j, isI (x j) (walW m k j)) {i : Nat} (hi : i < 2 ^ m) : isI (hadF m x i) (2 ^ m * dl k i) := by
  have h64 : 2 ^ m ≤ 2 ^ 6 := Nat.pow_le_pow_right (by omega) (by omega)
  have hw : ∀ j, (walW m k j).natAbs ≤ 1 := fun j => (walL_isI m k j).2
  obtain ⟨h1, _⟩ := hadF_isI (fun j => ⟨hx j, hw j⟩) m (by omega) i
  have e := hdI_twice (k := m) (by omega) (v := walW m k) (w := dl k) (fun j hj => by
    unfold walW
    have : Nat.blt j (2 ^ m) = true := by
      cases hb : Nat.blt j (2 ^ m) with
      | true => rfl
      | false => have := blt_false hb; omega
    rw [this]
    exact walI_dl hm hk hj) (fun j hj => by
    unfold walW
    have : Nat.blt j (2 ^ m) = false := by
      cases hb : Nat.blt j (2 ^ m) with
      | false => rfl
      | true => have := blt_true hb; omega
    rw [this]; rfl) (fun j hj => by
    rw [dl_eq, if_neg (by omega)]) hi
  rwa [e] at h1
theorem pow_isI {m : Nat} (hm : m < 7) : isI (FloatKind.f32.nearest (Int.ofNat (2 ^ m))) (2 ^ m) := by
  have key : ∀ m, m < 7 → fint (FloatKind.f32.nearest (Int.ofNat (2 ^ m))) = some ((2 : Int) ^ m * 2 ^ 149) := seven (Q := fun m => fint (FloatKind.f32.nearest (Int.ofNat (2 ^ m))) = some ((2 : Int) ^ m * 2 ^ 149)) (by decide +kernel) (by decide +kernel) (by decide +kernel) (by decide +kernel) (by decide +kernel) (by decide +kernel) (by decide +kernel)
  exact key m hm
theorem allT_append' {a b : List Bool} (ha : allT a = true) (hb : allT b = true) : allT (a ++ b) = true := by rw [allT_append, ha, hb]; rfl
theorem finL_isI {xs : List Nat} {v : Nat → Int} (h : ∀ j, isI (at0 xs j) (v j)) : finL xs = true := by
  rw [finL_iff]
  intro j _
  exact isI_fin (h j)
theorem gSu_isI {m : Nat} {x : Nat → Nat} {v : Nat → Int} (h : ∀ i, isI (hadF m x i) (v i)) : gSu m x = true := by
  unfold gSu sumsL
  rw [finL_map]
  intro i _
  exact isI_fin (h i)
theorem powB_pow {m : Nat} (hm : m < 7) : powB ((2 ^ m : Nat) : Int) = true := pow_iff.2 ⟨m, hm, rfl⟩
theorem sumOK_of {xs : List Nat} {m : Nat} (hm : m < 7) (hl : xs.length = 2 ^ m) (hf : finL xs = true) (hg : gSu m (at0 xs) = true) : sumOK xs = true := by
  unfold sumOK
  have : Nat.log2 xs.length = m := by rw [hl, Nat.log2_two_pow]
  rw [hf, this, hg, hl, powB_pow hm]; rfl
theorem ixQ_ok {L len : Nat} : ∀ {N : Nat}, N ≤ L → N ≤ len → allT (ixQ L len N) = true
  | 0, _, _ => rfl
  | i + 1, h1, h2 => by
    have e1 : decide (0 + i * 1 < L) = true := by simp; omega
    have e2 : (decide ((0 : Int) ≤ Int.ofNat i) && decide (Int.ofNat i < (len : Int))) = true := by simp; omega
    have e3 := ixQ_ok (L := L) (len := len) (N := i) (by omega) (by omega)
    simp only [ixQ, allT, e1, e2, e3, Bool.and_self]
theorem getD_at0 (xs : List Nat) (i : Nat) : xs.getD (0 + i * 1) 0 = at0 xs i := by
  unfold at0
  rw [Nat.zero_add, Nat.mul_one]
/-! ### Codes and their sums -/
theorem wcOK_in {m : Nat} {k : Int} (h : wcOK (Int.ofNat (2 ^ m)) k = true) : 0 ≤ k ∧ k.toNat < 2 ^ m := by
  unfold wcOK at h
  rw [Bool.and_eq_true, inK_iff] at h
  have := h.2
  simp only [Int.ofNat_eq_natCast] at this
  omega
theorem segA_ok {m : Nat} (hm : m < 7) {k : Int} (hk : wcOK (Int.ofNat (2 ^ m)) k = true) : allT (cdA (2 ^ m) k) = true ∧ allT (ndA6 (2 ^ m) k) = true := by
  obtain ⟨hk0, hk1⟩ := wcOK_in hk
  have h64 : 2 ^ m ≤ 2 ^ 6 := Nat.pow_le_pow_right (by omega) (by omega)
  have eU : uW (Int.ofNat (2 ^ m)) k = plusM (walL (2 ^ m) k.toNat) := by
    unfold uW wcL
    rw [hk]; rfl
  have hU : ∀ j, isI (at0 (uW (Int.ofNat (2 ^ m)) k) j) (walW m k.toNat j) := fun j => by
    rw [eU, at0_plusM]
    exact isI_plus (walL_isI m k.toNat j).1
  have hl : (uW (Int.ofNat (2 ^ m)) k).length = 2 ^ m := by rw [eU]; simp [plusM, walL]
  have hw : ∀ j, (walW m k.toNat j).natAbs ≤ 1 := fun j => (walL_isI m k.toNat j).2
  have hg : gSu m (at0 (uW (Int.ofNat (2 ^ m)) k)) = true := gSu_isI fun i => (hadF_isI (fun j => ⟨hU j, hw j⟩) m (by omega) i).1
  have hs := sumOK_of hm hl (finL_isI hU) hg
  have hlog : Nat.log2 (uW (Int.ofNat (2 ^ m)) k).length = m := by rw [hl, Nat.log2_two_pow]
  have eS : uS sumsL (uW (Int.ofNat (2 ^ m)) k) = plusM (sumsL m (at0 (uW (Int.ofNat (2 ^ m)) k))) := by
    unfold uS lsL
    rw [hs, hlog]; rfl
  have hC : sumC (uW (Int.ofNat (2 ^ m)) k) = 0 := by
    unfold sumOK at hs
    simp only [Bool.and_eq_true] at hs
    unfold sumC
    rw [hs.1, hs.2.1, hs.2.2]; rfl
  have hlS : (uS sumsL (uW (Int.ofNat (2 ^ m)) k)).length = 2 ^ m := by rw [eS]; simp [plusM, sumsL]
  constructor
  · unfold cdA
    have e0 : eqQ false (wcC (Int.ofNat (2 ^ m)) k) 0 = true := by unfold wcC; rw [hk]; exact eqQ_refl _ _
    have e1 : allT ((List.range (2 ^ m)).map fun i => !!feq .f32 ((uS sumsL (uW (Int.ofNat (2 ^ m)) k)).getD (0 + i * 1) 0) (cond (eqQ false (Int.ofNat i) k) (FloatKind.f32.nearest (Int.ofNat (2 ^ m))) 0)) = true := by
      rw [allT_map]
      intro i hi
      rw [List.mem_range] at hi
      rw [Bool.not_not, getD_at0, eS, at0_plusM]
      have h1 : isI (plusF (at0 (sumsL m (at0 (uW (Int.ofNat (2 ^ m)) k))) i)) (2 ^ m * dl k.toNat i) := by
        refine isI_plus ?_
        unfold sumsL
        rw [at0_map hi]
        exact orth_isI hm hk1 hU hi
      have h2 : isI (cond (eqQ false (Int.ofNat i) k) (FloatKind.f32.nearest (Int.ofNat (2 ^ m))) 0) (2 ^ m * dl k.toNat i) := by
        rw [eqQ_eq, dl_eq]
        by_cases h : i = k.toNat
        · have : (Int.ofNat i == k) = true := by simp; omega
          rw [this, if_pos h, Int.mul_one]
          exact pow_isI hm
        · have : (Int.ofNat i == k) = false := by simp; omega
          rw [this, if_neg h, Int.mul_zero]
          exact isI_zero
      rw [isI_feq h1 h2]; simp
    simp only [allT, e0, hC, eqQ_refl, e1, Bool.not_true, Bool.not_false, Bool.and_self]
  · unfold ndA6
    have e1 := ixQ_ok (L := (uS sumsL (uW (Int.ofNat (2 ^ m)) k)).length) (len := cond (sumOK (uW (Int.ofNat (2 ^ m)) k)) (lsL sumsL (uW (Int.ofNat (2 ^ m)) k)).length 0) (N := 2 ^ m) (by omega) (by rw [hs, cond_true, lsS_len, hlog]; exact Nat.le_refl _)
    refine allT_append' e1 ?_
    rw [hk, hl]
    have hwl : (wcL (Int.ofNat (2 ^ m)) k).length = 2 ^ m := by rw [wcL_len]; rfl
    rw [hwl]
    simp [allT]
    omega
/-! ### Waves of codes -/
theorem segB_ok {N : Nat} {m j : Int} (hs : sideB m = true) (hN : N = m.toNat * m.toNat) (h2 : Int.ofNat N = m * m) (hj : cwOK m j = true) : allT (cdB N m j) = true ∧ allT (ndB6 N j) = true := by
  have hin : inK (Int.ofNat N) j = true := by
    unfold cwOK at hj
    rw [Bool.and_eq_true] at hj
    rw [h2]; exact hj.2
  have hp7 : pow7 (Int.ofNat N) = true := by
    rw [h2]
    rcases sideB_iff.1 hs with rfl | rfl | rfl | rfl <;> rfl
  have hwc : wcOK (Int.ofNat N) j = true := by unfold wcOK; rw [hp7, hin]; rfl
  have eU : uW (Int.ofNat N) j = plusM (walL N j.toNat) := by
    unfold uW wcL
    rw [hwc]; rfl
  have hl : (uW (Int.ofNat N) j).length = N := by rw [eU]; simp [plusM, walL]
  constructor
  · unfold cdB
    have e0 : eqQ false (cond (cwOK m j) 0 2) 0 = true := by rw [hj]; exact eqQ_refl _ _
    have e2 : eqQ false (wcC (Int.ofNat N) j) 0 = true := by unfold wcC; rw [hwc]; exact eqQ_refl _ _
    have e1 : allT ((List.range N).map (fun i => !!(feq .f32 (cwX m j i).1 ((uW (Int.ofNat N) j).getD (0 + i * 1) 0) && feq .f32 (cwX m j i).2 0))) = true := by
      rw [allT_map]
      intro i hi
      rw [List.mem_range] at hi
      rw [Bool.not_not, getD_at0, eU, at0_plusM]
      have hb : Nat.blt i (m.toNat * m.toNat) = true := by
        cases hb : Nat.blt i (m.toNat * m.toNat) with
        | true => rfl
        | false => have := blt_false hb; omega
      have e : cwX m j i = (plusF (walF j.toNat i), 0) := by unfold cwX; rw [hj, hb]; rfl
      unfold walL
      rw [at0_map hi, e]
      have hw := isI_plus (walF_isI j.toNat i).1
      show (feq .f32 (plusF (walF j.toNat i)) (plusF (walF j.toNat i)) && feq .f32 0 0) = true
      rw [isI_feq hw hw, isI_feq isI_zero isI_zero]
      simp
    simp only [allT, allT_append, e0, e1, e2, Bool.not_true, Bool.not_false, Bool.and_self]
  · unfold ndB6
    refine allT_append' (ixQ_ok (by omega) ?_) rfl
    rw [hwc, cond_true, wcL_len]
    exact Nat.le_refl _
/-! ### Numbers there and back -/
theorem near21 : (List.range 21).all (fun i => decide (fint (FloatKind.f32.nearest (Int.ofNat i - 10)) = some ((Int.ofNat i - 10) * 2 ^ 149))) = true := by decide +kernel
noncomputable def wCx (c : Cd) (N j : Nat) : Int := cond (Nat.blt j N) (nineC c j - 10) 0
theorem xsC_isI {c : Cd} (hc : goodB c = true) (N j : Nat) : isI (at0 (xsC c N) j) (wCx c N j) ∧ (wCx c N j).natAbs ≤ 10 := by
  unfold wCx
  cases hb : Nat.blt j N with
  | false =>
    have hj := blt_false hb
    rw [at0_out (by simp [xsC]; omega)]
    exact ⟨isI_zero, by simp⟩
  | true =>
    have hj := blt_true hb
    have h0 := beV_bound hc (sC c j).1 (sC c j).2 21
    have h1 := h0.2 (by decide)
    have h0 : 0 ≤ nineC c j := h0.1
    have h1 : nineC c j < 21 := h1
    refine ⟨?_, by simp only [cond_true]; omega⟩
    unfold xsC
    rw [at0_map hj]
    show isI (FloatKind.f32.nearest (wrapQ false .i64 (nineC c j - 10))) (nineC c j - 10)
    rw [wrapQ_eq, wrap64_id (by omega) (by omega)]
    obtain ⟨i, hi⟩ := Int.eq_ofNat_of_zero_le h0
    rw [hi] at h1 ⊢
    have := List.all_eq_true.1 near21 i (List.mem_range.2 (by omega))
    have h2 : fint (FloatKind.f32.nearest (Int.ofNat i - 10)) = some ((Int.ofNat i - 10) * 2 ^ 149) := of_decide_eq_true this
    exact h2
theorem xsC_len (c : Cd) (N : Nat) : (xsC c N).length = N := by simp [xsC]
/-- What is known of a list of small whole numbers. -/
theorem sums_of {xs : List Nat} {w : Nat → Int} {A m : Nat} (hm : m < 7) (hl : xs.length = 2 ^ m) (hx : ∀ j, isI (at0 xs j) (w j) ∧ (w j).natAbs ≤ A) (hA : A * 2 ^ m < 16777216) :
    sumOK xs = true ∧ sumC xs = 0 ∧ Nat.log2 xs.length = m ∧ ∀ i, isI (hadF m (at0 xs) i) (hdI m w i) ∧ (hdI m w i).natAbs ≤ A * 2 ^ m := by
  have hh := hadF_isI hx m hA
  have hs := sumOK_of hm hl (finL_isI fun j => (hx j).1) (gSu_isI fun i => (hh i).1)
  refine ⟨hs, ?_, by rw [hl, Nat.log2_two_pow], hh⟩
  unfold sumOK at hs
  simp only [Bool.and_eq_true] at hs
  unfold sumC
  rw [hs.1, hs.2.1, hs.2.2]; rfl
/-- Numbers within a length, zero behind it. -/
def cutW (N : Nat) (w : Nat → Int) (j : Nat) : Int := cond (Nat.blt j N) (w j) 0
theorem cutW_in {N : Nat} {w : Nat → Int} {j : Nat} (h : j < N) : cutW N w j = w j := by
  unfold cutW
  have : Nat.blt j N = true := by
    cases hb : Nat.blt j N with
    | true => rfl
    | false => have := blt_false hb; omega
  rw [this]; rfl
theorem cutW_out {N : Nat} {w : Nat → Int} {j : Nat} (h : N ≤ j) : cutW N w j = 0 := by
  unfold cutW
  have : Nat.blt j N = false := by
    cases hb : Nat.blt j N with
    | false => rfl
    | true => have := blt_true hb; omega
  rw [this]; rfl
theorem list_isI {N : Nat} {g : Nat → Nat} {w : Nat → Int} {A : Nat} (h : ∀ j, j < N → isI (g j) (w j) ∧ (w j).natAbs ≤ A) (j : Nat) : isI (at0 ((List.range N).map g) j) (cutW N w j) ∧ (cutW N w j).natAbs ≤ A := by
  rcases Nat.lt_or_ge j N with hj | hj
  · rw [at0_map hj, cutW_in hj]; exact h j hj
  · rw [at0_out (by simp; omega), cutW_out hj]
    exact ⟨isI_zero, by simp⟩
/-- Back from the sums of small whole numbers. -/
theorem back_isI {m : Nat} (hm : m < 7) {y : Nat → Nat} {w : Nat → Int} {A : Nat} (hw : ∀ j, (w j).natAbs ≤ A) (hA : A * 2 ^ m * 2 ^ m < 16777216) (hz : ∀ j, 2 ^ m ≤ j → w j = 0) (hy : ∀ j, isI (y j) (cutW (2 ^ m) (hdI m w) j) ∧ (cutW (2 ^ m) (hdI m w) j).natAbs ≤ A * 2 ^ m) {i : Nat} (hi : i < 2 ^ m) : isI (backF m y i) (w i) := by
  obtain ⟨h1, h2⟩ := hadF_isI hy m hA i
  have e := hdI_twice (k := m) (by omega) (v := cutW (2 ^ m) (hdI m w)) (w := w) (fun j hj => cutW_in hj) (fun j hj => cutW_out hj) hz hi
  rw [e] at h1 h2
  rw [Int.mul_comm] at h1
  have hp : (2 : Int) ^ m = ((2 ^ m : Nat) : Int) := by simp
  have h64 : 2 ^ m ≤ 2 ^ 6 := Nat.pow_le_pow_right (by omega) (by omega)
  have hpos := Nat.two_pow_pos m
  unfold backF
  have hA' : A < 16777216 := by
    have h1 : A * 1 ≤ A * 2 ^ m := Nat.mul_le_mul_left _ hpos
    have h2 : A * 2 ^ m * 1 ≤ A * 2 ^ m * 2 ^ m := Nat.mul_le_mul_left _ hpos
    omega
  refine isI_div h1 (pow_isI hm) (by rw [hp]; omega) (by rw [hp]; omega) (Nat.lt_of_le_of_lt (hw i) hA') ?_
  rw [Int.mul_comm]
  omega
theorem segC_ok {c : Cd} (hc : goodB c = true) {m : Nat} (hm : m < 7) : allT (cdC c (2 ^ m)) = true ∧ ∀ b, beV c 0 (rollV c 9710) 7 = b → allT (ndC6 c b (2 ^ m)) = true := by
  have hk : okB c c.off c.len = true := by simp [okB, hc]
  have h64 : 2 ^ m ≤ 2 ^ 6 := Nat.pow_le_pow_right (by omega) (by omega)
  have hbig : 10 * 2 ^ m * 2 ^ m < 16777216 := by
    have := Nat.mul_le_mul (Nat.mul_le_mul_left 10 h64) h64
    omega
  have hbig1 : 10 * 2 ^ m < 16777216 := by omega
  obtain ⟨s1, c1, l1, h1⟩ := sums_of hm (xsC_len c (2 ^ m)) (xsC_isI hc (2 ^ m)) hbig1
  have eY : ysC c (2 ^ m) = (List.range (2 ^ m)).map fun i => plusF (hadF m (at0 (xsC c (2 ^ m))) i) := by
    unfold ysC uS lsL plusM sumsL
    rw [s1, l1, List.map_map]; rfl
  have hY : ∀ j, isI (at0 (ysC c (2 ^ m)) j) (cutW (2 ^ m) (hdI m (wCx c (2 ^ m))) j) ∧ (cutW (2 ^ m) (hdI m (wCx c (2 ^ m))) j).natAbs ≤ 10 * 2 ^ m := by
    rw [eY]
    exact list_isI fun j _ => ⟨isI_plus (h1 j).1, (h1 j).2⟩
  have lY : (ysC c (2 ^ m)).length = 2 ^ m := by rw [eY]; simp
  obtain ⟨s2, c2, l2, h2⟩ := sums_of hm lY hY hbig
  have eZ : zsC c (2 ^ m) = (List.range (2 ^ m)).map fun i => plusF (backF m (at0 (ysC c (2 ^ m))) i) := by
    unfold zsC uS lsL plusM backL
    rw [s2, l2, List.map_map]; rfl
  have hZ : ∀ j, j < (zsC c (2 ^ m)).length → isI (at0 (zsC c (2 ^ m)) j) (wCx c (2 ^ m) j) := fun j hj => by
    rw [eZ] at hj ⊢
    have hj : j < 2 ^ m := by simpa using hj
    rw [at0_map hj]
    refine isI_plus (back_isI hm (fun j => (xsC_isI hc (2 ^ m) j).2) hbig (fun j hj => ?_) hY hj)
    unfold wCx
    have : Nat.blt j (2 ^ m) = false := by
      cases hb : Nat.blt j (2 ^ m) with
      | false => rfl
      | true => have := blt_true hb; omega
    rw [this]; rfl
  have lZ : (zsC c (2 ^ m)).length = 2 ^ m := by rw [eZ]; simp
  have hlike : likeF (zsC c (2 ^ m)) (xsC c (2 ^ m)) = true := like_isI (v := wCx c (2 ^ m)) (by rw [lZ, xsC_len]) hZ (fun j _ => (xsC_isI hc (2 ^ m) j).1)
  constructor
  · unfold cdC
    rw [c1, c2, eqQ_refl, hlike]; rfl
  · intro b hb
    unfold ndC6
    have e1 : cond (sumOK (xsC c (2 ^ m))) (lsL sumsL (xsC c (2 ^ m))).length 0 = 2 ^ m := by rw [s1, cond_true, lsS_len, l1]
    have q : allT (q2o (sumOK (ysC c (2 ^ m))) (lsL backL (ysC c (2 ^ m)))) = true := q2o_ok (by rw [lsB_len, l2]; omega)
    have e2 : eqQ false (beV c 0 (rollV c 9710) 7) b = true := by rw [hb]; exact eqQ_refl _ _
    refine allT_append' ?_ (allT_append' (by rw [hk]; exact intT_ok _) (by simp [allT, hk, e2]))
    rw [c1, c2, eqQ_refl, e1, lY, s1, xsC_len]
    have h5 : decide (2 ^ m ≤ 5000) = true := by simp; omega
    simp [allT, andT_eq, guardL, allT_append, q, h5]
end Go.Ax

/- The law of codes: pictures of small whole numbers, measured and found again. -/
namespace Go.Ax
open Go Go.Proofs

theorem near9 : (List.range 9).all (fun i => decide (fint (FloatKind.f32.nearest (Int.ofNat i)) = some (Int.ofNat i * 2 ^ 149))) = true := by decide +kernel
noncomputable def wDx (c : Cd) (a : Nat) (h : Int) (N j : Nat) : Int := cutW N (vD c a h) j
theorem xD_isI {c : Cd} (hc : goodB c = true) (a : Nat) (h : Int) (N j : Nat) : isI (xD c a h N j) (wDx c a h N j) ∧ 0 ≤ wDx c a h N j ∧ wDx c a h N j ≤ 8 := by
  unfold wDx xD
  cases hb : Nat.blt j N with
  | false =>
    rw [cutW_out (by have := blt_false hb; omega)]
    exact ⟨isI_zero, by omega, by omega⟩
  | true =>
    rw [cutW_in (blt_true hb)]
    have h0 := beV_bound hc (sD c a h j).1 (sD c a h j).2 9
    have h1 := h0.2 (by decide)
    have h0 : 0 ≤ vD c a h j := h0.1
    have h1 : vD c a h j < 9 := h1
    refine ⟨?_, h0, by omega⟩
    obtain ⟨i, hi⟩ := Int.eq_ofNat_of_zero_le h0
    show isI (FloatKind.f32.nearest (vD c a h j)) (vD c a h j)
    rw [hi] at h1 ⊢
    have := List.all_eq_true.1 near9 i (List.mem_range.2 (by omega))
    have h2 : fint (FloatKind.f32.nearest (Int.ofNat i)) = some (Int.ofNat i * 2 ^ 149) := of_decide_eq_true this
    exact h2
theorem reP_isI {c : Cd} (hc : goodB c = true) (a : Nat) (h : Int) {N : Nat} (hN : N ≤ 64) (j : Nat) : isI (reP (xD c a h N) j) (wDx c a h N j) := by
  rcases Nat.lt_or_ge j 64 with hj | hj
  · rw [reP_eq hj]; exact (xD_isI hc a h N j).1
  · have e : reP (xD c a h N) j = 0 := by
      unfold reP
      rw [List.getD_eq_getElem?_getD, List.getElem?_eq_none (by simp; omega)]; rfl
    rw [e]
    unfold wDx
    rw [cutW_out (by omega)]
    exact isI_zero
theorem isPic_D {c : Cd} (hc : goodB c = true) (a : Nat) (h : Int) {N : Nat} {n : Int} (hs : sideB n = true) (hN : N = n.toNat * n.toNat) (h64 : N ≤ 64) : isPicB n (reP (xD c a h N)) = true := by
  rw [isPicB_iff]
  refine ⟨sideB_iff.1 hs, fun j _ => ?_⟩
  have h1 := reP_isI hc a h h64 j
  have h2 := (xD_isI hc a h N j).2
  refine ⟨isI_fin h1, ?_, fun hj => ?_⟩
  · rw [flt_fint h1 isI_zero]
    have h149 : (0 : Int) < 2 ^ 149 := Int.pow_pos (by decide)
    have := Int.mul_nonneg h2.1 (Int.le_of_lt h149)
    simp only [decide_eq_false_iff_not]
    omega
  · rw [isI_feq h1 isI_zero]
    unfold wDx
    rw [cutW_out (by omega)]
    rfl
theorem segD_ok {c : Cd} (hc : goodB c = true) (a : Nat) (h : Int) {m : Nat} (hm : m < 7) {n : Int} (hs : sideB n = true) (hN : 2 ^ m = n.toNat * n.toNat) (h2 : ((2 ^ m : Nat) : Int) = n * n) (h16 : 2 ^ m ≤ 16) : allT (cdD c a h n (2 ^ m)) = true ∧ vlD c a h n (2 ^ m) = true ∧ ∀ s, beV c a h 3 = s → allT (ndD6 c a h s (2 ^ m)) = true := by
  have hk : okB c c.off c.len = true := by simp [okB, hc]
  have hw : ∀ j, (wDx c a h (2 ^ m) j).natAbs ≤ 8 := fun j => by have := (xD_isI hc a h (2 ^ m) j).2; omega
  have hwz : ∀ j, 2 ^ m ≤ j → wDx c a h (2 ^ m) j = 0 := fun j hj => cutW_out hj
  have hx := reP_isI hc a h (N := 2 ^ m) (by omega)
  have hpic := isPic_D hc a h hs hN (by omega)
  -- the sums
  have hS : ∀ k, k < 2 ^ m → isI (smS (reP (xD c a h (2 ^ m))) k (2 ^ m)) (hdI m (wDx c a h (2 ^ m)) k) ∧ (hdI m (wDx c a h (2 ^ m)) k).natAbs ≤ 8 * 2 ^ m := fun k hk => by
    have h1 := acc_mul (x := reP (xD c a h (2 ^ m))) (y := walF k) (w := wDx c a h (2 ^ m)) (u := walI k) (A := 8) (B := 1) (n := 2 ^ m) (fun j _ => ⟨hx j, hw j⟩) (fun j _ => walF_isI k j) (by omega) (by omega) (by omega) (by omega)
    rw [hdI_prod hm hwz hk] at h1
    refine ⟨h1.1, ?_⟩
    have := h1.2
    omega
  have hin : ∀ k, k < 2 ^ m → inK (n * n) (Int.ofNat k) = true := fun k hk => by
    rw [inK_iff, ← h2]
    simp only [Int.ofNat_eq_natCast]
    omega
  have hOK : ∀ k, k < 2 ^ m → smOK n (Int.ofNat k) (reP (xD c a h (2 ^ m))) = true := fun k hk => by
    unfold smOK
    rw [hpic, hin k hk, ← hN]
    have : finB (smS (reP (xD c a h (2 ^ m))) (Int.ofNat k).toNat (2 ^ m)) = true := isI_fin (hS k hk).1
    rw [this]; rfl
  have hms : ∀ j, isI (at0 (msD c a h n (2 ^ m)) j) (cutW (2 ^ m) (hdI m (wDx c a h (2 ^ m))) j) ∧ (cutW (2 ^ m) (hdI m (wDx c a h (2 ^ m))) j).natAbs ≤ 8 * 2 ^ m := list_isI fun k hk => by
    refine ⟨?_, (hS k hk).2⟩
    unfold mD
    rw [hOK k hk, ← hN]
    exact isI_plus (hS k hk).1
  have lms : (msD c a h n (2 ^ m)).length = 2 ^ m := by simp [msD]
  have hbig : 8 * 2 ^ m * 2 ^ m < 16777216 := by
    have := Nat.mul_le_mul (Nat.mul_le_mul_left 8 h16) h16
    omega
  obtain ⟨s1, c1, l1, h1⟩ := sums_of hm lms hms hbig
  have hfit : fitB2 n (msD c a h n (2 ^ m)).length = true := by
    unfold fitB2
    rw [hs, lms, decide_eq_true h2]; rfl
  have hfin : finL (msD c a h n (2 ^ m)) = true := finL_isI fun j => (hms j).1
  have hg : gSu (Nat.log2 (msD c a h n (2 ^ m)).length) (at0 (msD c a h n (2 ^ m))) = true := by
    rw [l1]; exact gSu_isI fun i => (h1 i).1
  have hpo : poOK n (msD c a h n (2 ^ m)) = true := by unfold poOK; rw [hfin, hfit, hg]; rfl
  have hpc : poC2 n (msD c a h n (2 ^ m)) = 0 := by unfold poC2; rw [hfin, hfit, hg]; rfl
  refine ⟨?_, ?_, fun s hs' => ?_⟩
  · unfold cdD
    rw [allT_map]
    intro k hk
    rw [List.mem_range] at hk
    have : smC n (Int.ofNat k) (reP (xD c a h (2 ^ m))) = 0 := by
      unfold smC
      rw [hpic, hin k hk, ← hN]
      have : finB (smS (reP (xD c a h (2 ^ m))) (Int.ofNat k).toNat (2 ^ m)) = true := isI_fin (hS k hk).1
      rw [this]; rfl
    rw [this, eqQ_refl]; rfl
  · unfold vlD
    rw [hpc, eqQ_refl, hpo]
    have : eqP (poX n (msD c a h n (2 ^ m))) (xD c a h (2 ^ m)) 64 0 = true := eqP_of 64 0 fun j _ _ => by
      have hxj := xD_isI hc a h (2 ^ m) j
      unfold poX
      rw [hpo, Bool.true_and, ← hN]
      rcases Nat.lt_or_ge j (2 ^ m) with hj | hj
      · have hb : Nat.blt j (2 ^ m) = true := by
          cases hb : Nat.blt j (2 ^ m) with
          | true => rfl
          | false => have := blt_false hb; omega
        rw [hb, l1]
        have e := back_isI hm hw hbig hwz hms hj
        have e2 := isI_plus (max_isI e isI_zero)
        rw [show max (wDx c a h (2 ^ m) j) 0 = wDx c a h (2 ^ m) j by omega] at e2
        show feq .f32 (plusF (fmaxA .f32 (backF m (at0 (msD c a h n (2 ^ m))) j) 0)) (xD c a h (2 ^ m) j) = true
        rw [isI_feq e2 hxj.1]; simp
      · have hb : Nat.blt j (2 ^ m) = false := by
          cases hb : Nat.blt j (2 ^ m) with
          | false => rfl
          | true => have := blt_true hb; omega
        rw [hb]
        show feq .f32 0 (xD c a h (2 ^ m) j) = true
        rw [isI_feq isI_zero hxj.1, hwz j hj]; rfl
    simp [eqPP, this]
  · unfold ndD6
    have e2 : eqQ false (beV c a h 3) s = true := by rw [hs']; exact eqQ_refl _ _
    rw [hk]
    exact allT_append' (allT_rep _) (allT_append' (allT_rep _) (by simp [allT, e2]))
end Go.Ax

/- The law of codes: its first part, evaluated. -/
namespace Go.Ax
open Go Go.Proofs

theorem w0_ok (c : Cd) : (condsP (w0 c) (List.replicate 7 false), lfK 10 M33 ((w0 c).at (List.replicate 7 false))) = (cds0 c, (true, lwAt 20, (t33 false c (nW c) (kW c) (mW c) (jW c)).map AV.bare, H33 c (nW c) (kW c) (mW c) (jW c), nds0 c)) := by kernel_rfl
theorem wA_no (c : Cd) (n k m j : Int) : (condsP (wA false c n k m j) [false], lfK 10 M45 ((wA false c n k m j).at [false])) = ([!eqQ false (wcC n k) 0], (true, lwAt 21, (t45 false c m j).map AV.bare, H33 c n k m j, [])) := by kernel_rfl
theorem wB_no (c : Cd) (n k m j : Int) : (condsP (wB false c n k m j) [false], lfK 1 M54 ((wB false c n k m j).at [false])) = ([!eqQ false (cond (cwOK m j) 0 2) 0], (true, lwAt 22, (t54 c).map AV.bare, [codeB c false], [])) := by kernel_rfl
theorem w0_big (c : Cd) : (condsP (w0 c) [true], endV Try.f6.results.toList ((w0 c).at [true])) = ([ltQ false 4096 (c.len : Int)], some (some ([.b true true], []), [])) := by kernel_rfl
end Go.Ax

/- The law of codes comes back with true. -/
namespace Go.Ax
open Go Go.Proofs

theorem endV_ends {T : Table} {stop : List Item → Bool} {n : Nat} {L : List Item} {p nd : List Bool} {t0 : List AV} {H0 : List AB} {rs : List ResultVar} {x : Option (List AV × List Bool)} (hT : SoundT Try.prog T) (hc : allT (condsP (jupto Try.prog T stop n L t0 H0) p) = true)
    (hl : endV rs ((jupto Try.prog T stop n L t0 H0).at p) = some (x, nd)) (hn : allT nd = true) : ∃ t H', Ends Try.prog L t0 H0 t H' ∧ resV Try.prog t H' rs = x := by
  unfold endV at hl
  split at hl <;> cases hl
  rename_i he
  obtain ⟨t, e1, e2⟩ := way_ends (stop := stop) (n := n) (R := L) hT rfl hc he hn
  exact ⟨t, _, e1, e2⟩
theorem way_pre {P : Program} {T : Table} {stop : List Item → Bool} {n k : Nat} {L todo' : List Item} {p M nd : List Bool} {t0 t' : List AV} {H0 H1 : List AB} (hT : SoundT P T) (hc : allT (condsP (jupto P T stop n L t0 H0) p) = true)
    (hl : lfK k M ((jupto P T stop n L t0 H0).at p) = (true, todo', t'.map AV.bare, H1, nd)) (hn : allT nd = true) : ∃ G, Reach P L t0 H0 todo' t' (H1 ++ G) := by
  simp only [lfK, Prod.mk.injEq] at hl
  obtain ⟨a1, a2, a3, a4, a5⟩ := hl
  have h := way_reach (stop := stop) (n := n) (R := L) (p := p) (M := M) (nd := nd) (t' := t') (todo' := todo') (H' := ((jupto P T stop n L t0 H0).at p).HOf) hT rfl hc (by simp only [lfM, a1, a2, a3, a5]) hn
  rw [← List.take_append_drop k (((jupto P T stop n L t0 H0).at p).HOf), a4] at h
  exact ⟨_, h⟩
theorem lwAt0 : lwAt 0 = [.code lwC] := rfl
theorem law6_call {c : Cd} {t : List AV} {H' : List AB} {l : Bool} (he : Ends Try.prog (lwAt 0) (.sl false 0 c.off c.len 0 :: undefs 337) [codeB c false] t H') (hr : resV Try.prog t H' Try.f6.results.toList = some ([.b l true], [])) : ∃ H', CallOK Try.prog 6 [.sl false 0 c.off c.len 0] [codeB c false] (.b false true) H' := by
  have hb : Try.f6.body = some lwC := rfl
  have k := call_of_ends (args := [.sl false 0 c.off c.len 0]) (m := []) Try.func6 hb he hr rfl
  exact ⟨H', k.weaken fun σ x r => by cases r; exact .b _⟩
theorem t33_low (l : Bool) (c : Cd) (n k m j : Int) : belowL 10 (t33 l c n k m j) = true := by kernel_rfl
theorem t45_low (l : Bool) (c : Cd) (m j : Int) : belowL 10 (t45 l c m j) = true := by kernel_rfl
theorem t54_low (c : Cd) : belowL 1 (t54 c) = true := by kernel_rfl
theorem tD60_low : belowL 2 tD60 = true := by kernel_rfl
theorem H33_low (c : Cd) (n k m j : Int) : belowH 10 (H33 c n k m j) = true := by kernel_rfl
theorem H33_len (c : Cd) (n k m j : Int) : (H33 c n k m j).length = 10 := rfl
theorem t33_bare (l : Bool) (c : Cd) (n k m j : Int) : Eqv (t33 false c n k m j) (t33 l c n k m j) := eqv_of_bare (by kernel_rfl)
theorem t45_bare (l : Bool) (c : Cd) (m j : Int) : Eqv (t45 false c m j) (t45 l c m j) := eqv_of_bare (by kernel_rfl)
theorem law6_ok (c : Cd) (hc : goodB c = true ∨ 4096 < c.len) : ∃ H', CallOK Try.prog 6 [.sl false 0 c.off c.len 0] [codeB c false] (.b false true) H' := by
  cases hb : ltQ false 4096 (c.len : Int) with
  | true =>
    have h0 := w0_big c
    simp only [Prod.mk.injEq] at h0
    obtain ⟨t, H', e1, e2⟩ := endV_ends (stop := atCut 14) (n := 2000) (L := lwAt 0) (p := [true]) (t0 := .sl false 0 c.off c.len 0 :: undefs 337) (H0 := [codeB c false]) (tabL6_sound 0 0) (by
      show allT (condsP (w0 c) [true]) = true
      rw [h0.1, hb]; rfl) h0.2 rfl
    exact law6_call e1 e2
  | false =>
    have hg : goodB c = true := by
      rcases hc with h | h
      · exact h
      · rw [ltQ_eq] at hb
        simp at hb; omega
    -- the first part
    have h0 := w0_ok c
    simp only [Prod.mk.injEq] at h0
    have r0 := way_keep (P := Try.prog) (T := tabL6 0 0) (stop := atCut 14) (n := 2000) (k := 10) (L := lwAt 0) (p := List.replicate 7 false) (M := M33) (t0 := .sl false 0 c.off c.len 0 :: undefs 337) (H0 := [codeB c false]) (t' := t33 false c (nW c) (kW c) (mW c) (jW c)) (H1 := H33 c (nW c) (kW c) (mW c) (jW c)) (tabL6_sound 0 0) (by
      show allT (condsP (w0 c) (List.replicate 7 false)) = true
      rw [h0.1]; exact cds0_ok hb) h0.2 (nds0_ok hg) (by rw [H33_len]; simp) (t33_low _ _ _ _ _ _) (H33_low _ _ _ _ _)
    -- codes and their sums
    have rA : Reach Try.prog (lwAt 20) (t33 false c (nW c) (kW c) (mW c) (jW c)) (H33 c (nW c) (kW c) (mW c) (jW c)) (lwAt 21) (t45 false c (mW c) (jW c)) (H33 c (nW c) (kW c) (mW c) (jW c)) := by
      generalize mW c = m
      generalize jW c = j
      have hmem := in60_mem hg
      generalize nW c = n at hmem ⊢
      generalize kW c = k at hmem ⊢
      cases hw : wcOK n k with
      | false =>
        have hA := wA_no c n k m j
        simp only [Prod.mk.injEq] at hA
        exact way_keep (P := Try.prog) (T := tabL6 0 0) (stop := atCut 13) (n := 4000) (k := 10) (L := lwAt 20) (p := [false]) (M := M45) (tabL6_sound 0 0) (by
          show allT (condsP (wA false c n k m j) [false]) = true
          rw [hA.1]
          unfold wcC
          rw [hw]; rfl) hA.2 rfl (Nat.le_refl _) (t45_low _ _ _ _) (H33_low _ _ _ _ _)
      | true =>
        have go : ∀ x, x < 7 → WayA (2 ^ x) → n = Int.ofNat (2 ^ x) → Reach Try.prog (lwAt 20) (t33 false c n k m j) (H33 c n k m j) (lwAt 21) (t45 false c m j) (H33 c n k m j) := fun x hx hW hn => by
          subst hn
          have hA := hW c k m j
          simp only [Prod.mk.injEq] at hA
          obtain ⟨s1, s2⟩ := segA_ok hx hw
          exact (way_keep (P := Try.prog) (T := tabL6 0 0) (stop := atCut 13) (n := 4000) (k := 10) (L := lwAt 20) (p := pA (2 ^ x)) (M := M45) (t0 := t33 true c (Int.ofNat (2 ^ x)) k m j) (H0 := H33 c (Int.ofNat (2 ^ x)) k m j) (tabL6_sound 0 0) (by
            show allT (condsP (wA true c (Int.ofNat (2 ^ x)) k m j) (pA (2 ^ x))) = true
            rw [hA.1]; exact s1) hA.2 s2 (Nat.le_refl _) (t45_low _ _ _ _) (H33_low _ _ _ _ _)).strong (t33_bare true c _ k m j)
        have hp : pow7 n = true := by
          unfold wcOK at hw
          rw [Bool.and_eq_true] at hw
          exact hw.1
        simp only [pow7, List.mem_cons, List.not_mem_nil, or_false, decide_eq_true_eq] at hp
        rcases hp with h | h | h | h | h | h | h
        · exact go 0 (by omega) wayA1 h
        · exact go 1 (by omega) wayA2 h
        · exact go 2 (by omega) wayA4 h
        · exact go 3 (by omega) wayA8 h
        · exact go 4 (by omega) wayA16 h
        · exact go 5 (by omega) wayA32 h
        · exact go 6 (by omega) wayA64 h
    -- waves of codes
    have rB : ∃ G, Reach Try.prog (lwAt 21) (t45 false c (mW c) (jW c)) (H33 c (nW c) (kW c) (mW c) (jW c)) (lwAt 22) (t54 c) ([codeB c false] ++ G) := by
      generalize mW c = m
      generalize jW c = j
      generalize nW c = n
      generalize kW c = k
      cases hw : cwOK m j with
      | false =>
        have hB := wB_no c n k m j
        simp only [Prod.mk.injEq] at hB
        exact way_pre (P := Try.prog) (T := tabL6 0 0) (stop := atCut 12) (n := 4000) (k := 1) (L := lwAt 21) (p := [false]) (M := M54) (tabL6_sound 0 0) (by
          show allT (condsP (wB false c n k m j) [false]) = true
          rw [hB.1, hw]; rfl) hB.2 rfl
      | true =>
        have go : ∀ N, WayB N m → sideB m = true → N = m.toNat * m.toNat → Int.ofNat N = m * m → ∃ G, Reach Try.prog (lwAt 21) (t45 false c m j) (H33 c n k m j) (lwAt 22) (t54 c) ([codeB c false] ++ G) := fun N hW hs hN h2 => by
          have hB := hW c n k j
          simp only [Prod.mk.injEq] at hB
          obtain ⟨s1, s2⟩ := segB_ok hs hN h2 hw
          obtain ⟨G, h⟩ := way_pre (P := Try.prog) (T := tabL6 0 0) (stop := atCut 12) (n := 4000) (k := 1) (L := lwAt 21) (p := pB N) (M := M54) (t0 := t45 true c m j) (H0 := H33 c n k m j) (tabL6_sound 0 0) (by
            show allT (condsP (wB true c n k m j) (pB N)) = true
            rw [hB.1]; exact s1) hB.2 s2
          exact ⟨G, h.strong (t45_bare true c m j)⟩
        have hs : sideB m = true := by
          unfold cwOK at hw
          rw [Bool.and_eq_true] at hw
          exact hw.1
        rcases sideB_iff.1 hs with rfl | rfl | rfl | rfl
        · exact go 1 wayB1 rfl rfl rfl
        · exact go 4 wayB2 rfl rfl rfl
        · exact go 16 wayB4 rfl rfl rfl
        · exact go 64 wayB8 rfl rfl rfl
    obtain ⟨G, rB⟩ := rB
    have r1 := ((r0.trans rA).trans rB).keep (by simp) (t54_low c) rfl
    -- numbers there and back
    have rC : ∃ a h, Reach Try.prog (lwAt 0) (.sl false 0 c.off c.len 0 :: undefs 337) [codeB c false] (lwAt 27) tD60 [codeB c false, srcB c a h] := by
      have go : ∀ b : Nat, b < 7 → WayC (Int.ofNat b) (2 ^ b) → beV c 0 (rollV c 9710) 7 = Int.ofNat b → ∃ a h, Reach Try.prog (lwAt 0) (.sl false 0 c.off c.len 0 :: undefs 337) [codeB c false] (lwAt 27) tD60 [codeB c false, srcB c a h] := fun b hb hW he => by
        have hC := hW c
        simp only [Prod.mk.injEq] at hC
        obtain ⟨s1, s2⟩ := segC_ok hg hb
        obtain ⟨G, h⟩ := way_pre (P := Try.prog) (T := tabL6 (Int.ofNat b) 0) (stop := atCut 7) (n := 6000) (k := 2) (L := lwAt 22) (p := [false]) (M := MD60) (t0 := t54 c) (H0 := [codeB c false]) (tabL6_sound (Int.ofNat b) 0) (by
          show allT (condsP (wC (Int.ofNat b) c) [false]) = true
          rw [hC.1]; exact s1) hC.2 (s2 _ he)
        exact ⟨_, _, (r1.trans h).keep (by simp) tD60_low rfl⟩
      have h0 := beV_bound hg 0 (rollV c 9710) 7
      have h1 := h0.2 (by decide)
      obtain ⟨b, hb⟩ := Int.eq_ofNat_of_zero_le h0.1
      rw [hb] at h1
      match b, h1, hb with
      | 0, _, hb => exact go 0 (by omega) wayC0 hb
      | 1, _, hb => exact go 1 (by omega) wayC1 hb
      | 2, _, hb => exact go 2 (by omega) wayC2 hb
      | 3, _, hb => exact go 3 (by omega) wayC3 hb
      | 4, _, hb => exact go 4 (by omega) wayC4 hb
      | 5, _, hb => exact go 5 (by omega) wayC5 hb
      | 6, _, hb => exact go 6 (by omega) wayC6 hb
      | b + 7, h1, _ => omega
    obtain ⟨a, h, rC⟩ := rC
    -- pictures
    have go : ∀ (s : Int) (n : Int) (m : Nat), m < 7 → WayD s n (2 ^ m) → sideB n = true → 2 ^ m = n.toNat * n.toNat → ((2 ^ m : Nat) : Int) = n * n → 2 ^ m ≤ 16 → beV c a h 3 = s → ∃ H', CallOK Try.prog 6 [.sl false 0 c.off c.len 0] [codeB c false] (.b false true) H' := fun s n m hm hW hs hN h2 h16 he => by
      have hD := hW c a h
      simp only [Prod.mk.injEq] at hD
      obtain ⟨s1, s2, s3⟩ := segD_ok hg a h hm hs hN h2 h16
      obtain ⟨t, H', e1, e2⟩ := endV_ends (stop := atCut 99) (n := 6000) (L := lwAt 27) (p := List.replicate (2 ^ m) false) (t0 := tD60) (H0 := [codeB c false, srcB c a h]) (tabL6_sound 0 s) (by
        show allT (condsP (wD s c a h) (List.replicate (2 ^ m) false)) = true
        rw [hD.1]; exact s1) hD.2 (s3 _ he)
      rw [s2] at e2
      exact law6_call (rC.ends e1) e2
    have h0 := beV_bound hg a h 3
    have h1 := h0.2 (by decide)
    obtain ⟨b, hb⟩ := Int.eq_ofNat_of_zero_le h0.1
    rw [hb] at h1
    match b, h1, hb with
    | 0, _, hb => exact go 0 1 0 (by omega) wayD0 rfl rfl rfl (by omega) hb
    | 1, _, hb => exact go 1 2 2 (by omega) wayD1 rfl rfl rfl (by omega) hb
    | 2, _, hb => exact go 2 4 4 (by omega) wayD2 rfl rfl rfl (by omega) hb
    | b + 3, h1, _ => omega
end Go.Ax

/- From the calls of a law on every text of bytes to the given statement. -/
namespace Go.Proofs.Ytdcjjibekhcplaa
open Go.ChangeShapes Go.WideShapes Go.ChangeAt Go.RowKit Go.Ax

theorem Try.own : ownKnob Try.prog.godebug = none := by kernel_rfl
theorem Try.laidOut : laidOutB Try.prog = true := by kernel_rfl
theorem cells5 : Try.prog.cellsOf 5 = 1 := by kernel_rfl
/-- What is to be shown of a law: it comes back with true from every text of bytes. -/
def LawOK (f : FuncId) : Prop := ∀ c : Cd, goodB c = true ∨ 4096 < c.len → ∃ H', CallOK Try.prog f [.sl false 0 c.off c.len 0] [codeB c false] (.b false true) H'
theorem law_calls {f : FuncId} (h : LawOK f) (c : Cd) (hc : goodB c = true ∨ 4096 < c.len) {σ : List (Nat × Nat)} {W : World} (s : Sim σ [codeB c false] W) {v : Value} (hv : Rel σ (.sl false 0 c.off c.len 0) v) :
    Calls Try.prog f #[v] W fun e W' => e = .returned (.bool true) ∧ Below W.heap.size W W' := by
  obtain ⟨H', k⟩ := h c hc
  refine (k σ W #[v] s (.cons hv .nil)).mono ?_
  rintro e W' ⟨rv, rfl, σ', r1, s1, F⟩
  cases r1
  refine ⟨rfl, F.os, F.tape, F.output, F.size, fun b hb => F.old b hb fun i z hr => ?_⟩
  match i with
  | 0 => simp [getB, codeB, AB.rw] at hr
  | i + 1 => simp [getB, AB.rw] at hr
theorem sim_code {W : World} {b z : Nat} {c : Cd} {cs : Array Value} {e : TypeId} {fr : Nat × Nat} (h : W.heap[b]? = some (.cells cs e fr)) (hz : cs.size = z) (hx : ∀ (j : Nat) (x : Int), c.bytes[j]? = some x → cs[c.off + j]? = some (.int .u8 x)) : Sim [(b, z)] [codeB c false] W := by
  refine ⟨rfl, fun i b' z' hb => ?_, fun i j b' z1 z2 hi hj hr _ => ?_⟩
  · match i, hb with
    | 0, hb => cases hb; exact ⟨cs, e, fr, h, hx, hz⟩
    | i + 1, hb => simp at hb
  · match i, hi with
    | 0, _ => simp [getB, codeB, AB.rw] at hr
    | i + 1, hi => simp at hi
theorem wf_u8 {n : Int} (h : (Lit.int .u8 n).wf = true) : 0 ≤ n ∧ n < 256 := by
  simp [Lit.wf, IntKind.min, IntKind.max, IntKind.signed, IntKind.bits] at h
  omega
/-- A slice of bytes that can be read, as a text of bytes. -/
theorem law_any {H : Type} {enc : TypeId × Value → H} {f : FuncId} (h : LawOK f) {W : World} (hsh : W.ShapedOpen Try.prog) {v : Value} {fuel : Nat} {x : DataW H × List MemPlace}
    (hf : DataW.trod enc Try.prog W 0 (fun _ => true) true fuel 22 v.cells.toList = some x) (hv : ∃ a len cap, v = .slice a len cap) : Calls Try.prog f #[v] W fun e W' => e = .returned (.bool true) ∧ Below W.heap.size W W' := by
  have nil_like : ∀ a : Option Addr, v = .slice a 0 0 → Calls Try.prog f #[v] W fun e W' => e = .returned (.bool true) ∧ Below W.heap.size W W' := fun a ha => by
    obtain ⟨cs, hcs, _, _⟩ := hsh.1 0 #[.bool false] 4 (of_decide_eq_true (by kernel_rfl)) (by kernel_rfl)
    refine law_calls h ⟨[], 0, 0⟩ (.inl rfl) (σ := [(0, cs.size)]) (sim_code hcs rfl fun j x hx => by simp at hx) ?_
    rw [ha]; exact .slz
  obtain ⟨a0, len0, cap0, rfl⟩ := hv
  rcases open_ints Try.underlying22 Try.underlying5 cells5 hf with ⟨hcs, _⟩ | ⟨a, len, cap, zs, hcs, _, hl, _, hz, _, hcell, hwz⟩
  · simp [Value.cells] at hcs
    obtain ⟨rfl, rfl, rfl⟩ := hcs
    exact nil_like _ rfl
  · simp [Value.cells] at hcs
    obtain ⟨rfl, rfl, rfl⟩ := hcs
    simp only [if_true] at hz
    by_cases h0 : cap0 = 0
    · have : len0 = 0 := by omega
      subst h0; subst this
      exact nil_like _ rfl
    · obtain ⟨b, off, spot⟩ := a
      have hspot : spot = none := by simpa [Addr.add] using World.cell?_spot (hcell 0 (by omega))
      subst hspot
      have hcell' : ∀ j, j < zs.length → W.cell? ⟨b, off + j, none⟩ = some (.int .u8 (zs.getD j 0)) := fun j hj => by
        have := hcell j hj
        rwa [addr_add] at this
      have h1 := hcell' 0 (by omega)
      have hblk : ∃ cs e fr, W.heap[b]? = some (.cells cs e fr) := by
        unfold World.cell? at h1
        simp only at h1
        split at h1 <;> first | exact ⟨_, _, _, by assumption⟩ | (cases h1; done)
      obtain ⟨cs, e, fr, hcs⟩ := hblk
      have hx : ∀ (j : Nat) (x : Int), zs[j]? = some x → cs[off + j]? = some (.int .u8 x) := fun j x hj => by
        have hjl : j < zs.length := (List.getElem?_eq_some_iff.1 hj).1
        have := hcell' j hjl
        simp only [World.cell?, hcs] at this
        rw [List.getD_eq_getElem?_getD, hj] at this
        exact this
      have hoff : off < cs.size := by
        have := hx 0 (zs.getD 0 0) (by rw [List.getD_eq_getElem?_getD]; cases hz0 : zs[0]? with
          | none => rw [List.getElem?_eq_none_iff] at hz0; omega
          | some y => rfl)
        rcases Nat.lt_or_ge off cs.size with h' | h'
        · exact h'
        · rw [Nat.add_zero, Array.getElem?_eq_none h'] at this; cases this
      refine law_calls h ⟨zs, off, len0⟩ ?_ (σ := [(b, cs.size)]) (sim_code hcs rfl hx) (.sl (b := b) (c := cs.size) (by rfl) hl (show off + cap0 * 0 ≤ cs.size by omega))
      by_cases hb : 4096 < len0
      · exact .inr hb
      · refine .inl ?_
        simp only [goodB, Bool.and_eq_true, decide_eq_true_eq, List.all_eq_true]
        refine ⟨⟨by omega, by omega⟩, fun n hn => ?_⟩
        exact wf_u8 (hwz n hn)
end Go.Proofs.Ytdcjjibekhcplaa

/- The statement, out of the calls of the law. -/
namespace Go.Proofs.Ytdcjjibekhcplaa
open Go.ChangeShapes Go.WideShapes Go.ChangeAt Go.RowKit Go.Ax

set_option maxRecDepth 100000 in
theorem walsh_lifted (hlaw : LawOK 6) (os : Os) (started : os.Started) (H : Type) (enc : TypeId × Value → H) :
    ReturnsInHanded {} Try.checked os 6 .any (Rows.fnWalshCodesSpec.pre6 enc Try.prog Try.f6 Rows.fnWalshCodesRow.domain false) (Rows.fnWalshCodesSpec.post enc Try.prog Try.f6 false true false false) := by
  refine returnsInHanded_of_change_shaped (C := Try.checked) Try.own started (by kernel_rfl) Try.func6
    (ChangeSpec.witness6 (enc := enc) (C := Try.checked) false ⟨#[.cells #[.int .u8 0] 5], #[.slice (some ⟨(World.settled Try.prog os).heap.size, 0, none⟩) 1 1], []⟩ 8 (by kernel_rfl) (by kernel_rfl) (by kernel_rfl) (by kernel_rfl)) ?_
  intro W base args ds gs before hval0 hW _ _ hsh _
  have hval : ∀ (j : Nat) t v, Try.f6.params[j]? = some t → args[j]? = some v → Value.okWide Try.prog W .any base t v := hval0
  have hW' := hW
  obtain ⟨p, q, hA0, hV, rfl, _, _⟩ := hW
  have hA : DataW.TrodAll enc Try.prog W 0 (fun _ => true) true Try.f6.params.toList args.toList ds p := hA0
  rw [Try.params6] at hA hval
  obtain ⟨v0, d0, rfl, rfl, h0⟩ := trodAll_one hA
  obtain ⟨rfl, rfl⟩ := trodVars_none hV
  have h0k := h0
  obtain ⟨fuel, hf⟩ := h0
  clear hA0 hval0
  simp only [List.append_nil] at hW'
  have hlt : ∀ x ∈ p, x.block < W.heap.size := fun x hx => by simpa using hW'.lt x hx
  have hargs : ∀ (W' : World), Below W.heap.size W W' → DataW.Trod enc Try.prog W' 0 (fun b => decide (b < W.heap.size)) true 22 v0 d0 p :=
    fun W' hn => Below.trod Try.laidOut (by kernel_rfl) (of_decide_eq_true (by kernel_rfl)) h0k hn hlt
  refine (law_any hlaw hsh hf (okWide_slice Try.underlying22 (hval 0 22 v0 rfl rfl))).mono fun e W' ⟨he, hn⟩ => ?_
  subst he
  exact ⟨_, rfl, ⟨_, _, _, [], _, [], hW', trodAll_mk1 (shut_bool Try.underlying4 true), trodAll_mk1 (hargs _ hn), rfl, hn.frame _, fun h => by cases h⟩⟩
theorem walsh_said (hlaw : LawOK 6) : Rows.FnWalshCodesSaid :=
  OpenClaim.holds_of_wide 6 Try.f6 rfl rfl rfl rfl rfl rfl rfl ⟨rfl, rfl, rfl, rfl, rfl⟩ rfl rfl rfl rfl rfl (by kernel_rfl) Try.func6 (by kernel_rfl)
    (of_decide_eq_true (by kernel_rfl)) (by unfold Func.isWrapper; rw [if_neg (by decide +kernel)]; exact ⟨rfl, rfl⟩)
    (fun os started H enc _ => walsh_lifted hlaw os started H enc)
end Go.Proofs.Ytdcjjibekhcplaa
