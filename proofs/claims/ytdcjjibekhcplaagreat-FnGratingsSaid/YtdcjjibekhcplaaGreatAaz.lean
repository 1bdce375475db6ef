/- The plain law of gratings: masks. -/
import Derived.Test.YtdcjjibekhcplaaGreatAay
import Derived.Test.YtdcjjibekhcplaaGreatRows
import Derived.ProofKit
import Derived.HandedShaped
namespace Go.Ax
open Go Go.Proofs

theorem eqZX_of {X Y : Nat → Nat × Nat} (h : ∀ j, feq .f32 (X j).1 (Y j).1 = true ∧ feq .f32 (X j).2 (Y j).2 = true) : ∀ m j, eqZX X Y m j = true
  | 0, _ => rfl
  | m + 1, j => by simp only [eqZX, h j, Bool.and_self, eqZX_of h m]
theorem eqZ_of {n : Int} {X Y : Nat → Nat × Nat} (h : ∀ j, feq .f32 (X j).1 (Y j).1 = true ∧ feq .f32 (X j).2 (Y j).2 = true) : eqZ n X n Y = true := by
  simp [eqZ, eqZX_of h]
theorem eqZX_lt {X Y : Nat → Nat × Nat} : ∀ m j, (∀ i, i < m → feq .f32 (X (j + i)).1 (Y (j + i)).1 = true ∧ feq .f32 (X (j + i)).2 (Y (j + i)).2 = true) → eqZX X Y m j = true
  | 0, _, _ => rfl
  | m + 1, j, h => by
    have h0 := h 0 (by omega)
    rw [Nat.add_zero] at h0
    have h1 := eqZX_lt (X := X) (Y := Y) m (j + 1) fun i hi => by have := h (i + 1) (by omega); rwa [show j + (i + 1) = j + 1 + i by omega] at this
    simp only [eqZX, h0, Bool.and_self, Bool.true_and]
    exact h1
theorem eqZ_lt {n : Int} {X Y : Nat → Nat × Nat} (h : ∀ j, j < 64 → feq .f32 (X j).1 (Y j).1 = true ∧ feq .f32 (X j).2 (Y j).2 = true) : eqZ n X n Y = true := by
  have := eqZX_lt (X := X) (Y := Y) 64 0 fun i hi => by rw [Nat.zero_add]; exact h i hi
  simp [eqZ, this]
theorem neZ_self {C : Int} {E : Bool} (h : E = true) : neZ C C E = false := by
  unfold neZ
  rw [eqQ_eq, h]; simp
theorem plus_one : plusF oneF = oneF := by kernel_rfl
theorem feq_11 : feq .f32 oneF oneF = true := by kernel_rfl
/-- A mask by its open cells. -/
def mk (p : Nat → Bool) (j : Nat) : Nat × Nat := (cond (p j) oneF 0, 0)
def opn (n : Int) (bad : Bool) (t : Nat → Bool) (j : Nat) : Bool := (grOK n bad && Nat.blt j (n.toNat * n.toNat)) && t j
theorem grX_bit (n : Int) (bad : Bool) (t : Nat → Bool) : grX n bad (bit t) (zer t) = mk (opn n bad t) := funext fun j => by
  unfold grX mk opn bit zer
  cases grOK n bad && Nat.blt j (n.toNat * n.toNat) with
  | false => rfl
  | true =>
    cases t j with
    | false => simp [plus_zero]
    | true => simp only [cond_true, Bool.and_self, plus_zero]; exact Prod.ext plus_one rfl
theorem mk_self (p : Nat → Bool) (j : Nat) : feq .f32 (mk p j).1 (mk p j).1 = true ∧ feq .f32 (mk p j).2 (mk p j).2 = true := by
  unfold mk
  cases p j
  · exact ⟨feq_zz, feq_zz⟩
  · exact ⟨feq_11, feq_zz⟩
theorem grE_bit (n : Int) (bad : Bool) (t : Nat → Bool) : grE n bad (bit t) (zer t) = true := by
  unfold grE
  rw [grX_bit]
  exact eqZ_of fun j => mk_self _ j
theorem ph_all : ((List.range 64).all fun j => feq .f32 (phXs.getD j 0) (phXs.getD j 0) && feq .f32 (phYs.getD j 0) (phYs.getD j 0)) = true := by kernel_rfl
theorem ph_self (k : Int) : feq .f32 (phX k) (phX k) = true ∧ feq .f32 (phY k) (phY k) = true := by
  have hj : (k % 64).toNat < 64 := by omega
  have h := List.all_eq_true.1 ph_all (k % 64).toNat (by simpa using hj)
  rw [Bool.and_eq_true] at h
  have hk : k % 64 = ((k % 64).toNat : Int) := by omega
  constructor
  · unfold phX
    generalize (k % 64).toNat = j at hk hj h
    rw [hk, chain_get _ _ 63 (by omega)]; exact h.1
  · unfold phY
    generalize (k % 64).toNat = j at hk hj h
    rw [hk, chain_get _ _ 63 (by omega)]; exact h.2
theorem grE_ph (n : Int) (bad : Bool) (k : Nat → Int) : grE n bad (fun j => phX (k j)) (fun j => phY (k j)) = true := by
  unfold grE
  refine eqZ_of fun j => ?_
  unfold grX
  cases grOK n bad && Nat.blt j (n.toNat * n.toNat) with
  | false => exact ⟨feq_zz, feq_zz⟩
  | true =>
    simp only [(plus_phx (k j)).1, (plus_phx (k j)).2]
    exact ph_self (k j)
theorem slE_no (n x w : Int) : slE n x w = false := neZ_self (grE_bit _ _ _)
theorem diE_no (n v u r : Int) : diE n v u r = false := neZ_self (grE_bit _ _ _)
theorem grNe_no (n : Int) (bad : Bool) : grNe n bad = false := by unfold grNe; rw [eqQ_eq]; simp
theorem grF_bit (n : Int) (bad : Bool) (t : Nat → Bool) : grF n bad (bit t) (zer t) = false := by unfold grF; rw [grE_bit]; rfl
theorem grF_ph (n : Int) (bad : Bool) (k : Nat → Int) : grF n bad (fun j => phX (k j)) (fun j => phY (k j)) = false := by unfold grF; rw [grE_ph]; rfl
theorem allE_no (c : Cd) : allE c = false := by
  unfold allE
  simp only [grNe_no, grF_bit, grF_ph, cond_false]
/-! ### Masks -/
theorem oc_one : oC (oneF, 0) = true := by kernel_rfl
theorem oc_zero : oC (0, 0) = false := by kernel_rfl
theorem zc_zero : zC (0, 0) = true := by kernel_rfl
theorem one_whole : wholeB (oneF, 0) = true := by kernel_rfl
theorem mk_oC (p : Nat → Bool) (j : Nat) : oC (mk p j) = p j := by
  unfold mk
  cases p j
  · exact oc_zero
  · exact oc_one
theorem mk_isMask {n : Int} {p : Nat → Bool} (hs : sideB n = true) (hp : ∀ j, n.toNat * n.toNat ≤ j → p j = false) : isMaskB n (mk p) = true := by
  unfold isMaskB
  rw [Bool.and_eq_true]
  refine ⟨(maskF_iff _ 64 0).2 fun i _ => ?_, isWaveB_iff.2 ⟨sideB_iff.1 hs, fun j _ => ?_⟩⟩
  · unfold mk
    cases p (0 + i)
    · exact .inl zc_zero
    · exact .inr oc_one
  · refine ⟨?_, fun hle => ?_⟩
    · unfold mk
      cases p j
      · exact zz_whole
      · exact one_whole
    · unfold mk; rw [hp j hle]; exact zz_zero
theorem opn_tail {n : Int} {bad : Bool} {t : Nat → Bool} {j : Nat} (h : n.toNat * n.toNat ≤ j) : opn n bad t j = false := by
  unfold opn
  cases hb : Nat.blt j (n.toNat * n.toNat) with
  | true => have := blt_true hb; omega
  | false => simp
theorem opn_mask {n : Int} {bad : Bool} {t : Nat → Bool} (hs : sideB n = true) : isMaskB n (mk (opn n bad t)) = true := mk_isMask hs fun _ h => opn_tail h
theorem grC_zero {n : Int} {bad : Bool} (h : eqQ false (grC n bad) 0 = true) : grOK n bad = true ∧ sideB n = true ∧ bad = false ∧ grS n bad = n := by
  unfold grC at h
  cases hg : grOK n bad with
  | false => rw [hg] at h; cases h
  | true =>
    have hg' := hg
    unfold grOK at hg'
    rw [Bool.and_eq_true] at hg'
    exact ⟨rfl, hg'.1, by simpa using hg'.2, by unfold grS; rw [hg]; rfl⟩
/-! ### What is open of a slit -/
def openP (n : Nat) (p : Nat → Bool) : List Int := (List.range n).map fun r => Int.ofNat (cntN p (n * r) n)
theorem slit_all : ([1, 2, 4, 8] : List Nat).all (fun n => (slP n).all fun q => suA (openP n fun j => Nat.blt j (n * n) && slT (Int.ofNat n) (Int.ofNat q.1) (Int.ofNat q.2) j) n == wr (Int.ofNat n * Int.ofNat q.2)) = true := by decide +kernel
theorem openL_mk (n : Int) (p : Nat → Bool) : openL n (mk p) = openP n.toNat p := by
  unfold openL openP
  refine List.map_congr_left fun r _ => ?_
  rw [cntN_congr (q := p) fun i _ => mk_oC p _]
theorem openL_re {n : Int} (hs : sideB n = true) (X : Nat → Nat × Nat) : openL n (reX X) = openL n X := by
  unfold openL
  refine List.map_congr_left fun r hr => ?_
  have h : cntN (fun j => oC (reX X j)) (n.toNat * r) n.toNat = cntN (fun j => oC (X j)) (n.toNat * r) n.toNat := cntN_congr fun i hi => by
    have := cell_lt hs (List.mem_range.1 hr) hi
    show oC (reX X (n.toNat * r + i)) = oC (X (n.toNat * r + i))
    rw [reX_eq (by omega)]
  rw [h]
theorem slit_sum {n x w : Int} (h : eqQ false (grC n (slB n x w)) 0 = true) : isMaskB (grS n (slB n x w)) (reX (grX n (slB n x w) (bit (slT n x w)) (zer (slT n x w)))) = true ∧
    eqQ false (suA (openL (grS n (slB n x w)) (reX (grX n (slB n x w) (bit (slT n x w)) (zer (slT n x w))))) (openL (grS n (slB n x w)) (reX (grX n (slB n x w) (bit (slT n x w)) (zer (slT n x w))))).length) (wr (n * w)) = true ∧
    allT [true, decide ((grS n (slB n x w)).toNat = (openL (grS n (slB n x w)) (reX (grX n (slB n x w) (bit (slT n x w)) (zer (slT n x w))))).length), decide ((grS n (slB n x w)).toNat ≤ 5000)] = true := by
  obtain ⟨h1, hs, hb, e⟩ := grC_zero h
  rw [e, grX_bit, isMaskB_re, openL_re hs, openL_mk]
  have hl : (openP n.toNat (opn n (slB n x w) (slT n x w))).length = n.toNat := by simp [openP]
  refine ⟨opn_mask hs, ?_, ?_⟩
  · rw [hl]
    obtain ⟨a, b, rfl, rfl, h2, h3⟩ := slB_good hs hb
    have eo : opn n (slB n (Int.ofNat a) (Int.ofNat b)) (slT n (Int.ofNat a) (Int.ofNat b)) = fun j => Nat.blt j (n.toNat * n.toNat) && slT n (Int.ofNat a) (Int.ofNat b) j := funext fun j => by
      unfold opn; rw [h1]; rfl
    rw [eo]
    have hn : n.toNat = 1 ∨ n.toNat = 2 ∨ n.toNat = 4 ∨ n.toNat = 8 := (side_nat hs).1
    have en : Int.ofNat n.toNat = n := by
      rcases sideB_iff.1 hs with rfl | rfl | rfl | rfl <;> rfl
    have k := List.all_eq_true.1 (List.all_eq_true.1 slit_all n.toNat (by rcases hn with h | h | h | h <;> simp [h])) (a, b) (slP_mem h2 h3)
    simp only [en] at k
    rw [eqQ_eq]
    exact k
  · rw [hl]
    have := (side_nat hs).2
    have h4 : n.toNat ≤ 5000 := by rcases (side_nat hs).1 with h | h | h | h <;> omega
    simp [allT, h4]
/-! ### Discs grow -/
theorem boE_no {n v u r : Int} (h : cond (eqQ false (grC n (diB n v u r)) 0) (ltQ false r 1000) false = true) : boE n v u r (grS n (diB n v u r)) (grX n (diB n v u r) (bit (diT n v u r)) (zer (diT n v u r))) = false := by
  cases hC : eqQ false (grC n (diB n v u r)) 0 with
  | false => rw [hC] at h; cases h
  | true =>
    rw [hC, cond_true, ltQ_eq, decide_eq_true_eq] at h
    obtain ⟨h1, hs, hb, e⟩ := grC_zero hC
    have hb' := hb
    unfold diB at hb'
    cases hc : ctr n v u with
    | false => rw [hc] at hb'; cases hb'
    | true =>
      rw [hc] at hb'
      have hr := inR_iff.1 (show inR 0 r 1000 = true by simpa using hb')
      have er : wr (r + 1) = r + 1 := w64_id (by omega)
      have hb2 : diB n v u (r + 1) = false := by
        unfold diB
        rw [hc, inR_iff.2 (show (0 : Int) ≤ r + 1 ∧ r + 1 ≤ 1000 by omega)]
        rfl
      have hg2 : grOK n (diB n v u (r + 1)) = true := by unfold grOK; rw [hs, hb2]; rfl
      have e2 : grS n (diB n v u (r + 1)) = n := by unfold grS; rw [hg2]; rfl
      have e3 : grC n (diB n v u (r + 1)) = 0 := by unfold grC; rw [hg2]; rfl
      unfold boE moX
      rw [er, e, e2, e3, grX_bit, grX_bit, isMaskB_re, isMaskB_re, opn_mask hs, opn_mask hs]
      have eq1 : eqQ false n n = true := by rw [eqQ_eq]; simp
      rw [eq1]
      have eZ : eqZ n (pairX n true true true (inZ (reX (mk (opn n (diB n v u r) (diT n v u r)))) (reX (mk (opn n (diB n v u (r + 1)) (diT n v u (r + 1))))))) n (mk (opn n (diB n v u r) (diT n v u r))) = true := by
        refine eqZ_lt fun j hj => ?_
        have ep : pairX n true true true (inZ (reX (mk (opn n (diB n v u r) (diT n v u r)))) (reX (mk (opn n (diB n v u (r + 1)) (diT n v u (r + 1)))))) j = mk (opn n (diB n v u r) (diT n v u r)) j := by
          unfold pairX inZ
          rw [reX_eq hj, reX_eq hj, mk_oC, mk_oC]
          unfold mk
          cases hbl : Nat.blt j (n.toNat * n.toNat) with
          | false =>
            have : opn n (diB n v u r) (diT n v u r) j = false := by unfold opn; rw [hbl]; simp
            rw [this]; rfl
          | true =>
            have o1 : opn n (diB n v u r) (diT n v u r) j = diT n v u r j := by unfold opn; rw [hbl, h1]; rfl
            have o2 : opn n (diB n v u (r + 1)) (diT n v u (r + 1)) j = diT n v u (r + 1) j := by unfold opn; rw [hbl, hg2]; rfl
            rw [o1, o2]
            cases hd : diT n v u r j with
            | false => simp [plus_zero]
            | true =>
              have : diT n v u (r + 1) j = true := by
                unfold diT at hd ⊢
                rw [leQ_eq, decide_eq_true_eq] at hd ⊢
                omega
              rw [this]
              simp only [Bool.and_self, cond_true]
              exact Prod.ext plus_one plus_zero
        rw [ep]
        exact mk_self _ j
      simp only [twoW, Bool.not_true, cond_false]
      rw [eZ]
      rfl
end Go.Ax

/- The plain law of gratings: four quarter turns. -/
namespace Go.Ax
open Go Go.Proofs

theorem feq_back {x : Nat} (h : feq .f32 x 0 = true) : feq .f32 0 x = true := by
  have h0 : fint 0 = some 0 := by kernel_rfl
  have := feq_fin' h h0
  rw [feq_fint h0 this]; rfl
theorem plusF_idem (x : Nat) : plusF (plusF x) = plusF x := by
  cases h : feq .f32 x 0 with
  | true => rw [plusF_zero h]; exact plus_zero
  | false =>
    have e : plusF x = x := by unfold plusF; rw [h]; rfl
    rw [e, e]
theorem plusF_fin {x : Nat} (h : finB x = true) : finB (plusF x) = true := by
  cases h0 : feq .f32 x 0 with
  | true => rw [plusF_zero h0]; kernel_rfl
  | false =>
    have e : plusF x = x := by unfold plusF; rw [h0]; rfl
    rw [e]; exact h
theorem plusF_like {x : Nat} (h : finB x = true) : feq .f32 (plusF x) x = true := by
  cases h0 : feq .f32 x 0 with
  | true => rw [plusF_zero h0]; exact feq_back h0
  | false =>
    have e : plusF x = x := by unfold plusF; rw [h0]; rfl
    rw [e]; exact feq_self h
def plP (z : Nat × Nat) : Nat × Nat := (plusF z.1, plusF z.2)
theorem plP_idem (z : Nat × Nat) : plP (plP z) = plP z := Prod.ext (plusF_idem _) (plusF_idem _)
theorem tuY_at {m : Int} {X : Nat → Nat × Nat} (hw : isWaveB m X = true) (j : Nat) : tuY m X j = match Nat.blt j (m.toNat * m.toNat) with
    | true => plP (X (tuI m.toNat j))
    | false => (0, 0) := by
  obtain ⟨h1, h2⟩ := side_nat (wave_side hw)
  unfold tuY turnX
  rw [isWaveB_re, hw, Bool.true_and]
  cases hb : Nat.blt j (m.toNat * m.toNat) with
  | false => rfl
  | true =>
    have := tuI_lt h1 (blt_true hb)
    simp only []
    rw [reX_eq (by omega)]
    rfl
theorem tuY_wave {m : Int} {X : Nat → Nat × Nat} (hw : isWaveB m X = true) : isWaveB m (tuY m X) = true := by
  have hs := wave_side hw
  obtain ⟨h1, h2⟩ := side_nat hs
  refine isWaveB_iff.2 ⟨sideB_iff.1 hs, fun j hj => ?_⟩
  rw [tuY_at hw]
  cases hb : Nat.blt j (m.toNat * m.toNat) with
  | false => exact ⟨zz_whole, fun _ => zz_zero⟩
  | true =>
    have hlt := tuI_lt h1 (blt_true hb)
    have hx := wholeB_iff.1 ((isWaveB_iff.1 hw).2 (tuI m.toNat j) (by omega)).1
    exact ⟨wholeB_iff.2 ⟨plusF_fin hx.1, plusF_fin hx.2⟩, fun hle => by have := blt_true hb; omega⟩
theorem tuS_at {m : Int} {X : Nat → Nat × Nat} (hw : isWaveB m X = true) : tuS m X = m ∧ tuC m X = 0 := by
  unfold tuS tuC
  rw [isWaveB_re, hw]
  exact ⟨rfl, rfl⟩
theorem four_all : ([1, 2, 4, 8] : List Nat).all (fun n => (List.range (n * n)).all fun j => Nat.beq (tuI n (tuI n (tuI n (tuI n j)))) j) = true := by decide +kernel
theorem four {n j : Nat} (hn : n = 1 ∨ n = 2 ∨ n = 4 ∨ n = 8) (hj : j < n * n) : tuI n (tuI n (tuI n (tuI n j))) = j := by
  have h := List.all_eq_true.1 (List.all_eq_true.1 four_all n (by rcases hn with rfl | rfl | rfl | rfl <;> simp)) j (List.mem_range.2 hj)
  exact Nat.eq_of_beq_eq_true h
theorem lt_blt {a b : Nat} (h : a < b) : Nat.blt a b = true := by
  cases hb : Nat.blt a b with
  | true => rfl
  | false => have := blt_false hb; omega
theorem turn_self (m : Int) (X : Nat → Nat × Nat) : eqZ (tuS m X) (tuY m X) (tuS m X) (tuY m X) = true := by
  refine eqZ_of fun j => ?_
  cases hw : isWaveB m X with
  | false =>
    have : tuY m X j = (0, 0) := by unfold tuY turnX; rw [isWaveB_re, hw]; rfl
    rw [this]; exact ⟨feq_zz, feq_zz⟩
  | true =>
    rw [tuY_at hw]
    obtain ⟨h1, h2⟩ := side_nat (wave_side hw)
    cases hb : Nat.blt j (m.toNat * m.toNat) with
    | false => exact ⟨feq_zz, feq_zz⟩
    | true =>
      have hlt := tuI_lt h1 (blt_true hb)
      have hx := wholeB_iff.1 ((isWaveB_iff.1 hw).2 (tuI m.toNat j) (by omega)).1
      exact ⟨feq_plus hx.1, feq_plus hx.2⟩
theorem turns_back {m : Int} {X : Nat → Nat × Nat} (hw : isWaveB m X = true) :
    tuC (tuS m X) (tuY m X) = 0 ∧ tuC (m2 (tuS m X) (tuY m X)) (Y2 (tuS m X) (tuY m X)) = 0 ∧ tuC (m3 (tuS m X) (tuY m X)) (Y3 (tuS m X) (tuY m X)) = 0 ∧ eqZ (m4 (tuS m X) (tuY m X)) (Y4 (tuS m X) (tuY m X)) m X = true := by
  have w1 := tuY_wave hw
  have w2 := tuY_wave w1
  have w3 := tuY_wave w2
  rw [(tuS_at hw).1]
  have e2 : m2 m (tuY m X) = m := (tuS_at w1).1
  have e2' : Y2 m (tuY m X) = tuY m (tuY m X) := rfl
  have e3 : m3 m (tuY m X) = m := by unfold m3; rw [e2, e2']; exact (tuS_at w2).1
  have e3' : Y3 m (tuY m X) = tuY m (tuY m (tuY m X)) := by unfold Y3; rw [e2, e2']
  have e4 : m4 m (tuY m X) = m := by unfold m4; rw [e3, e3']; exact (tuS_at w3).1
  have e4' : Y4 m (tuY m X) = tuY m (tuY m (tuY m (tuY m X))) := by unfold Y4; rw [e3, e3']
  rw [e2, e2', e3, e3', e4, e4']
  refine ⟨(tuS_at w1).2, (tuS_at w2).2, (tuS_at w3).2, eqZ_lt fun j hj => ?_⟩
  obtain ⟨h1, h2⟩ := side_nat (wave_side hw)
  have hx := (isWaveB_iff.1 hw).2 j hj
  cases hb : Nat.blt j (m.toNat * m.toNat) with
  | false =>
    rw [tuY_at w3, hb]
    have hz := hx.2 (by have := blt_false hb; omega)
    unfold zeroB at hz
    rw [Bool.and_eq_true] at hz
    exact ⟨feq_back hz.1, feq_back hz.2⟩
  | true =>
    have l0 := blt_true hb
    have l1 := tuI_lt h1 l0
    have l2 := tuI_lt h1 l1
    have l3 := tuI_lt h1 l2
    rw [tuY_at w3, lt_blt l0]
    simp only []
    rw [tuY_at w2, lt_blt l1]
    simp only []
    rw [tuY_at w1, lt_blt l2]
    simp only []
    rw [tuY_at hw, lt_blt l3]
    simp only []
    rw [four h1 l0, plP_idem, plP_idem, plP_idem]
    obtain ⟨a, b⟩ := wholeB_iff.1 hx.1
    exact ⟨plusF_like a, plusF_like b⟩
end Go.Ax

/- The law of gratings comes back with true. -/
namespace Go.Ax
open Go Go.Proofs

theorem lwAt0 : lwAt 0 = [.code lwC] := rfl
theorem law3_call {c : Cd} {t : List AV} {H' : List AB} {l : Bool} (he : Ends Tryz.prog (lwAt 0) (s0 c) [codeB c false] t H') (hr : resV Tryz.prog t H' Tryz.f3.results.toList = some ([.b l true], [])) : ∃ H', CallOK Tryz.prog 3 [.sl false 0 c.off c.len 0] [codeB c false] (.b false true) H' := by
  have hb : Tryz.f3.body = some lwC := rfl
  have k := call_of_ends (args := [.sl false 0 c.off c.len 0]) (m := []) Tryz.func3 hb he hr rfl
  exact ⟨H', k.weaken fun σ x r => by cases r; exact .b _⟩
theorem k10_low (c : Cd) : belowL 1 (tmpsOf 372 (k10 c)) = true := by kernel_rfl
theorem k8_low (c : Cd) (n w C : Int) : belowL 2 (tmpsOf 372 (k8 c n w C)) = true := by kernel_rfl
theorem k15_low (c : Cd) (n v u r C : Int) : belowL 2 (tmpsOf 372 (k15 c n v u r C)) = true := by kernel_rfl
theorem k39_low (C : Int) : belowL 3 (tmpsOf 372 (k39 C)) = true := by kernel_rfl
theorem wvB_low (m : Int) (Y : Nat → Nat × Nat) (n : Nat) : belowB n (wvB m Y) = true := by
  have : ∀ l : List Nat, belowL n (l.map (cx Y)) = true := fun l => by
    induction l with
    | nil => rfl
    | cons j l ih => simp [belowL, below, cx, ih]
  simp [wvB, belowB, waveL, belowL, below, this]
theorem cB_low (c : Cd) (n : Nat) : belowB n (codeB c false) = true := rfl
theorem h1_low (c : Cd) (n : Nat) : belowH n [codeB c false] = true := by simp only [belowH, cB_low, Bool.and_self]
theorem h2_low (c : Cd) (n : Nat) (m : Int) (Y : Nat → Nat × Nat) : belowH n [codeB c false, wvB m Y] = true := by simp only [belowH, cB_low, wvB_low, Bool.and_self]
theorem h3_low (c : Cd) (n : Nat) (m : Int) (Y : Nat → Nat × Nat) (m1 : Int) (Y1 : Nat → Nat × Nat) : belowH n [codeB c false, wvB m Y, wvB m1 Y1] = true := by simp only [belowH, cB_low, wvB_low, Bool.and_self]
theorem law3_ok (c : Cd) (hc : goodB c = true ∨ 4096 < c.len) : ∃ H', CallOK Tryz.prog 3 [.sl false 0 c.off c.len 0] [codeB c false] (.b false true) H' := by
  cases hb : ltQ false 4096 (c.len : Int) with
  | true =>
    have h0 := z1_big c
    simp only [Prod.mk.injEq] at h0
    obtain ⟨t, H', e1, e2⟩ := endV_ends (stop := atCut 28) (n := 2000) (L := lwAt 0) (p := [true]) (t0 := s0 c) (H0 := [codeB c false]) tabL3_sound (by
      show allT (condsP (z1 c) [true]) = true
      rw [h0.1, hb]; rfl) h0.2 rfl
    exact law3_call e1 e2
  | false =>
    have hg : goodB c = true := by
      rcases hc with h | h
      · exact h
      · rw [ltQ_eq] at hb
        simp at hb; omega
    have hok : okB c c.off c.len = true := by simp [okB, hg]
    -- slits
    have r1 : Reach Tryz.prog (lwAt 0) (s0 c) [codeB c false] (lwAt 7) (tmpsOf 372 (k10 c)) [codeB c false] := by
      have h1 := z1_ok c
      simp only [Prod.mk.injEq] at h1
      have ra := way_keep (P := Tryz.prog) (T := tabL3) (stop := atCut 28) (n := 2000) (k := 2) (L := lwAt 0) (p := [false, false]) (M := M8) (t0 := s0 c) (H0 := [codeB c false]) tabL3_sound (by
        show allT (condsP (z1 c) [false, false]) = true
        rw [h1.1, hb, slE_no]; rfl) h1.2 (by simp [allT, hok]) (by simp) (k8_low _ _ _ _) (h2_low _ _ _ _)
      generalize (d6 c).1 = n at ra
      generalize (d6 c).2.1 = x at ra
      generalize (d6 c).2.2 = w at ra
      cases hC : eqQ false (grC n (slB n x w)) 0 with
      | false =>
        have h2 := z2_no c n w (grC n (slB n x w)) (grS n (slB n x w)) (grX n (slB n x w) (bit (slT n x w)) (zer (slT n x w)))
        simp only [Prod.mk.injEq] at h2
        obtain ⟨G, rb⟩ := way_pre (P := Tryz.prog) (T := tabL3) (stop := atCut 27) (n := 2000) (k := 1) (L := lwAt 6) (p := [false]) (M := M10) tabL3_sound (by
          show allT (condsP (z2 c n w (grC n (slB n x w)) (grS n (slB n x w)) (grX n (slB n x w) (bit (slT n x w)) (zer (slT n x w)))) [false]) = true
          rw [h2.1, hC]; rfl) h2.2 rfl
        exact (ra.trans rb).keep (by simp) (k10_low c) (h1_low c _)
      | true =>
        obtain ⟨g1, g2, g3⟩ := slit_sum hC
        have h2 := z2_ok c n w (grC n (slB n x w)) (grS n (slB n x w)) (grX n (slB n x w) (bit (slT n x w)) (zer (slT n x w)))
        simp only [Prod.mk.injEq] at h2
        obtain ⟨G, rb⟩ := way_pre (P := Tryz.prog) (T := tabL3) (stop := atCut 27) (n := 2000) (k := 1) (L := lwAt 6) (p := [true, true, false]) (M := M10) tabL3_sound (by
          show allT (condsP (z2 c n w (grC n (slB n x w)) (grS n (slB n x w)) (grX n (slB n x w) (bit (slT n x w)) (zer (slT n x w)))) [true, true, false]) = true
          rw [h2.1, hC, g1, g2]; rfl) h2.2 g3
        exact (ra.trans rb).keep (by simp) (k10_low c) (h1_low c _)
    -- discs
    have r2 : Reach Tryz.prog (lwAt 0) (s0 c) [codeB c false] (lwAt 12) (tmpsOf 372 (k10 c)) [codeB c false] := by
      have h1 := z3_ok c
      simp only [Prod.mk.injEq] at h1
      have ra := r1.trans (way_keep (P := Tryz.prog) (T := tabL3) (stop := atCut 23) (n := 2000) (k := 2) (L := lwAt 7) (p := [false]) (M := M15) (t0 := tmpsOf 372 (k10 c)) (H0 := [codeB c false]) tabL3_sound (by
        show allT (condsP (z3 c) [false]) = true
        rw [h1.1, diE_no]; rfl) h1.2 (by simp [allT, hok]) (by simp) (k15_low _ _ _ _ _ _) (h2_low _ _ _ _))
      generalize (d11 c).1 = n at ra
      generalize (d11 c).2.1 = v at ra
      generalize (d11 c).2.2.1 = u at ra
      generalize (d11 c).2.2.2 = r at ra
      cases hC : cond (eqQ false (grC n (diB n v u r)) 0) (ltQ false r 1000) false with
      | false =>
        have h2 := z4_no c n v u r (grC n (diB n v u r)) (grS n (diB n v u r)) (grX n (diB n v u r) (bit (diT n v u r)) (zer (diT n v u r)))
        simp only [Prod.mk.injEq] at h2
        obtain ⟨G, rb⟩ := way_pre (P := Tryz.prog) (T := tabL3) (stop := atCut 22) (n := 2000) (k := 1) (L := lwAt 11) (p := [false]) (M := M10) tabL3_sound (by
          show allT (condsP (z4 c n v u r (grC n (diB n v u r)) (grS n (diB n v u r)) (grX n (diB n v u r) (bit (diT n v u r)) (zer (diT n v u r)))) [false]) = true
          rw [h2.1, hC]; rfl) h2.2 rfl
        exact (ra.trans rb).keep (by simp) (k10_low c) (h1_low c _)
      | true =>
        have h2 := z4_ok c n v u r (grC n (diB n v u r)) (grS n (diB n v u r)) (grX n (diB n v u r) (bit (diT n v u r)) (zer (diT n v u r)))
        simp only [Prod.mk.injEq] at h2
        obtain ⟨G, rb⟩ := way_pre (P := Tryz.prog) (T := tabL3) (stop := atCut 22) (n := 2000) (k := 1) (L := lwAt 11) (p := [true, false]) (M := M10) tabL3_sound (by
          show allT (condsP (z4 c n v u r (grC n (diB n v u r)) (grS n (diB n v u r)) (grX n (diB n v u r) (bit (diT n v u r)) (zer (diT n v u r)))) [true, false]) = true
          rw [h2.1, hC, boE_no hC]; rfl) h2.2 rfl
        exact (ra.trans rb).keep (by simp) (k10_low c) (h1_low c _)
    -- gratings, checks, zones, blazed gratings, lenses
    have r3 : Reach Tryz.prog (lwAt 0) (s0 c) [codeB c false] (lwAt 28) (tmpsOf 372 (k10 c)) [codeB c false] := by
      have h1 := z5_ok c
      simp only [Prod.mk.injEq] at h1
      obtain ⟨G, rb⟩ := way_pre (P := Tryz.prog) (T := tabL3) (stop := atCut 6) (n := 4000) (k := 1) (L := lwAt 12) (p := [false]) (M := M10) (t0 := tmpsOf 372 (k10 c)) (H0 := [codeB c false]) tabL3_sound (by
        show allT (condsP (z5 c) [false]) = true
        rw [h1.1, allE_no]; rfl) h1.2 (by rw [hok]; rfl)
      exact (r2.trans rb).keep (by simp) (k10_low c) (h1_low c _)
    -- quarter turns
    have h6 := z6_ok c
    simp only [Prod.mk.injEq] at h6
    have r4 := r3.trans (way_keep (P := Tryz.prog) (T := tabL3) (stop := atCut 2) (n := 2000) (k := 3) (L := lwAt 28) (p := [false]) (M := M39) (t0 := tmpsOf 372 (k10 c)) (H0 := [codeB c false]) tabL3_sound (by
      show allT (condsP (z6 c) [false]) = true
      rw [h6.1, neZ_self (turn_self _ _)]; rfl) h6.2 (by simp [allT, hok]) (by simp) (k39_low _) (h3_low _ _ _ _ _ _))
    generalize (d30 c).1 = m at r4
    generalize (d30 c).2 = X at r4
    cases hw : isWaveB m X with
    | false =>
      have eC : tuC m X = 1 := by unfold tuC; rw [isWaveB_re, hw]; rfl
      have h7 := z7_no c (tuC m X) m X (tuS m X) (tuY m X)
      simp only [Prod.mk.injEq] at h7
      obtain ⟨t, H', e1, e2⟩ := endV_ends (stop := atCut 99) (n := 2000) (L := lwAt 32) (p := [false]) tabL3_sound (by
        show allT (condsP (z7 c (tuC m X) m X (tuS m X) (tuY m X)) [false]) = true
        rw [h7.1, eC]; rfl) h7.2 rfl
      have ev : cond (!eqQ false (tuC m X) 0) true (eqZ (tuS m X) (tuY m X) m X) = true := by rw [eC]; rfl
      rw [ev] at e2
      exact law3_call (r4.ends e1) e2
    | true =>
      have eC : tuC m X = 0 := (tuS_at hw).2
      obtain ⟨g1, g2, g3, g4⟩ := turns_back hw
      have h7 := z7_ok c (tuC m X) m X (tuS m X) (tuY m X)
      simp only [Prod.mk.injEq] at h7
      obtain ⟨t, H', e1, e2⟩ := endV_ends (stop := atCut 99) (n := 2000) (L := lwAt 32) (p := [true, false, true, false, true, false]) tabL3_sound (by
        show allT (condsP (z7 c (tuC m X) m X (tuS m X) (tuY m X)) [true, false, true, false, true, false]) = true
        rw [h7.1, g1, g2, g3, eC]; rfl) h7.2 rfl
      have ev : cond (!eqQ false (tuC m X) 0) true (eqZ (m4 (tuS m X) (tuY m X)) (Y4 (tuS m X) (tuY m X)) m X) = true := by rw [eC, g4]; rfl
      rw [ev] at e2
      exact law3_call (r4.ends e1) e2
end Go.Ax

/- From the calls of a law on every text of bytes to the given statement. -/
namespace Go.Proofs.YtdcjjibekhcplaaGreat
open Go.ChangeShapes Go.WideShapes Go.ChangeAt Go.RowKit Go.Ax

theorem Tryz.own : ownKnob Tryz.prog.godebug = none := by kernel_rfl
theorem Tryz.laidOut : laidOutB Tryz.prog = true := by kernel_rfl
theorem cells5 : Tryz.prog.cellsOf 5 = 1 := by kernel_rfl
/-- What is to be shown of a law: it comes back with true from every text of bytes. -/
def LawOK (f : FuncId) : Prop := ∀ c : Cd, goodB c = true ∨ 4096 < c.len → ∃ H', CallOK Tryz.prog f [.sl false 0 c.off c.len 0] [codeB c false] (.b false true) H'
theorem law_calls {f : FuncId} (h : LawOK f) (c : Cd) (hc : goodB c = true ∨ 4096 < c.len) {σ : List (Nat × Nat)} {W : World} (s : Sim σ [codeB c false] W) {v : Value} (hv : Rel σ (.sl false 0 c.off c.len 0) v) :
    Calls Tryz.prog f #[v] W fun e W' => e = .returned (.bool true) ∧ Below W.heap.size W W' := by
  obtain ⟨H', k⟩ := h c hc
  refine (k σ W #[v] s (.cons hv .nil)).mono ?_
  rintro e W' ⟨rv, rfl, σ', r1, s1, F⟩
  cases r1
  refine ⟨rfl, F.os, F.tape, F.output, F.size, fun b hb => F.old b hb fun i z hr => ?_⟩
  match i with
  | 0 => simp [getB, codeB, AB.rw] at hr
  | i + 1 => simp [getB, AB.rw] at hr
theorem sim_code {W : World} {b z : Nat} {c : Cd} {cs : Array Value} {e : TypeId} {fr : Nat × Nat} (h : W.heap[b]? = some (.cells cs e fr)) (hz : cs.size = z) (hx : ∀ (j : Nat) (x : Int), c.bytes[j]? = some x → cs[c.off + j]? = some (.int .u8 x)) : Sim [(b, z)] [codeB c false] W := by
  refine ⟨rfl, fun i b' z' hb => ?_, fun i j b' z1 z2 hi hj hr _ => ?_⟩
  · match i, hb with
    | 0, hb => cases hb; exact ⟨cs, e, fr, h, hx, hz⟩
    | i + 1, hb => simp at hb
  · match i, hi with
    | 0, _ => simp [getB, codeB, AB.rw] at hr
    | i + 1, hi => simp at hi
theorem wf_u8 {n : Int} (h : (Lit.int .u8 n).wf = true) : 0 ≤ n ∧ n < 256 := by
  simp [Lit.wf, IntKind.min, IntKind.max, IntKind.signed, IntKind.bits] at h
  omega
/-- A slice of bytes that can be read, as a text of bytes. -/
theorem law_any {H : Type} {enc : TypeId × Value → H} {f : FuncId} (h : LawOK f) {W : World} (hsh : W.ShapedOpen Tryz.prog) {v : Value} {fuel : Nat} {x : DataW H × List MemPlace}
    (hf : DataW.trod enc Tryz.prog W 0 (fun _ => true) true fuel 22 v.cells.toList = some x) (hv : ∃ a len cap, v = .slice a len cap) : Calls Tryz.prog f #[v] W fun e W' => e = .returned (.bool true) ∧ Below W.heap.size W W' := by
  have nil_like : ∀ a : Option Addr, v = .slice a 0 0 → Calls Tryz.prog f #[v] W fun e W' => e = .returned (.bool true) ∧ Below W.heap.size W W' := fun a ha => by
    obtain ⟨cs, hcs, _, _⟩ := hsh.1 0 #[.bool false] 4 (of_decide_eq_true (by kernel_rfl)) (by kernel_rfl)
    refine law_calls h ⟨[], 0, 0⟩ (.inl rfl) (σ := [(0, cs.size)]) (sim_code hcs rfl fun j x hx => by simp at hx) ?_
    rw [ha]; exact .slz
  obtain ⟨a0, len0, cap0, rfl⟩ := hv
  rcases open_ints Tryz.underlying22 Tryz.underlying5 cells5 hf with ⟨hcs, _⟩ | ⟨a, len, cap, zs, hcs, _, hl, _, hz, _, hcell, hwz⟩
  · simp [Value.cells] at hcs
    obtain ⟨rfl, rfl, rfl⟩ := hcs
    exact nil_like _ rfl
  · simp [Value.cells] at hcs
    obtain ⟨rfl, rfl, rfl⟩ := hcs
    simp only [if_true] at hz
    by_cases h0 : cap0 = 0
    · have : len0 = 0 := by omega
      subst h0; subst this
      exact nil_like _ rfl
    · obtain ⟨b, off, spot⟩ := a
      have hspot : spot = none := by simpa [Addr.add] using World.cell?_spot (hcell 0 (by omega))
      subst hspot
      have hcell' : ∀ j, j < zs.length → W.cell? ⟨b, off + j, none⟩ = some (.int .u8 (zs.getD j 0)) := fun j hj => by
        have := hcell j hj
        rwa [addr_add] at this
      have h1 := hcell' 0 (by omega)
      have hblk : ∃ cs e fr, W.heap[b]? = some (.cells cs e fr) := by
        unfold World.cell? at h1
        simp only at h1
        split at h1 <;> first | exact ⟨_, _, _, by assumption⟩ | (cases h1; done)
      obtain ⟨cs, e, fr, hcs⟩ := hblk
      have hx : ∀ (j : Nat) (x : Int), zs[j]? = some x → cs[off + j]? = some (.int .u8 x) := fun j x hj => by
        have hjl : j < zs.length := (List.getElem?_eq_some_iff.1 hj).1
        have := hcell' j hjl
        simp only [World.cell?, hcs] at this
        rw [List.getD_eq_getElem?_getD, hj] at this
        exact this
      have hoff : off < cs.size := by
        have := hx 0 (zs.getD 0 0) (by rw [List.getD_eq_getElem?_getD]; cases hz0 : zs[0]? with
          | none => rw [List.getElem?_eq_none_iff] at hz0; omega
          | some y => rfl)
        rcases Nat.lt_or_ge off cs.size with h' | h'
        · exact h'
        · rw [Nat.add_zero, Array.getElem?_eq_none h'] at this; cases this
      refine law_calls h ⟨zs, off, len0⟩ ?_ (σ := [(b, cs.size)]) (sim_code hcs rfl hx) (.sl (b := b) (c := cs.size) (by rfl) hl (show off + cap0 * 0 ≤ cs.size by omega))
      by_cases hb : 4096 < len0
      · exact .inr hb
      · refine .inl ?_
        simp only [goodB, Bool.and_eq_true, decide_eq_true_eq, List.all_eq_true]
        refine ⟨⟨by omega, by omega⟩, fun n hn => ?_⟩
        exact wf_u8 (hwz n hn)
end Go.Proofs.YtdcjjibekhcplaaGreat
