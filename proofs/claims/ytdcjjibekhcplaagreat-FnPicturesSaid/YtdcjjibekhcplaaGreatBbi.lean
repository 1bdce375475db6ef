/- Gratings, discs, zones, lenses: from what is evaluated to calls, and sides that are none. -/
import Derived.Test.YtdcjjibekhcplaaGreatBbh
namespace Go.Ax
open Go Go.Proofs

def grOK (n : Int) (bad : Bool) : Bool := sideB n && !bad
def grX (n : Int) (bad : Bool) (re im : Nat → Nat) (j : Nat) : Nat × Nat := match grOK n bad && Nat.blt j (n.toNat * n.toNat) with
  | true => (plusF (re j), plusF (im j))
  | false => (0, 0)
def grR (n : Int) (bad : Bool) (re im : Nat → Nat) : AV := .tup [wv (cond (grOK n bad) n 0) (grX n bad re im), .i false .i64 (cond (grOK n bad) 0 2)]
theorem gr_rel {n : Int} {bad : Bool} {re im : Nat → Nat} (hs : sideB n = true) {σ : List (Nat × Nat)} {x : Value} (r : Rel σ (mkV (n.toNat * n.toNat) n bad re im) x) : Rel σ (grR n bad re im) x := by
  unfold mkV at r
  refine tup2_weak (l' := waveL (cond (grOK n bad) n 0) (grX n bad re im)) (c' := .i false .i64 (cond (grOK n bad) 0 2)) ?_ ?_ r
  · simp only [waveL, List.map_cons, List.map_map, AV.bare]
    have e : cond bad 0 n = cond (grOK n bad) n 0 := by unfold grOK; rw [hs]; cases bad <;> rfl
    rw [e]
    congr 1
    apply List.map_congr_left
    intro j _
    simp only [Function.comp, cx, grX]
    rw [ble_blt]
    unfold grOK
    rw [hs]
    cases hb : Nat.blt j (n.toNat * n.toNat) with
    | false => simp [AV.bare]
    | true => cases bad <;> simp [AV.bare, plus_zero]
  · unfold grOK; rw [hs]; cases bad <;> rfl
theorem gr_zero {n : Int} {bad : Bool} {re im : Nat → Nat} (hs : sideB n = false) {σ : List (Nat × Nat)} {x : Value} (r : Rel σ (zeroV 2) x) : Rel σ (grR n bad re im) x := by
  have e : grOK n bad = false := by simp [grOK, hs]
  have h := zero_wave (n := cond (grOK n bad) n 0) (X := grX n bad re im) (c := 2) (fun j => by simp [grX, e]) (by rw [e]; rfl) r
  unfold grR
  rw [e] at h ⊢
  exact h
/-- The arguments: a side, and integers. -/
def grA (l : Bool) (n : Int) (xs : List Int) : List AV := .i l .i64 n :: xs.map (.i false .i64)
theorem grA_low (l : Bool) (n : Int) (xs : List Int) : belowL 0 (grA l n xs) = true := by
  unfold grA
  have : ∀ xs : List Int, belowL 0 (xs.map (.i false .i64)) = true := fun xs => by
    induction xs with
    | nil => rfl
    | cons x xs ih => simp [belowL, below, ih]
  simp [belowL, below, this]
theorem gr_some {f : FuncId} {n : Int} {xs : List Int} {bad : Bool} {re im : Nat → Nat} {nd : List Bool} (h : rG f n xs = some (mkV (n.toNat * n.toNat) n bad re im, nd)) (hs : sideB n = true) (hn : allT nd = true) (H : List AB) : CallOK Tryz.prog f (grA false n xs) H (grR n bad re im) H :=
  ((call_of_join (args := grA true n xs) tabGr_sound h hn (grA_low true n xs) H).bare (args' := grA false n xs) rfl).weaken fun σ x r => gr_rel hs r
noncomputable def rN (f : FuncId) (n : Int) (l : List Int) : Option (AV × List Bool) := joinR 0 (tabN f (grA false n l) [] [] fun v H nd => .ret v H nd)
theorem gr_none {f : FuncId} {n : Int} {xs : List Int} {bad : Bool} {re im : Nat → Nat} (h : rN f n xs = some (zeroV 2, [!sideB n])) (hs : sideB n = false) (H : List AB) : CallOK Tryz.prog f (grA false n xs) H (grR n bad re im) H :=
  (call_of_join (args := grA false n xs) tabN_sound h (by simp [allT, hs]) (grA_low false n xs) H).weaken fun σ x r => gr_zero hs r
/-- What is known of a function: on every side, and where the side is none. -/
structure GrFn (f : FuncId) (xs : List Int) (bad : Int → Bool) (re im : Int → Nat → Nat) : Prop where
  yes : ∀ n : Int, sideB n = true → ∃ nd, rG f n xs = some (mkV (n.toNat * n.toNat) n (bad n) (re n) (im n), nd) ∧ allT nd = true
  no : ∀ n : Int, rN f n xs = some (zeroV 2, [!sideB n])
theorem GrFn.ok {f : FuncId} {xs : List Int} {bad : Int → Bool} {re im : Int → Nat → Nat} (h : GrFn f xs bad re im) (n : Int) (H : List AB) : CallOK Tryz.prog f (grA false n xs) H (grR n (bad n) (re n) (im n)) H := by
  cases hs : sideB n with
  | false => exact gr_none (h.no n) hs H
  | true =>
    obtain ⟨nd, h1, h2⟩ := h.yes n hs
    exact gr_some h1 hs h2 H
/-! ### What is to be shown -/
def ndI (bad : Bool) (e : List Bool) (N : Nat) (t : Nat → Bool) : List Bool := [cond (!bad) (andT ((List.range N).flatMap fun k => [cond (t (N - 1 - k)) (andT e) true, cond (!t (N - 1 - k)) (andT e) true])) true]
def ndS (bad : Bool) (e : Bool) (m : Nat) : List Bool := [cond (!bad) (andT (List.replicate m e)) true]
theorem andT_of {l : List Bool} (h : ∀ b ∈ l, b = true) : andT l = true := by rw [andT_eq]; exact allT_of h
theorem ndI_ok {bad : Bool} {e : List Bool} {N : Nat} {t : Nat → Bool} (h : bad = false → ∀ b ∈ e, b = true) : allT (ndI bad e N t) = true := by
  unfold ndI
  cases bad with
  | true => rfl
  | false =>
    have he := andT_of (h rfl)
    simp only [Bool.not_false, cond_true, allT, Bool.and_true]
    refine andT_of fun b hb => ?_
    obtain ⟨k, _, hb⟩ := List.mem_flatMap.1 hb
    rw [he] at hb
    simp only [List.mem_cons, List.not_mem_nil, or_false] at hb
    rcases hb with rfl | rfl
    · cases t (N - 1 - k) <;> rfl
    · cases t (N - 1 - k) <;> rfl
theorem ndS_ok {bad : Bool} {e : Bool} {m : Nat} (h : bad = false → e = true) : allT (ndS bad e m) = true := by
  unfold ndS
  cases bad with
  | true => rfl
  | false =>
    simp only [Bool.not_false, cond_true, allT, Bool.and_true]
    exact andT_of fun b hb => by rw [List.eq_of_mem_replicate hb]; exact h rfl
theorem inR_iff {lo a hi : Int} : inR lo a hi = true ↔ lo ≤ a ∧ a ≤ hi := by
  unfold inR
  rw [leQ_eq, leQ_eq]
  by_cases h : lo ≤ a <;> simp [h]
theorem ne0_of {a hi : Int} (h : inR 1 a hi = true) : (!(a == 0)) = true := by
  have := inR_iff.1 h
  simp only [Bool.not_eq_true', beq_eq_false_iff_ne]
  omega
end Go.Ax

/- Pictures in steps: calls. -/
namespace Go.Ax
open Go Go.Proofs

theorem n58 (n : Int) (X : Nat → Nat) (q : Nat) (m : Int) : jN 58 [pvT false n X, .f false .f32 q, .i false .i64 m] = some (zPV 1, [!sideB n]) := by kernel_rfl
theorem n59 (n : Int) (X : Nat → Nat) (q : Nat) (m : Int) : jN 59 [pvT false n X, .f false .f32 q, .i false .i64 m] = some (zPV 1, [!sideB n]) := by kernel_rfl
theorem fle_fint {x y : Nat} {a b : Int} (hx : fint x = some a) (hy : fint y = some b) : fle .f32 x y = decide (a ≤ b) := by
  unfold fle
  rw [show FloatKind.f32.format = Ieee.single from rfl, order_fint hx hy]
  rw [Bool.eq_iff_iff]
  simp [compare, compareOfLessAndEq]
  by_cases h1 : a < b
  · simp [h1]; omega
  · by_cases h2 : a = b
    · subst h2; simp
    · simp [h1, h2]; omega
theorem stC_zero {g : Bool} {q : Nat} {m : Int} (h : eqQ false (stC g q m) 0 = true) : g = true ∧ (∃ b, fint q = some b ∧ 0 < b) ∧ 2 ≤ m ∧ m ≤ 256 := by
  rw [eqQ_eq, beq_iff_eq] at h
  unfold stC at h
  cases g with
  | false => cases h
  | true =>
    cases hq : finB q with
    | false => rw [hq] at h; cases h
    | true =>
      rw [hq] at h
      obtain ⟨b, hb⟩ := finB_iff.1 hq
      cases hl : fle .f32 q 0 with
      | true => rw [hl] at h; cases h
      | false =>
        rw [hl] at h
        cases hr : inR 2 m 256 with
        | false => rw [hr] at h; cases h
        | true =>
          rw [fle_fint hb fint_zero] at hl
          have := of_decide_eq_false hl
          exact ⟨rfl, ⟨b, hb, by omega⟩, inR_iff.1 hr⟩
theorem st_ok {n : Int} {X : Nat → Nat} {q : Nat} {m : Int} (h : eqQ false (stC (isPicB n X) q m) 0 = true) {j : Nat} (hj : j < 64) : stepOK (X j) q m = true := by
  obtain ⟨hp, ⟨b, hb, b0⟩, h1, h2⟩ := stC_zero h
  obtain ⟨a, ha, a0, _⟩ := pic_fint hp hj
  unfold stepOK
  rw [finB_iff.2 ⟨a, ha⟩, finB_iff.2 ⟨b, hb⟩, flt_fint ha fint_zero, fgt_fint hb fint_zero]
  simp
  omega
theorem stN_ok {n : Int} {X : Nat → Nat} {q : Nat} {m : Int} (hs : sideB n = true) : allT (stN (stC (isPicB n X) q m) (n.toNat * n.toNat) X q m) = true := by
  unfold stN
  cases hc : eqQ false (stC (isPicB n X) q m) 0 with
  | false => rfl
  | true =>
    simp only [Bool.not_true, Bool.not_false, cond_true, allT, Bool.and_true]
    refine andT_of fun b hb => ?_
    obtain ⟨k, hk, rfl⟩ := List.mem_map.1 hb
    obtain ⟨h1, h2⟩ := side_N hs
    have hk := List.mem_range.1 hk
    exact st_ok hc (by omega)
theorem keep_pic {n : Int} {Z X : Nat → Nat} (hp : isPicB n X = true) : isPicB n (keepX (n.toNat * n.toNat) Z X) = isPicB n (cut (n.toNat * n.toNat) Z) := by
  have e : cut (n.toNat * n.toNat) (keepX (n.toNat * n.toNat) Z X) = cut (n.toNat * n.toNat) Z := funext fun j => by
    unfold cut keepX
    cases Nat.ble (n.toNat * n.toNat) j <;> rfl
  rw [← e]
  refine (cut_pic fun j hj hle => ?_).symm
  obtain ⟨a, ha, _, a0⟩ := pic_fint hp hj
  have := a0 hle
  subst this
  unfold keepX
  rw [Nat.ble_eq_true_of_le hle]
  exact ha
noncomputable def insC (n : Int) (X : Nat → Nat) (q : Nat) (m : Int) : Int := limC (stC (isPicB n X) q m) (isPicB n (cut (n.toNat * n.toNat) (insX X q m)))
theorem ins_ok (f : FuncId) (hf : f = 58 ∨ f = 59) (n : Int) (X : Nat → Nat) (q : Nat) (m : Int) (H : List AB) : CallOK Tryz.prog f [pv n X, .f false .f32 q, .i false .i64 m] H (pcR n (insC n X q m) (insX X q m)) H := by
  have hlow : ∀ l, belowL 0 [pvT l n X, .f false .f32 q, .i false .i64 m] = true := fun l => by simp [belowL, below, pvT_low]
  cases hs : sideB n with
  | false =>
    have e : insC n X q m = 1 := by unfold insC stC; rw [noSide_pic hs]; rfl
    rcases hf with rfl | rfl
    · exact ((call_of_join (args := [pvT false n X, .f false .f32 q, .i false .i64 m]) tabPn_sound (n58 n X q m) (by simp [allT, hs]) (hlow _) H).deep (args' := [pv n X, .f false .f32 q, .i false .i64 m]) rfl).weaken fun σ x r => zPV_rel e (by decide) r
    · exact ((call_of_join (args := [pvT false n X, .f false .f32 q, .i false .i64 m]) tabPn_sound (n59 n X q m) (by simp [allT, hs]) (hlow _) H).deep (args' := [pv n X, .f false .f32 q, .i false .i64 m]) rfl).weaken fun σ x r => zPV_rel e (by decide) r
  | true =>
    have hd := side_cases hs
    rcases hf with rfl | rfl
    · have k := (call_of_join (args := [pvT true n X, .f false .f32 q, .i false .i64 m]) tabSt_sound (p58 _ n hd X q m) (by unfold gN; rw [isPicB_re]; exact stN_ok hs) (hlow _) H).deep (args' := [pv n X, .f false .f32 q, .i false .i64 m]) rfl
      unfold gN at k
      rw [isPicB_re, isPicB_re] at k
      exact k.weaken fun σ x r => iPV_rel (fun α a b => lim_sel _ _ α a b) r
    · have k := (call_of_join (args := [pvT true n X, .f false .f32 q, .i false .i64 m]) tabSt_sound (p59 _ n hd X q m) (by unfold gN; rw [isPicB_re]; exact stN_ok hs) (hlow _) H).deep (args' := [pv n X, .f false .f32 q, .i false .i64 m]) rfl
      unfold gN at k
      rw [isPicB_re, isPicB_re] at k
      have e : insC n X q m = limC (stC (isPicB n X) q m) (isPicB n (keepX (n.toNat * n.toNat) (insX X q m) X)) := by
        unfold insC
        cases hc : eqQ false (stC (isPicB n X) q m) 0 with
        | false => unfold limC; rw [hc]; rfl
        | true => rw [keep_pic (stC_zero hc).1]
      have eZ : pcR n (insC n X q m) (insX X q m) = pcR n (insC n X q m) (keepX (n.toNat * n.toNat) (insX X q m) X) := pcR_congr fun j hj => by
        unfold keepX
        rw [ble_blt, lt_bltP hj]; rfl
      rw [eZ, e]
      refine k.weaken fun σ x r => sPV_rel (fun α a b => lim_sel _ _ α a b) (fun hc j hj hle => ?_) r
      obtain ⟨hp, _⟩ := stC_zero (limC_zero hc).1
      obtain ⟨a, ha, _, a0⟩ := pic_fint hp hj
      have := a0 hle
      subst this
      unfold keepX
      rw [Nat.ble_eq_true_of_le hle]
      exact zero_plus ha
end Go.Ax
