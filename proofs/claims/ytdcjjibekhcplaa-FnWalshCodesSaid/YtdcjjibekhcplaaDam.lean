/- Sums by codes: contracts and rows. -/
import Derived.Test.YtdcjjibekhcplaaDal
import Derived.Test.YtdcjjibekhcplaaProg
import Derived.KernelRfl
namespace Go.Ax
open Go Go.Proofs

theorem firstC_spec : ∀ {k0 i : Nat} {H : List AB} {j : Nat}, firstC k0 i H = some j → k0 ≤ j ∧ i ≤ j ∧ ∃ r A, getB H (j - i) = .cells r A
  | _, _, [], _, h => by cases h
  | k0, i, B :: H, j, h => by
    have rec_ : firstC k0 (i + 1) H = some j → k0 ≤ j ∧ i ≤ j ∧ ∃ r A, getB (B :: H) (j - i) = .cells r A := fun h => by
      obtain ⟨h1, h2, r, A, h3⟩ := firstC_spec h
      refine ⟨h1, by omega, r, A, ?_⟩
      have : j - i = (j - (i + 1)) + 1 := by omega
      rw [this]
      exact h3
    unfold firstC at h
    split at h
    · rename_i hle
      split at h
      · cases h
        exact ⟨Nat.le_of_ble_eq_true hle, Nat.le_refl _, _, _, by rw [Nat.sub_self]; rfl⟩
      · exact rec_ h
    · exact rec_ h
theorem badC_call {P : Program} {T : Table} {f : FuncId} {args : List AV} {H0 : List AB} {r : Res} {c : Nat} (hT : SoundT P T) (hs : (T f args H0 [] fun v H nd => .ret v H nd).sel = r.sel) (ho : badC H0.length c r = true) (hro : ∀ i, (getB H0 i).rw = false) (n : Nat) (ys : List Nat) :
    CallOK P f args H0 (uniV H0.length false n (Int.ofNat c)) (H0 ++ [uniB false ys]) := by
  unfold badC at ho
  split at ho <;> (try (cases ho; done))
  rename_i v H nd
  split at ho <;> (try (cases ho; done))
  rename_i s k
  split at ho <;> (try (cases ho; done))
  rename_i l m
  simp only [Bool.and_eq_true] at ho
  obtain ⟨hm, hnd, ho⟩ := ho
  rw [eqL_eq, beq_iff_eq] at hm
  subst hm
  have hcall := call_of_sel hT (v := .tup [s, .i l .i64 (Int.ofNat c)]) (H' := H) (nd := nd) hs hnd
  split at ho <;> (try (cases ho; done))
  · split at ho <;> (try (cases ho; done))
    rename_i j hg
    obtain ⟨h1, _, r, A, h3⟩ := firstC_spec hg
    rw [Nat.sub_zero] at h3
    exact uni_bad hcall hro h1 h3
  · rename_i l' id off len z
    simp only [Bool.and_eq_true] at ho
    obtain ⟨h0, hl, hid, ho⟩ := ho
    have h0 := Nat.eq_of_beq_eq_true h0
    have hl := Nat.eq_of_beq_eq_true hl
    subst h0; subst hl
    split at ho <;> (try (cases ho; done))
    rename_i r hg
    exact uni_empty hcall hro (Nat.le_of_ble_eq_true hid) hg
def badV (k0 c : Nat) : Res → Option (List Bool)
  | .ret v H nd => match badC k0 c (.ret v H []) with
    | true => some nd
    | false => none
  | _ => none
theorem badV_C {k0 c : Nat} {r : Res} {nd : List Bool} (h : badV k0 c r = some nd) (hn : allT nd = true) : badC k0 c r = true := by
  unfold badV at h
  split at h <;> (try (cases h; done))
  rename_i v H nd'
  split at h <;> cases h
  rename_i hb
  unfold badC at hb ⊢
  simp only [allT, Bool.true_and] at hb
  simp only [hn, Bool.true_and]
  exact hb
noncomputable def rWs (f : FuncId) (xs : List Nat) (z : Nat) : Res := tabHd f [.sl false 0 0 xs.length z] (fb xs) [] fun v H nd => .ret v H nd
def powB (n : Int) : Bool := cond (eqQ false n 1) true (cond (eqQ false n 2) true (cond (eqQ false n 4) true (cond (eqQ false n 8) true (cond (eqQ false n 16) true (cond (eqQ false n 32) true (eqQ false n 64))))))
def powI (n : Int) : Bool := cond (cond (leQ false 1 n) (leQ false n 64) false) (eqQ false (IntKind.i64.wrap (BitVec.ofInt IntKind.i64.bits n &&& BitVec.ofInt IntKind.i64.bits (wrapQ false .i64 (n - 1))).toNat) 0) false
theorem pow_cases : (List.range 65).all (fun n => powI n == powB n) = true := by decide +kernel
theorem powI_eq (n : Nat) : powI n = powB n := by
  by_cases h : n < 65
  · exact beq_iff_eq.1 (List.all_eq_true.1 pow_cases n (List.mem_range.2 h))
  · have h1 : leQ false (n : Int) 64 = false := by rw [leQ_eq]; simp; omega
    have key : ∀ m : Nat, m ≤ 64 → eqQ false (n : Int) (m : Int) = false := fun m hm => by
      rw [eqQ_eq]
      simp
      omega
    have k1 : eqQ false (n : Int) 1 = false := key 1 (by omega)
    have k2 : eqQ false (n : Int) 2 = false := key 2 (by omega)
    have k4 : eqQ false (n : Int) 4 = false := key 4 (by omega)
    have k8 : eqQ false (n : Int) 8 = false := key 8 (by omega)
    have k16 : eqQ false (n : Int) 16 = false := key 16 (by omega)
    have k32 : eqQ false (n : Int) 32 = false := key 32 (by omega)
    have k64 : eqQ false (n : Int) 64 = false := key 64 (by omega)
    unfold powI powB
    rw [h1, k1, k2, k4, k8, k16, k32, k64]
    cases leQ false 1 (n : Int) <;> rfl
theorem pow_iff {n : Nat} : powB n = true ↔ ∃ k, k < 7 ∧ n = 2 ^ k := by
  have key : ∀ m : Nat, eqQ false (n : Int) (m : Int) = true ↔ n = m := fun m => by rw [eqQ_eq, beq_iff_eq]; omega
  have k1 : eqQ false (n : Int) 1 = true ↔ n = 1 := key 1
  have k2 : eqQ false (n : Int) 2 = true ↔ n = 2 := key 2
  have k4 : eqQ false (n : Int) 4 = true ↔ n = 4 := key 4
  have k8 : eqQ false (n : Int) 8 = true ↔ n = 8 := key 8
  have k16 : eqQ false (n : Int) 16 = true ↔ n = 16 := key 16
  have k32 : eqQ false (n : Int) 32 = true ↔ n = 32 := key 32
  have k64 : eqQ false (n : Int) 64 = true ↔ n = 64 := key 64
  have e : powB n = true ↔ n = 1 ∨ n = 2 ∨ n = 4 ∨ n = 8 ∨ n = 16 ∨ n = 32 ∨ n = 64 := by
    rw [← k1, ← k2, ← k4, ← k8, ← k16, ← k32, ← k64]
    unfold powB
    cases eqQ false (n : Int) 1 <;> cases eqQ false (n : Int) 2 <;> cases eqQ false (n : Int) 4 <;> cases eqQ false (n : Int) 8 <;> cases eqQ false (n : Int) 16 <;> cases eqQ false (n : Int) 32 <;> cases eqQ false (n : Int) 64 <;> simp
  rw [e]
  constructor
  · rintro (h | h | h | h | h | h | h)
    · exact ⟨0, by omega, h⟩
    · exact ⟨1, by omega, h⟩
    · exact ⟨2, by omega, h⟩
    · exact ⟨3, by omega, h⟩
    · exact ⟨4, by omega, h⟩
    · exact ⟨5, by omega, h⟩
    · exact ⟨6, by omega, h⟩
  · rintro ⟨k, hk, rfl⟩
    match k, hk with
    | 0, _ => decide
    | 1, _ => decide
    | 2, _ => decide
    | 3, _ => decide
    | 4, _ => decide
    | 5, _ => decide
    | 6, _ => decide
    | k + 7, hk => omega
theorem sums_fail (f : FuncId) (hf : f = 64 ∨ f = 67) (xs : List Nat) (z : Nat) : ((condsP (rWs f xs z) [true], badV 1 1 ((rWs f xs z).at [true])), (condsP (rWs f xs z) [false, true], badV 1 2 ((rWs f xs z).at [false, true]))) =
    (([!finL xs], some (qS xs)), ([!!finL xs, !powI xs.length], some (qS xs))) := by
  rcases hf with rfl | rfl <;> kernel_rfl
theorem ssums_fail (f : FuncId) (hf : f = 65 ∨ f = 68) (xs : List Nat) (z : Nat) : ((condsP (rWs f xs z) [true], badV 1 1 ((rWs f xs z).at [true])), (condsP (rWs f xs z) [false, true], badV 1 2 ((rWs f xs z).at [false, true]))) =
    (([!finL xs], some (qS xs)), ([!!finL xs, !powB xs.length], some (qS xs))) := by
  rcases hf with rfl | rfl <;> kernel_rfl
end Go.Ax

/- Sums by codes and back: contracts and rows. -/
namespace Go.Ax
open Go Go.Proofs

/-- What is known of a function of one list whose length is a power of two. -/
structure PowRun (f : FuncId) (g : Nat → (Nat → Nat) → Bool) (L : Nat → (Nat → Nat) → List Nat) : Prop where
  bad1 : ∀ (xs : List Nat) (z : Nat), xs.length ≤ 5000 → finL xs = false → ∀ n ys, CallOK Try.prog f [.sl false 0 0 xs.length z] (fb xs) (uniV 1 false n 1) (fb xs ++ [uniB false ys])
  bad2 : ∀ (xs : List Nat) (z : Nat), xs.length ≤ 5000 → finL xs = true → powB xs.length = false → ∀ n ys, CallOK Try.prog f [.sl false 0 0 xs.length z] (fb xs) (uniV 1 false n 2) (fb xs ++ [uniB false ys])
  bad3 : ∀ k, k < 7 → ∀ N, N = 2 ^ k → ∀ x, finL (xL N x) = true → g k x = false → ∀ n ys, CallOK Try.prog f [.sl true 0 0 N 1] (cellsL N x) (uniV 1 false n 3) (cellsL N x ++ [uniB false ys])
  good : ∀ k, k < 7 → ∀ N, N = 2 ^ k → ∀ x, finL (xL N x) = true → g k x = true → CallOK Try.prog f [.sl true 0 0 N 1] (cellsL N x) (uniV 1 true (plusM (L k x)).length 0) (cellsL N x ++ [uniB true (plusM (L k x))])
theorem pow_one {f : FuncId} {g : Nat → (Nat → Nat) → Bool} {L : Nat → (Nat → Nat) → List Nat} {pq : Int → Bool} (hpq : ∀ n : Nat, pq n = powB n)
    (hfail : ∀ (xs : List Nat) (z : Nat), ((condsP (rWs f xs z) [true], badV 1 1 ((rWs f xs z).at [true])), (condsP (rWs f xs z) [false, true], badV 1 2 ((rWs f xs z).at [false, true]))) =
      (([!finL xs], some (qS xs)), ([!!finL xs, !pq xs.length], some (qS xs))))
    (hrun : ∀ k, k < 7 → ∀ x, (condsP (rW f (2 ^ k) x) [false, false], outK 1 ((rW f (2 ^ k) x).at [false, false]), badC 1 3 ((rW f (2 ^ k) x).at [false, true])) = ([!!finL (xL (2 ^ k) x), !!g k x], some (plusM (L k x), .i true .i64 0, true), true)) : PowRun f g L where
  bad1 := fun xs z hx hfin n ys => by
    have h0 := hfail xs z
    simp only [Prod.mk.injEq] at h0
    obtain ⟨⟨c1, b1⟩, _⟩ := h0
    exact badC_call (H0 := fb xs) (c := 1) tabHd_sound (sel_of_conds _ [true] (by show allT (condsP (rWs f xs z) [true]) = true; rw [c1, hfin]; rfl)) (badV_C b1 (qS_ok hx)) (fb_ro xs) n ys
  bad2 := fun xs z hx hfin hp n ys => by
    have h0 := hfail xs z
    simp only [Prod.mk.injEq] at h0
    obtain ⟨_, c1, b1⟩ := h0
    exact badC_call (H0 := fb xs) (c := 2) tabHd_sound (sel_of_conds _ [false, true] (by show allT (condsP (rWs f xs z) [false, true]) = true; rw [c1, hfin, hpq, hp]; rfl)) (badV_C b1 (qS_ok hx)) (fb_ro xs) n ys
  bad3 := fun k hk N hN x hfin hs n ys => by
    subst hN
    have h0 := hrun k hk x
    simp only [Prod.mk.injEq] at h0
    obtain ⟨c1, _, b1⟩ := h0
    exact badC_call (H0 := cellsL (2 ^ k) x) (c := 3) tabHd_sound (sel_of_conds _ [false, true] (by show allT (condsP (rW f (2 ^ k) x) [false, true]) = true; rw [conds_flip c1, hfin, hs]; rfl)) b1 (cellsL_ro (2 ^ k) x) n ys
  good := fun k hk N hN x hfin hs => by
    subst hN
    have h0 := hrun k hk x
    simp only [Prod.mk.injEq] at h0
    obtain ⟨c1, o1, _⟩ := h0
    exact out_call (H0 := cellsL (2 ^ k) x) tabHd_sound (sel_of_conds _ [false, false] (by show allT (condsP (rW f (2 ^ k) x) [false, false]) = true; rw [c1, hfin, hs]; rfl)) o1 (cellsL_ro (2 ^ k) x)
theorem seven {Q : Nat → Prop} (h0 : Q 0) (h1 : Q 1) (h2 : Q 2) (h3 : Q 3) (h4 : Q 4) (h5 : Q 5) (h6 : Q 6) : ∀ k, k < 7 → Q k := fun k hk => by
  match k, hk with
  | 0, _ => exact h0
  | 1, _ => exact h1
  | 2, _ => exact h2
  | 3, _ => exact h3
  | 4, _ => exact h4
  | 5, _ => exact h5
  | 6, _ => exact h6
  | k + 7, hk => omega
/-! ### Division by a power of two -/
theorem one_read : Ieee.single.read (FloatKind.f32.nearest (Int.ofNat 1)) = .number false 8388608 (-149 + ((126 : Nat) : Int)) := by decide +kernel
theorem fdiv_one_fin {x : Nat} {a : Int} (hx : fint x = some a) : ∃ b, fint (fdiv .f32 x (FloatKind.f32.nearest (Int.ofNat 1))) = some b := by
  obtain ⟨s, m, r, e1, _, l1, l2, r1⟩ := fint_form hx
  have hlog : (8388608 : Nat).log2 = 23 := log2_eq (by omega) (by omega)
  unfold fdiv Ieee.Format.div
  rw [show FloatKind.f32.format = Ieee.single from rfl, e1, one_read]
  show ∃ b, fint (((Ieee.Datum.quotient (23 + 2) (.number s m (-149 + (r : Nat))) (.number false 8388608 (-149 + ((126 : Nat) : Int)))).map Ieee.single.write).getD (qnan .f32)) = some b
  simp only [Ieee.Datum.quotient, if_neg (show (8388608 : Nat) ≠ 0 by omega), Option.map_some, Option.getD_some, hlog]
  rcases Nat.lt_or_ge r 253 with hr | hr
  · generalize hmore : 23 + 2 + 23 - m.log2 = more
    refine nearest_fin _ _ _ ?_
    have hb : 2 * (m <<< more / 8388608) + (m <<< more % 8388608 != 0).toNat < 2 ^ (more + 2) := by
      rw [Nat.shiftLeft_eq]
      have h1 : m * 2 ^ more / 8388608 < 2 ^ (more + 1) := by
        rw [Nat.div_lt_iff_lt_mul (by omega), Nat.pow_succ, Nat.mul_assoc, Nat.mul_comm (2 ^ more)]
        exact Nat.mul_lt_mul_of_pos_right (by omega) (Nat.two_pow_pos _)
      have h2 : (m * 2 ^ more % 8388608 != 0).toNat ≤ 1 := by cases (m * 2 ^ more % 8388608 != 0) <;> decide
      have h3 : (2 : Nat) ^ (more + 2) = 2 * 2 ^ (more + 1) := by rw [Nat.pow_succ]; omega
      omega
    generalize 2 * (m <<< more / 8388608) + (m <<< more % 8388608 != 0).toNat = mag at hb
    have hl : mag.log2 ≤ more + 1 := by
      rcases Nat.eq_zero_or_pos mag with h | h
      · subst h; simp
      · have := (Nat.log2_lt (k := more + 2) (by omega)).2 hb; omega
    omega
  · have hr : r = 253 := by omega
    subst hr
    have hm : 8388608 ≤ m := by rcases l2 with h | h <;> omega
    have hml : m.log2 = 23 := log2_eq (by omega) (by omega)
    rw [hml]
    have e2 : 2 * (m <<< (23 + 2 + 23 - 23) / 8388608) + (m <<< (23 + 2 + 23 - 23) % 8388608 != 0).toNat = m * 2 ^ 3 := by
      rw [Nat.shiftLeft_eq]
      have h1 : m * 2 ^ (23 + 2 + 23 - 23) = m * 4 * 8388608 := by rw [Nat.mul_assoc]
      rw [h1, Nat.mul_div_cancel _ (by omega), Nat.mul_mod_left]
      simp; omega
    rw [e2]
    have e3 : ∃ p : Nat, p = 250 ∧ (-149 + ((253 : Nat) : Int)) - (-149 + ((126 : Nat) : Int)) - ((23 + 2 + 23 - 23 : Nat) : Int) - 1 = -149 + (p : Int) := ⟨250, rfl, by decide⟩
    obtain ⟨p, hp, e3⟩ := e3
    have key := nearest_rep (s ^^ false) (m * 2 ^ 3) 250 ⟨m, 253, by rw [Nat.mul_assoc, ← Nat.pow_add], by omega, .inr hm, by omega⟩
    subst hp
    exact ⟨_, key⟩
theorem pow_read {k : Nat} (hk : k < 7) : Ieee.single.read (FloatKind.f32.nearest (Int.ofNat (2 ^ k))) = .number false 8388608 (-149 + ((126 + k : Nat) : Int)) := by
  exact seven (Q := fun k => Ieee.single.read (FloatKind.f32.nearest (Int.ofNat (2 ^ k))) = .number false 8388608 (-149 + ((126 + k : Nat) : Int))) (by decide +kernel) (by decide +kernel) (by decide +kernel) (by decide +kernel) (by decide +kernel) (by decide +kernel) (by decide +kernel) k hk
theorem pow_fin {k : Nat} (hk : k < 7) (s : Nat) : finB (fdiv .f32 s (FloatKind.f32.nearest (Int.ofNat (2 ^ k)))) = finB s := by
  rw [Bool.eq_iff_iff]
  constructor
  · intro h
    exact finB_iff.2 (fdiv_absorb (pow_read hk) h)
  · intro h
    obtain ⟨a, ha⟩ := finB_iff.1 h
    cases k with
    | zero => exact finB_iff.2 (fdiv_one_fin ha)
    | succ k => exact finB_iff.2 (fdiv_fin (pow_read hk) (by omega) (by omega) (by omega) ha)
theorem back_fin {k : Nat} (hk : k < 7) (x : Nat → Nat) : finL (backL k x) = finL (sumsL k x) := by
  rw [Bool.eq_iff_iff]
  unfold backL sumsL
  rw [finL_map, finL_map]
  constructor
  · intro h i hi
    have := h i hi
    unfold backF at this
    rwa [pow_fin hk] at this
  · intro h i hi
    unfold backF
    rw [pow_fin hk]
    exact h i hi
/-! ### The four functions -/
noncomputable def gSu (k : Nat) (x : Nat → Nat) : Bool := finL (sumsL k x)
theorem sum_pow : PowRun 64 gSu sumsL := pow_one (pq := powI) powI_eq (sums_fail 64 (.inl rfl)) (seven (Q := fun k => ∀ x, (condsP (rW 64 (2 ^ k) x) [false, false], outK 1 ((rW 64 (2 ^ k) x).at [false, false]), badC 1 3 ((rW 64 (2 ^ k) x).at [false, true])) = ([!!finL (xL (2 ^ k) x), !!gSu k x], some (plusM (sumsL k x), .i true .i64 0, true), true)) sum0 sum1 sum2 sum3 sum4 sum5 sum6)
theorem ssum_pow : PowRun 65 gSu sumsL := pow_one (pq := powB) (fun _ => rfl) (ssums_fail 65 (.inl rfl)) (seven (Q := fun k => ∀ x, (condsP (rW 65 (2 ^ k) x) [false, false], outK 1 ((rW 65 (2 ^ k) x).at [false, false]), badC 1 3 ((rW 65 (2 ^ k) x).at [false, true])) = ([!!finL (xL (2 ^ k) x), !!gSu k x], some (plusM (sumsL k x), .i true .i64 0, true), true)) ssum0 ssum1 ssum2 ssum3 ssum4 ssum5 ssum6)
theorem sback_pow : PowRun 68 gSu backL := pow_one (pq := powB) (fun _ => rfl) (ssums_fail 68 (.inr rfl)) (seven (Q := fun k => ∀ x, (condsP (rW 68 (2 ^ k) x) [false, false], outK 1 ((rW 68 (2 ^ k) x).at [false, false]), badC 1 3 ((rW 68 (2 ^ k) x).at [false, true])) = ([!!finL (xL (2 ^ k) x), !!gSu k x], some (plusM (backL k x), .i true .i64 0, true), true)) sback0 sback1 sback2 sback3 sback4 sback5 sback6)
noncomputable def gBk (k : Nat) (x : Nat → Nat) : Bool := finL (backL k x)
theorem back_pow0 : PowRun 67 gBk backL := pow_one (pq := powI) powI_eq (sums_fail 67 (.inr rfl)) (seven (Q := fun k => ∀ x, (condsP (rW 67 (2 ^ k) x) [false, false], outK 1 ((rW 67 (2 ^ k) x).at [false, false]), badC 1 3 ((rW 67 (2 ^ k) x).at [false, true])) = ([!!finL (xL (2 ^ k) x), !!gBk k x], some (plusM (backL k x), .i true .i64 0, true), true)) back0 back1 back2 back3 back4 back5 back6)
theorem back_pow : PowRun 67 gSu backL where
  bad1 := back_pow0.bad1
  bad2 := back_pow0.bad2
  bad3 := fun k hk N hN x hf hg => back_pow0.bad3 k hk N hN x hf (by unfold gBk; rw [back_fin hk]; exact hg)
  good := fun k hk N hN x hf hg => back_pow0.good k hk N hN x hf (by unfold gBk; rw [back_fin hk]; exact hg)
/-! ### Rows -/
noncomputable def sumOK (xs : List Nat) : Bool := finL xs && (powB xs.length && gSu (Nat.log2 xs.length) (at0 xs))
def lsL (L : Nat → (Nat → Nat) → List Nat) (xs : List Nat) : List Nat := plusM (L (Nat.log2 xs.length) (at0 xs))
noncomputable def sumC (xs : List Nat) : Int := cond (finL xs) (cond (powB xs.length) (cond (gSu (Nat.log2 xs.length) (at0 xs)) 0 3) 2) 1
theorem pow_ok {f : FuncId} {L : Nat → (Nat → Nat) → List Nat} (h : PowRun f gSu L) (xs : List Nat) (z : Nat) (hx : xs.length ≤ 5000) (hz : xs.length = 0 ∨ 0 < z) :
    CallOK Try.prog f [.sl false 0 0 xs.length z] (fb xs) (uniV 1 (sumOK xs) (lsL L xs).length (sumC xs)) (fb xs ++ [uniB (sumOK xs) (lsL L xs)]) := by
  unfold sumOK sumC
  cases hfin : finL xs with
  | false => exact h.bad1 xs z hx hfin _ _
  | true =>
    cases hp : powB xs.length with
    | false => exact h.bad2 xs z hx hfin hp _ _
    | true =>
      obtain ⟨k, hk, hlen⟩ := pow_iff.1 hp
      have hlog : Nat.log2 xs.length = k := by rw [hlen]; exact Nat.log2_two_pow
      have hpos : 0 < z := by
        rcases hz with h0 | h0
        · have := Nat.two_pow_pos k; omega
        · exact h0
      have hxl : xL xs.length (at0 xs) = xs := xL_eq xs
      have conv : ∀ {v : AV} {B : AB}, CallOK Try.prog f [.sl true 0 0 xs.length 1] (cellsL xs.length (at0 xs)) v (cellsL xs.length (at0 xs) ++ [B]) → CallOK Try.prog f [.sl false 0 0 xs.length z] (fb xs) v (fb xs ++ [B]) := fun {v B} k => by
        have k1 := (k.pre (heq_cells xs [])).post (heq_cells' xs [B])
        refine k1.args fun σ l r => ?_
        cases r with | cons r hs =>
        refine .cons ?_ hs
        have := sl_z1 r hpos
        exact Rel.unbare (a := .sl true 0 0 xs.length 1) this.bare
      unfold lsL
      rw [hlog]
      cases hs : gSu k (at0 xs) with
      | false => exact conv (h.bad3 k hk xs.length hlen (at0 xs) (by rw [hxl]; exact hfin) hs _ _)
      | true => exact conv (h.good k hk xs.length hlen (at0 xs) (by rw [hxl]; exact hfin) hs)
noncomputable def powT (L : Nat → (Nat → Nat) → List Nat) : Table := fun _ args H nd K =>
  match args with
  | [a] => match floatsAt H a with
    | some (xs, q) => K (uniV H.length (sumOK xs) (lsL L xs).length (sumC xs)) (H ++ [uniB (sumOK xs) (lsL L xs)]) (zOK a ++ (q ++ nd))
    | none => .fail
  | _ => .fail
theorem pow_at {f : FuncId} {L : Nat → (Nat → Nat) → List Nat} (h : PowRun f gSu L) : SoundAt Try.prog f (powT L) := fun args H nd K => by
  unfold powT
  split
  case h_2 => exact .inl rfl
  split
  case h_2 => exact .inl rfl
  rename_i a _ xs q hi
  refine .inr ⟨_, _, _, rfl, fun hn => ?_⟩
  rw [allT_append, allT_append, Bool.and_eq_true, Bool.and_eq_true] at hn
  obtain ⟨hz, hq, hnd⟩ := hn
  obtain ⟨l, id, r, A, z, rfl, hg, hA, h5⟩ := floatsAt_spec hi hq
  have hz : xs.length = 0 ∨ 0 < z := by
    simp only [zOK, allT, Bool.and_true, Bool.or_eq_true, decide_eq_true_eq] at hz
    exact hz
  refine ⟨hnd, ?_⟩
  have k := uni_at (H := H) (ids := [id]) (pow_ok h xs z h5 hz) (fb_ro xs) rfl rfl (fun i hi => by
    have : i = 0 := by simp [fb] at hi; exact hi
    subst this
    refine ⟨getB_lt hg, fun σ τ z o hb => ?_⟩
    have e : ([id] : List Nat).getD 0 0 = id := rfl
    rw [e, hg] at hb
    exact ro_floats hA hb)
  exact k.bare rfl
end Go.Ax

/- Waves: what the tests of waves come to. -/
namespace Go.Ax
open Go Go.Proofs

noncomputable def wholeB (z : Nat × Nat) : Bool := cond (finB z.1) (finB z.2) false
noncomputable def zeroB (z : Nat × Nat) : Bool := feq .f32 z.1 0 && feq .f32 z.2 0
/-- The tests of the cells of a wave, from one on; the last one's form is its own. -/
noncomputable def isWF (N : Nat) (X : Nat → Nat × Nat) : Nat → Nat → Bool
  | 0, j => match Nat.ble N j with
    | true => cond (!wholeB (X j)) false (!(!zeroB (X j)))
    | false => !(!wholeB (X j))
  | m + 1, j => match Nat.ble N j with
    | true => cond (!wholeB (X j)) false (cond (!zeroB (X j)) false (isWF N X m (Nat.succ j)))
    | false => cond (!wholeB (X j)) false (isWF N X m (Nat.succ j))
theorem isWF_iff (N : Nat) (X : Nat → Nat × Nat) : ∀ (m j : Nat), isWF N X m j = true ↔ ∀ i, i ≤ m → wholeB (X (j + i)) = true ∧ (N ≤ j + i → zeroB (X (j + i)) = true)
  | 0, j => by
    unfold isWF
    constructor
    · intro h i hi
      have : i = 0 := by omega
      subst this
      rw [Nat.add_zero]
      split at h
      · cases hw : wholeB (X j) <;> rw [hw] at h <;> simp at h
        exact ⟨rfl, fun _ => h⟩
      · rename_i hb
        simp at h
        exact ⟨h, fun hn => by have := Nat.ble_eq_true_of_le hn; rw [this] at hb; cases hb⟩
    · intro h
      obtain ⟨h1, h2⟩ := h 0 (Nat.le_refl 0)
      rw [Nat.add_zero] at h1 h2
      split
      · rename_i hb
        rw [h1, h2 (Nat.le_of_ble_eq_true hb)]; rfl
      · rw [h1]; rfl
  | m + 1, j => by
    have ih := isWF_iff N X m (j + 1)
    unfold isWF
    rw [Nat.succ_eq_add_one]
    have key : (∀ i, i ≤ m + 1 → wholeB (X (j + i)) = true ∧ (N ≤ j + i → zeroB (X (j + i)) = true)) ↔ (wholeB (X j) = true ∧ (N ≤ j → zeroB (X j) = true)) ∧ isWF N X m (j + 1) = true := by
      rw [ih]
      constructor
      · intro h
        refine ⟨h 0 (by omega), fun i hi => ?_⟩
        have := h (i + 1) (by omega)
        rwa [show j + (i + 1) = j + 1 + i by omega] at this
      · rintro ⟨h0, h⟩ i hi
        cases i with
        | zero => exact h0
        | succ i =>
          have := h i (by omega)
          rwa [show j + 1 + i = j + (i + 1) by omega] at this
    rw [key]
    split
    · rename_i hb
      have hb := Nat.le_of_ble_eq_true hb
      cases wholeB (X j) <;> cases zeroB (X j) <;> simp [hb]
    · rename_i hb
      have hb : ¬ N ≤ j := fun hn => by have := Nat.ble_eq_true_of_le hn; rw [this] at hb; cases hb
      cases wholeB (X j) <;> simp [hb]
def sideB (n : Int) : Bool := n == 1 || (n == 2 || (n == 4 || n == 8))
theorem sideB_iff {n : Int} : sideB n = true ↔ n = 1 ∨ n = 2 ∨ n = 4 ∨ n = 8 := by simp [sideB]
noncomputable def isWaveB (n : Int) (X : Nat → Nat × Nat) : Bool := sideB n && isWF (n.toNat * n.toNat) X 63 0
theorem isWaveB_iff {n : Int} {X : Nat → Nat × Nat} : isWaveB n X = true ↔ (n = 1 ∨ n = 2 ∨ n = 4 ∨ n = 8) ∧ ∀ j, j < 64 → wholeB (X j) = true ∧ (n.toNat * n.toNat ≤ j → zeroB (X j) = true) := by
  unfold isWaveB
  rw [Bool.and_eq_true, sideB_iff, isWF_iff]
  constructor
  · rintro ⟨h1, h2⟩
    exact ⟨h1, fun j hj => by simpa using h2 j (by omega)⟩
  · rintro ⟨h1, h2⟩
    exact ⟨h1, fun j hj => by simpa using h2 j (by omega)⟩

/-- A wave as a value. -/
def waveL (n : Int) (X : Nat → Nat × Nat) : List AV := .i false .i64 n :: (List.range 64).map (cx X)
def wvT (l : Bool) (n : Int) (X : Nat → Nat × Nat) : AV := .agg (.i l .i64 n :: (List.range 64).map (cx X))
def wv (n : Int) (X : Nat → Nat × Nat) : AV := .agg (waveL n X)
theorem RelL.unbare {σ : List (Nat × Nat)} : ∀ {l : List AV} {v : List Value}, RelL σ (l.map AV.bare) v → RelL σ l v
  | [], _, h => h
  | a :: l, _, h => by
    cases h with | cons h hs => exact .cons h.unbare (RelL.unbare hs)
theorem RelL.bare {σ : List (Nat × Nat)} : ∀ {l : List AV} {v : List Value}, RelL σ l v → RelL σ (l.map AV.bare) v
  | _, _, .nil => .nil
  | _, _, .cons h hs => .cons h.bare (RelL.bare hs)
theorem agg_bare {l l' : List AV} (h : l.map AV.bare = l'.map AV.bare) {σ : List (Nat × Nat)} {v : Value} (r : Rel σ (.agg l) v) : Rel σ (.agg l') v := by
  cases r with | agg r => exact .agg (RelL.unbare (h ▸ r.bare))
/-- Values that say the same, tags aside. -/
def AV.deep : AV → AV
  | .agg l => .agg (l.map AV.bare)
  | a => a.bare
theorem Rel.deep {σ : List (Nat × Nat)} {a : AV} {v : Value} (r : Rel σ a v) : Rel σ a.deep v := by
  cases a
  case agg l => cases r with | agg r => exact .agg r.bare
  all_goals exact r.bare
theorem Rel.undeep {σ : List (Nat × Nat)} {a : AV} {v : Value} (r : Rel σ a.deep v) : Rel σ a v := by
  cases a
  case agg l => cases r with | agg r => exact .agg r.unbare
  all_goals exact r.unbare
theorem relL_deep {σ : List (Nat × Nat)} : ∀ {l l' : List AV} {v : List Value}, l.map AV.deep = l'.map AV.deep → RelL σ l v → RelL σ l' v
  | [], [], _, _, h => h
  | [], _ :: _, _, e, _ => by cases e
  | _ :: _, [], _, e, _ => by cases e
  | a :: l, b :: l', _, e, h => by
    simp only [List.map_cons, List.cons.injEq] at e
    cases h with | cons h hs => exact .cons (e.1 ▸ h.deep).undeep (relL_deep e.2 hs)
theorem CallOK.deep {P : Program} {f : FuncId} {args args' : List AV} {v : AV} {H H' : List AB} (h : CallOK P f args H v H') (hb : args'.map AV.deep = args.map AV.deep) : CallOK P f args' H v H' := fun σ w rargs s hra =>
  h σ w rargs s (relL_deep hb hra)

noncomputable def tabW : Table := tabOf (cdeep Try.prog [] [] 3000 8)
theorem tabW_sound : SoundT Try.prog tabW := cdeep_sound (fun p hp => by cases hp) 8
theorem is_run (f : FuncId) (hf : f = 18 ∨ f = 208) (X : Nat → Nat × Nat) : (∀ n ∈ ([1, 2, 4, 8] : List Int), joinR 0 (tabW f [wvT true n X] [] [] fun v H nd => .ret v H nd) = some (.b false (isWF (n.toNat * n.toNat) X 63 0), [])) := by
  intro n hn
  simp only [List.mem_cons, List.not_mem_nil, or_false] at hn
  rcases hf with rfl | rfl <;> rcases hn with rfl | rfl | rfl | rfl <;> kernel_rfl

/-! ### Numbers that are no sides -/
theorem side_run (f : FuncId) (hf : f = 106 ∨ f = 123) (n : Int) : joinR 0 (tabW f [.i false .i64 n] [] [] fun v H nd => .ret v H nd) = some (.b false (cond (n == 1) true (cond (n == 2) true (cond (n == 4) true (n == 8)))), []) := by
  rcases hf with rfl | rfl <;> kernel_rfl
def gNoSide : List AV → Option (AV × List Bool)
  | [.i false .i64 n] => some (.b true false, [!sideB n])
  | _ => none
theorem noSide_at (f : FuncId) (hf : f = 106 ∨ f = 123) : SoundAt Try.prog f (pureT gNoSide) := fun args H nd K => by
  refine pureT_sound (fun args v n h hn H => ?_) args H nd K
  unfold gNoSide at h
  split at h <;> cases h
  rename_i n
  have hs : sideB n = false := by simpa [allT] using hn
  have := call_of_join tabW_sound (side_run f hf n) rfl rfl H
  refine this.weaken fun σ x r => ?_
  have e : cond (n == 1) true (cond (n == 2) true (cond (n == 4) true (n == 8))) = false := by
    rw [← hs]; unfold sideB; cases n == 1 <;> cases n == 2 <;> cases n == 4 <;> rfl
  rw [e] at r
  cases r; exact .b _
noncomputable def rowsN : List (FuncId × Table) := [(106, pureT gNoSide), (123, pureT gNoSide)]
theorem rowsN_at : ∀ p ∈ rowsN, SoundAt Try.prog p.1 p.2 := fun p hp => by
  simp only [rowsN, List.mem_cons, List.not_mem_nil, or_false] at hp
  rcases hp with rfl | rfl
  · exact noSide_at 106 (.inl rfl)
  · exact noSide_at 123 (.inr rfl)
noncomputable def tabN : Table := tabOf (cdeep Try.prog rowsN [] 3000 8)
theorem tabN_sound : SoundT Try.prog tabN := cdeep_sound rowsN_at 8
theorem is_no (f : FuncId) (hf : f = 18 ∨ f = 208) (n : Int) (X : Nat → Nat × Nat) : joinR 0 (tabN f [wvT false n X] [] [] fun v H nd => .ret v H nd) = some (.b true false, [!sideB n]) := by
  rcases hf with rfl | rfl <;> kernel_rfl
theorem is_ok (f : FuncId) (hf : f = 18 ∨ f = 208) (n : Int) (X : Nat → Nat × Nat) (H : List AB) : CallOK Try.prog f [wv n X] H (.b false (isWaveB n X)) H := by
  by_cases hs : sideB n = true
  · have hn := sideB_iff.1 hs
    have := call_of_join tabW_sound (is_run f hf X n (by simpa using hn)) rfl rfl H
    have e : isWaveB n X = isWF (n.toNat * n.toNat) X 63 0 := by simp [isWaveB, hs]
    rw [e]
    exact this.deep rfl
  · have hs : sideB n = false := by simpa using hs
    have := call_of_join tabN_sound (is_no f hf n X) (by simp [allT, hs]) rfl H
    have e : isWaveB n X = false := by simp [isWaveB, hs]
    rw [e]
    exact (this.deep (args' := [wv n X]) rfl).weaken fun σ x r => by cases r; exact .b _
end Go.Ax

/- The numbers of codes of Walsh. -/
namespace Go.Ax
open Go Go.Proofs

def popP : Nat → Nat → Bool → Bool
  | 0, _, b => b
  | m + 1, x, b => popP m (Nat.div x 2) (cond (Nat.beq (Nat.mod x 2) 1) (!b) b)
/-- A number of a code of Walsh. -/
def walF (k j : Nat) : Nat := cond (popP 7 (Nat.land k j) false) 3212836864 1065353216
def walL (n k : Nat) : List Nat := (List.range n).map (walF k)
end Go.Ax

/- math/bits.OnesCount64 of small numbers; impl.walsh. -/
namespace Go.Ax
open Go Go.Proofs

noncomputable def tabJ0 : Table := tabOf (jdeep Try.prog [] [] 3000 8)
theorem tabJ0_sound : SoundT Try.prog tabJ0 := jdeep_sound (fun p hp => by cases hp) 8
def popN : Nat → Nat → Nat → Nat
  | 0, _, c => c
  | m + 1, x, c => popN m (Nat.div x 2) (c + Nat.mod x 2)
def popI (b : Int) : Int := Int.ofNat (popN 7 b.toNat 0)
def in64 (x : Int) : Bool := decide (0 ≤ x) && decide (x < 64)
theorem in64_iff {x : Int} : in64 x = true ↔ 0 ≤ x ∧ x < 64 := by simp [in64]
theorem ones_run : (List.range 64).map (fun b => joinR 0 (tabJ0 271 [.i true .u64 (Int.ofNat b)] [] [] fun v H nd => .ret v H nd)) = (List.range 64).map fun b => some (.i true .i64 (popI (Int.ofNat b)), []) := by kernel_rfl
def gOnes : List AV → Option (AV × List Bool)
  | [.i _ .u64 b] => some (.i false .i64 (popI b), [in64 b])
  | _ => none
theorem ones_at : SoundAt Try.prog 271 (pureT gOnes) := fun args H nd K => by
  refine pureT_sound (fun args v n h hn H => ?_) args H nd K
  unfold gOnes at h
  split at h <;> cases h
  rename_i l b
  simp only [allT, Bool.and_true, in64_iff] at hn
  have h1 := map_mem ones_run (x := b.toNat) (by simp; omega)
  have e : Int.ofNat b.toNat = b := by simp; omega
  rw [e] at h1
  exact ((call_of_join tabJ0_sound h1 rfl rfl H).bare (args' := [.i l .u64 b]) rfl).weaken fun σ x r => by cases r; exact .i _ _
noncomputable def rowsO1 : List (FuncId × Table) := [(271, pureT gOnes)]
theorem rowsO1_at : ∀ p ∈ rowsO1, SoundAt Try.prog p.1 p.2 := fun p hp => by
  simp only [rowsO1, List.mem_cons, List.not_mem_nil, or_false] at hp
  rcases hp with rfl
  exact ones_at
noncomputable def tabO1 : Table := tabOf (jdeep Try.prog rowsO1 [] 3000 8)
theorem tabO1_sound : SoundT Try.prog tabO1 := jdeep_sound rowsO1_at 8
/-- What OnesCount64 gets. -/
def ocI (k j : Int) : Int := IntKind.u64.wrap (IntKind.i64.wrap (BitVec.ofInt IntKind.i64.bits k &&& BitVec.ofInt IntKind.i64.bits j).toNat)
def oddI (k j : Int) : Bool := eqQ false ((popI (ocI k j)).tmod 2) 0
theorem walsh_run (k j : Int) : joinR 0 (tabO1 237 [.i false .i64 k, .i false .i64 j] [] [] fun v H nd => .ret v H nd) =
    some (.f false .f32 (cond (oddI k j) 1065353216 3212836864), [cond (oddI k j) (andT [in64 (ocI k j)]) true, cond (!oddI k j) (andT [in64 (ocI k j)]) true]) := by kernel_rfl
theorem both_all : (List.range 64).all (fun k => (List.range 64).all fun j => in64 (ocI (Int.ofNat k) (Int.ofNat j)) && (cond (oddI (Int.ofNat k) (Int.ofNat j)) 1065353216 3212836864 == walF k j)) = true := by decide +kernel
theorem both_ok {k j : Int} (hk : in64 k = true) (hj : in64 j = true) : in64 (ocI k j) = true ∧ cond (oddI k j) 1065353216 3212836864 = walF k.toNat j.toNat := by
  rw [in64_iff] at hk hj
  have h := List.all_eq_true.1 (List.all_eq_true.1 both_all k.toNat (by simp; omega)) j.toNat (by simp; omega)
  have e1 : Int.ofNat k.toNat = k := by simp; omega
  have e2 : Int.ofNat j.toNat = j := by simp; omega
  rw [e1, e2, Bool.and_eq_true, beq_iff_eq] at h
  exact h
def gWal : List AV → Option (AV × List Bool)
  | [.i _ .i64 k, .i _ .i64 j] => some (.f false .f32 (walF k.toNat j.toNat), [in64 k && in64 j])
  | _ => none
theorem wal_at : SoundAt Try.prog 237 (pureT gWal) := fun args H nd K => by
  refine pureT_sound (fun args v n h hn H => ?_) args H nd K
  unfold gWal at h
  split at h <;> cases h
  rename_i l k m j
  simp only [allT, Bool.and_true, Bool.and_eq_true] at hn
  obtain ⟨h1, h2⟩ := both_ok hn.1 hn.2
  have h3 := call_of_join tabO1_sound (walsh_run k j) (by rw [h1]; cases oddI k j <;> rfl) rfl H
  rw [h2] at h3
  exact h3.bare (args' := [.i l .i64 k, .i m .i64 j]) rfl
end Go.Ax

/- spec.l10Walsh: the code of Walsh of every length up to 64. -/
namespace Go.Ax
open Go Go.Proofs

def sgF (b : Nat) : Nat := cond (popP 7 b false) 3212836864 1065353216
def wgL (k j : Nat) : List Nat := (List.range j).map (walF k)
noncomputable def wgC : Code := Try.f143.body.getD .skip
noncomputable def wgZ (n k : Nat) : Res := jupto Try.prog tab0 atLoop 100 [.code wgC] (.i false .i64 (Int.ofNat n) :: .i false .i64 (Int.ofNat k) :: undefs 30) []
noncomputable def wgLp : List Item := (wgZ 0 0).todo
noncomputable def wgR : List Item := toLp wgLp
theorem wgR_eq : toLp wgR = wgR := by kernel_rfl
def wgT (n k : Nat) (xs : List Nat) (j : Nat) : List AV := [.i false .i64 (Int.ofNat n), .i false .i64 (Int.ofNat k), .any, .any, .any, .sl false 0 0 xs.length 1, .i false .i64 (Int.ofNat j)] ++ List.replicate 25 .any
def wgM : List Bool := [false, false, true, true, true, false, false] ++ List.replicate 25 true
def wgB (xs : List Nat) : List AB := [.cells true (.f32 xs)]
theorem wgZ_ok (n k : Nat) : (condsP (wgZ n k) [], lfM wgM ((wgZ n k).at [])) = ([], (true, wgLp, (wgT n k [] 0).map AV.bare, wgB [], [])) := by kernel_rfl
/-- Up to the inner loop. -/
noncomputable def wgU (n k : Nat) (xs : List Nat) (j : Nat) : Res := jupto Try.prog tab0 atLoop 100 wgR (wgT n k xs j) (wgB xs)
noncomputable def wgI : List Item := ((wgU 1 0 [] 0).at [true]).todo
def wgX (k j : Nat) : Int := IntKind.i64.wrap (BitVec.ofInt IntKind.i64.bits (Int.ofNat k) &&& BitVec.ofInt IntKind.i64.bits (Int.ofNat j)).toNat
def wgS (n k : Nat) (xs : List Nat) (j : Nat) (s : Nat) (b : Int) : List AV := [.i false .i64 (Int.ofNat n), .i false .i64 (Int.ofNat k), .any, .any, .any, .sl false 0 0 xs.length 1, .i false .i64 (Int.ofNat j), .f true .f32 s, .i true .i64 b] ++ List.replicate 23 .any
def wgN : List Bool := [false, false, true, true, true, false, false, false, false] ++ List.replicate 23 true
theorem wgU_ok (n k : Nat) (xs : List Nat) (j : Nat) : ((condsP (wgU n k xs j) [true], lfM wgN ((wgU n k xs j).at [true])), (condsP (wgU n k xs j) [false], endOf Try.prog Try.f143.results.toList ((wgU n k xs j).at [false]))) =
    (([ltQ false (Int.ofNat j) (Int.ofNat n)], (true, wgI, (wgS n k xs j 1065353216 (wgX k j)).map AV.bare, wgB xs, [])), ([!ltQ false (Int.ofNat j) (Int.ofNat n)], some (some ([.sl false 0 0 xs.length 1], []), wgB xs, []))) := by kernel_rfl
/-- The inner loop, behind it. -/
noncomputable def wgV (n k : Nat) (xs : List Nat) (j : Nat) (b : Nat) : Res := jupto Try.prog tab0 (atReg 11) 200 wgI (wgS n k xs j 1065353216 (Int.ofNat b)) (wgB xs)
noncomputable def wgJ : List Item := (wgV 0 0 [] 0 0).todo
def wgQ : List Bool := [false, false, true, true, true, false, false, false] ++ List.replicate 24 true
def wgW (n k : Nat) (xs : List Nat) (j : Nat) (s : Nat) : List AV := [.i false .i64 (Int.ofNat n), .i false .i64 (Int.ofNat k), .any, .any, .any, .sl false 0 0 xs.length 1, .i false .i64 (Int.ofNat j), .f false .f32 s] ++ List.replicate 24 .any
theorem wgV_ok (n k : Nat) (xs : List Nat) (j : Nat) : ((List.range 64).map fun b => lfM wgQ ((wgV n k xs j b).at [])) = (List.range 64).map fun b => (true, wgJ, (wgW n k xs j (sgF b)).map AV.bare, wgB xs, []) := by kernel_rfl
/-- Put behind the list. -/
noncomputable def wgK (n k : Nat) (xs : List Nat) (j : Nat) (s : Nat) : Res := jupto Try.prog tab0 atLoop 100 wgJ (wgW n k xs j s) (wgB xs)
def wgE (n k : Nat) (xs : List Nat) (j : Nat) : List AV := [.i false .i64 (Int.ofNat n), .i false .i64 (Int.ofNat k), .any, .any, .any, .sl false 2 0 (xs.length + 1) 1, .i false .i64 (wrapQ false .i64 (Int.ofNat j + 1))] ++ List.replicate 25 .any
def wgF (xs : List Nat) (s : Nat) : List AB := [.dead, .cells true (.lit [.f false .f32 s]), .cells true (.f32 (List.take (xs.length * 1) (List.drop 0 xs) ++ [s]))]
def wgO (xs : List Nat) : Bool := decide ((0 : Nat) = 0) && decide ((1 : Nat) = 1) && decide (xs.length * 1 = (Cells.f32 xs).len) && decide ((2 * (xs.length + 1) + 1024) * 4 ≤ 2 ^ 48)
theorem wgK_ok (n k : Nat) (xs : List Nat) (j : Nat) (s : Nat) : lfM wgM ((wgK n k xs j s).at []) = (true, wgR, (wgE n k xs j).map AV.bare, wgF xs s, [wgO xs]) := by kernel_rfl
theorem condsP_nil (r : Res) : condsP r [] = [] := by cases r <;> rfl
theorem wg_and : (List.range 64).all (fun k => (List.range 64).all fun j => decide (wgX k j = Int.ofNat (Nat.land k j)) && (decide (Nat.land k j < 64) && (sgF (Nat.land k j) == walF k j))) = true := by decide +kernel
theorem wgX_ok {k j : Nat} (hk : k < 64) (hj : j < 64) : wgX k j = Int.ofNat (Nat.land k j) ∧ Nat.land k j < 64 ∧ sgF (Nat.land k j) = walF k j := by
  have h := List.all_eq_true.1 (List.all_eq_true.1 wg_and k (List.mem_range.2 hk)) j (List.mem_range.2 hj)
  simp only [Bool.and_eq_true, decide_eq_true_eq, beq_iff_eq] at h
  exact h
theorem wg_round {todoS : List Item} {tS : List AV} {n k j : Nat} {xs : List Nat} (hj : j < n) (hn : n ≤ 64) (hk : k < 64) (hx : xs.length = j) {L : List Item} (hL : toLp L = wgR) (hr : Reach Try.prog todoS tS [] L (wgT n k xs j) (wgB xs)) :
    Reach Try.prog todoS tS [] wgR (wgT n k (xs ++ [walF k j]) (j + 1)) (wgB (xs ++ [walF k j])) := by
  obtain ⟨e1, e2, e3⟩ := wgX_ok (k := k) (j := j) hk (by omega)
  have hU := wgU_ok n k xs j
  simp only [Prod.mk.injEq] at hU
  obtain ⟨⟨c1, l1⟩, _⟩ := hU
  have hlt : ltQ false (Int.ofNat j) (Int.ofNat n) = true := by rw [ltQ_eq]; simp; omega
  have r1 := way_reach (P := Try.prog) (T := tab0) (stop := atLoop) (n := 100) (L := L) (R := wgR) (p := [true]) (t0 := wgT n k xs j) (H0 := wgB xs) tab0_sound (hL.trans wgR_eq.symm) (by
    show allT (condsP (wgU n k xs j) [true]) = true
    rw [c1, hlt]; rfl) l1 rfl
  rw [e1] at r1
  have l2 := map_mem (wgV_ok n k xs j) (x := Nat.land k j) (List.mem_range.2 e2)
  have r2 := way_reach (P := Try.prog) (T := tab0) (stop := atReg 11) (n := 200) (L := wgI) (R := wgI) (p := []) (t0 := wgS n k xs j 1065353216 (Int.ofNat (Nat.land k j))) (H0 := wgB xs) tab0_sound rfl (by rw [condsP_nil]; rfl) l2 rfl
  rw [e3] at r2
  have l3 := wgK_ok n k xs j (walF k j)
  have r3 := way_reach (P := Try.prog) (T := tab0) (stop := atLoop) (n := 100) (L := wgJ) (R := wgJ) (p := []) (t0 := wgW n k xs j (walF k j)) (H0 := wgB xs) tab0_sound rfl (by rw [condsP_nil]; rfl) l3 (by
    simp [wgO, allT, Cells.len]; omega)
  have r4 := ((hr.trans r1).trans r2).trans r3
  have r5 := (r4.drop 1 (by simp) (by simp [wgF])).drop 0 (by simp) (by simp [wgF, dropB])
  have eT : renL 0 (renL 1 (wgE n k xs j)) = wgT n k (xs ++ [walF k j]) (j + 1) := by
    have : wrapQ false .i64 (Int.ofNat j + 1) = Int.ofNat (j + 1) := ofNat_next (by omega)
    unfold wgE wgT
    rw [this, List.length_append]
    rfl
  have eH : dropB 0 0 (dropB 1 1 (wgF xs (walF k j))) = wgB (xs ++ [walF k j]) := by
    have : List.take (xs.length * 1) (List.drop 0 xs) ++ [walF k j] = xs ++ [walF k j] := by simp
    unfold wgF wgB
    rw [this]
    rfl
  rw [eT, eH] at r5
  exact r5
theorem wgL_next (k j : Nat) : wgL k j ++ [walF k j] = wgL k (j + 1) := by simp [wgL, List.range_succ]
theorem wgL_len (k j : Nat) : (wgL k j).length = j := by simp [wgL]
theorem wg_rounds {todoS : List Item} {tS : List AV} {n k : Nat} (hn : n ≤ 64) (hk : k < 64) : ∀ (m j : Nat), j + m = n → ∀ L, toLp L = wgR → Reach Try.prog todoS tS [] L (wgT n k (wgL k j) j) (wgB (wgL k j)) →
    ∃ L', toLp L' = wgR ∧ Reach Try.prog todoS tS [] L' (wgT n k (wgL k n) n) (wgB (wgL k n))
  | 0, j, h, L, hL, hr => by
    have : j = n := by omega
    subst this
    exact ⟨L, hL, hr⟩
  | m + 1, j, h, L, hL, hr => by
    have h1 := wg_round (by omega) hn hk (wgL_len k j) hL hr
    rw [wgL_next] at h1
    exact wg_rounds hn hk m (j + 1) (by omega) wgR wgR_eq h1
theorem wg_ok {n k : Nat} (hn : n ≤ 64) (hk : k < 64) : CallOK Try.prog 143 [.i false .i64 (Int.ofNat n), .i false .i64 (Int.ofNat k)] [] (.sl false 0 0 n 1) [.cells true (.f32 (wgL k n))] := by
  have h0 := wgZ_ok n k
  simp only [Prod.mk.injEq] at h0
  have r0 := way_reach (P := Try.prog) (T := tab0) (stop := atLoop) (n := 100) (L := [.code wgC]) (R := [.code wgC]) (p := []) (t0 := .i false .i64 (Int.ofNat n) :: .i false .i64 (Int.ofNat k) :: undefs 30) (H0 := []) (t' := wgT n k [] 0) (H' := wgB []) (M := wgM) (nd := []) (todo' := wgLp) tab0_sound rfl (by rw [condsP_nil]; rfl) h0.2 rfl
  obtain ⟨L, hL, hr⟩ := wg_rounds (j := 0) hn hk n (by omega) wgLp rfl r0
  have hU := wgU_ok n k (wgL k n) n
  simp only [Prod.mk.injEq] at hU
  obtain ⟨_, c1, l1⟩ := hU
  have hlt : ltQ false (Int.ofNat n) (Int.ofNat n) = false := by rw [ltQ_eq]; simp
  obtain ⟨t, e1, e2⟩ := way_ends (P := Try.prog) (T := tab0) (stop := atLoop) (n := 100) (L := L) (R := wgR) (p := [false]) (t0 := wgT n k (wgL k n) n) (H0 := wgB (wgL k n)) tab0_sound (hL.trans wgR_eq.symm) (by
    show allT (condsP (wgU n k (wgL k n) n) [false]) = true
    rw [c1, hlt]; rfl) l1 rfl
  have hb : Try.f143.body = some wgC := rfl
  have := call_of_ends (args := [.i false .i64 (Int.ofNat n), .i false .i64 (Int.ofNat k)]) (m := []) Try.func143 hb (hr.ends e1) e2 rfl
  rw [wgL_len] at this
  exact this
/-- The row. -/
noncomputable def wgTb : Table := fun _ args H nd K =>
  match args with
  | [.i l .i64 n, .i _ .i64 k] => match chk l (decide (0 ≤ n) && decide (n ≤ 64)) with
    | some q => K (.sl l H.length 0 n.toNat 1) (H ++ [.cells true (.f32 (wgL k.toNat n.toNat))]) (in64 k :: (q ++ nd))
    | none => .fail
  | _ => .fail
theorem wg_at : SoundAt Try.prog 143 wgTb := fun args H nd K => by
  unfold wgTb
  split
  case h_2 => exact .inl rfl
  rename_i l n l' k
  split
  case h_2 => exact .inl rfl
  rename_i q hq
  refine .inr ⟨_, _, _, rfl, fun hn => ?_⟩
  simp only [allT, Bool.and_eq_true, allT_append] at hn
  obtain ⟨hk, hq', hnd⟩ := hn
  have hq2 := chk_spec hq hq'
  simp only [Bool.and_eq_true, decide_eq_true_eq] at hq2
  rw [in64_iff] at hk
  refine ⟨hnd, ?_⟩
  have h1 := wg_ok (n := n.toNat) (k := k.toNat) (by omega) (by omega)
  have e1 : Int.ofNat n.toNat = n := by simp; omega
  have e2 : Int.ofNat k.toNat = k := by simp; omega
  rw [e1, e2] at h1
  have h2 := CallOK.fresh h1 (fun g => rfl) rfl H
  refine (h2.bare (args' := [.i l .i64 n, .i l' .i64 k]) rfl).weaken fun σ x r => ?_
  have e : mapV (pickI 0 H.length []) (.sl false 0 0 n.toNat 1) = .sl false (0 - 0 + H.length) 0 n.toNat 1 := by
    simp [mapV, pickI]
  rw [e] at r
  have e3 : 0 - 0 + H.length = H.length := by omega
  rw [e3] at r
  exact r.unbare (a := .sl l H.length 0 n.toNat 1)
end Go.Ax

/- Table rows on waves. -/
namespace Go.Ax
open Go Go.Proofs

/-- The numbers of a wave. -/
def ofW : List AV → Option (Int × (Nat → Nat × Nat))
  | .i _ .i64 n :: l => match asC64 l with
    | some xs => match Nat.beq xs.length 64 with
      | true => some (n, fun j => xs.getD j (0, 0))
      | false => none
    | none => none
  | _ => none
theorem ofW_spec {l : List AV} {n : Int} {X : Nat → Nat × Nat} (h : ofW l = some (n, X)) : (AV.agg l).deep = (wv n X).deep := by
  unfold ofW at h
  split at h <;> (try (cases h; done))
  split at h <;> (try (cases h; done))
  rename_i xs hx
  split at h <;> (try (cases h; done))
  rename_i hlen
  simp only [Option.some.injEq, Prod.mk.injEq] at h
  obtain ⟨rfl, rfl⟩ := h
  have e1 := asC64_bare hx
  rw [map_range_getD (fun z => AV.c false .f32 z.1 z.2) (0, 0) xs 64 (Nat.eq_of_beq_eq_true hlen)] at e1
  simp only [AV.deep, wv, waveL, List.map_cons, e1]
  rw [List.map_map]
  rfl
noncomputable def gIsWave : List AV → Option (AV × List Bool)
  | [.agg l] => match ofW l with
    | some (n, X) => some (.b false (isWaveB n X), [])
    | none => none
  | _ => none
theorem isWave_at (f : FuncId) (hf : f = 18 ∨ f = 208) : SoundAt Try.prog f (pureT gIsWave) := fun args H nd K => by
  refine pureT_sound (fun args v n h hn H => ?_) args H nd K
  unfold gIsWave at h
  split at h <;> (try (cases h; done))
  split at h <;> cases h
  rename_i hl
  exact (is_ok f hf _ _ H).deep (by simp [ofW_spec hl])
noncomputable def rowsW : List (FuncId × Table) := [(18, pureT gIsWave), (208, pureT gIsWave)]
theorem rowsW_at : ∀ p ∈ rowsW, SoundAt Try.prog p.1 p.2 := fun p hp => by
  simp only [rowsW, List.mem_cons, List.not_mem_nil, or_false] at hp
  rcases hp with rfl | rfl
  · exact isWave_at 18 (.inl rfl)
  · exact isWave_at 208 (.inr rfl)
noncomputable def tabX : Table := tabOf (cdeep Try.prog rowsW [] 3000 8)
theorem tabX_sound : SoundT Try.prog tabX := cdeep_sound rowsW_at 8
end Go.Ax
