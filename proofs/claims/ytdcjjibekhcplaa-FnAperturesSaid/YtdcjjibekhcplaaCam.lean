/- Shadows and decoded shadows: contracts. -/
import Derived.Test.YtdcjjibekhcplaaCal
namespace Go.Ax
open Go Go.Proofs

def badS (k0 c : Nat) : Res → Option (List Bool)
  | .ret v H nd => match badK k0 c (.ret v H []) with
    | true => some nd
    | false => none
  | _ => none
theorem badS_K {k0 c : Nat} {r : Res} {nd : List Bool} (h : badS k0 c r = some nd) (hn : allT nd = true) : badK k0 c r = true := by
  unfold badS at h
  split at h <;> (try (cases h; done))
  rename_i v H nd'
  split at h <;> cases h
  rename_i hb
  unfold badK at hb ⊢
  simp only [allT, Bool.true_and] at hb
  simp only [hn, Bool.true_and]
  exact hb
noncomputable def rS (f : FuncId) (xs : List Nat) (z : Nat) : Res := tabA f [.sl false 0 0 xs.length z] (fb xs) [] fun v H nd => .ret v H nd
def qS (xs : List Nat) : List Bool := [decide ((0 : Nat) = 0), decide (xs.length = xs.length), decide (xs.length ≤ 5000)]
def prB (n : Int) : Bool := cond (eqQ false n 3) true (cond (eqQ false n 7) true (cond (eqQ false n 11) true (cond (eqQ false n 19) true (cond (eqQ false n 23) true (eqQ false n 31)))))
def prI (n : Int) : Bool := leQ false 0 (cond (eqQ false n 3) 0 (cond (eqQ false n 7) 1 (cond (eqQ false n 11) 2 (cond (eqQ false n 19) 3 (cond (eqQ false n 23) 4 (cond (eqQ false n 31) 5 (-1)))))))
theorem prI_eq (n : Int) : prI n = prB n := by
  unfold prI prB
  cases eqQ false n 3 <;> cases eqQ false n 7 <;> cases eqQ false n 11 <;> cases eqQ false n 19 <;> cases eqQ false n 23 <;> cases eqQ false n 31 <;> rfl
theorem prB_iff {n : Nat} : prB n = true ↔ n ∈ primes := by
  have key : ∀ m : Nat, eqQ false (n : Int) (m : Int) = true ↔ n = m := fun m => by rw [eqQ_eq, beq_iff_eq]; omega
  have k3 := key 3
  have k7 := key 7
  have k11 := key 11
  have k19 := key 19
  have k23 := key 23
  have k31 := key 31
  unfold prB
  simp only [primes, List.mem_cons, List.not_mem_nil, or_false]
  rw [← k3, ← k7, ← k11, ← k19, ← k23, ← k31]
  show _ ↔ eqQ false (n : Int) 3 = true ∨ eqQ false (n : Int) 7 = true ∨ eqQ false (n : Int) 11 = true ∨ eqQ false (n : Int) 19 = true ∨ eqQ false (n : Int) 23 = true ∨ eqQ false (n : Int) 31 = true
  cases eqQ false (n : Int) 3 <;> cases eqQ false (n : Int) 7 <;> cases eqQ false (n : Int) 11 <;> cases eqQ false (n : Int) 19 <;> cases eqQ false (n : Int) 23 <;> cases eqQ false (n : Int) 31 <;> simp
theorem impl_fail (f : FuncId) (hf : f = 48 ∨ f = 51) (xs : List Nat) (z : Nat) : ((condsP (rS f xs z) [true], badS 1 1 ((rS f xs z).at [true])), (condsP (rS f xs z) [false, true], badS 1 2 ((rS f xs z).at [false, true]))) =
    (([!finL xs], some (qS xs)), ([!!finL xs, !prI xs.length], some (qS xs))) := by
  rcases hf with rfl | rfl <;> kernel_rfl
theorem spec_fail (f : FuncId) (hf : f = 49 ∨ f = 52) (xs : List Nat) (z : Nat) : ((condsP (rS f xs z) [true], badS 1 1 ((rS f xs z).at [true])), (condsP (rS f xs z) [false, true], badS 1 2 ((rS f xs z).at [false, true]))) =
    (([!finL xs], some (qS xs)), ([!!finL xs, !prB xs.length], some (qS xs))) := by
  rcases hf with rfl | rfl <;> kernel_rfl
theorem fb_ro (xs : List Nat) : ∀ i, (getB (fb xs) i).rw = false := fun i => by
  match i with
  | 0 => rfl
  | i + 1 => rfl
theorem cellsL_ro (n : Nat) (x : Nat → Nat) : ∀ i, (getB (cellsL n x) i).rw = false := fun i => by
  match i with
  | 0 => rfl
  | i + 1 => rfl
/-- What is known of a function of one list. -/
structure OneRun (f : FuncId) (T : Nat → (Nat → Nat) → Nat → Nat → Nat) (D : Nat → Nat → Nat) : Prop where
  bad1 : ∀ (xs : List Nat) (z : Nat), xs.length ≤ 5000 → finL xs = false → ∀ n ys, CallOK Try.prog f [.sl false 0 0 xs.length z] (fb xs) (uniV 1 false n 1) (fb xs ++ [uniB false ys])
  bad2 : ∀ (xs : List Nat) (z : Nat), xs.length ≤ 5000 → finL xs = true → prB xs.length = false → ∀ n ys, CallOK Try.prog f [.sl false 0 0 xs.length z] (fb xs) (uniV 1 false n 2) (fb xs ++ [uniB false ys])
  bad3 : ∀ p ∈ primes, ∀ x, finL (xL p x) = true → finL (sumL p (T p x) (D p)) = false → ∀ n ys, CallOK Try.prog f [.sl true 0 0 p 1] (cellsL p x) (uniV 1 false n 3) (cellsL p x ++ [uniB false ys])
  good : ∀ p ∈ primes, ∀ x, finL (xL p x) = true → finL (sumL p (T p x) (D p)) = true → CallOK Try.prog f [.sl true 0 0 p 1] (cellsL p x) (uniV 1 true (plusL p (T p x) (D p)).length 0) (cellsL p x ++ [uniB true (plusL p (T p x) (D p))])
theorem qS_ok {xs : List Nat} (h : xs.length ≤ 5000) : allT (qS xs) = true := by simp [qS, allT]; exact h
theorem outR_K (r : Res) : outR r = outK 1 r := rfl
theorem badR_K (c : Nat) (r : Res) : badR c r = badK 1 c r := rfl
theorem conds_flip {r : Res} {u v : Bool} (h : condsP r [false, false] = [u, v]) : condsP r [false, true] = [u, !v] := by
  cases r with
  | ite b x y =>
    cases y with
    | ite b' x' y' =>
      simp only [condsP, List.cons.injEq, and_true] at h ⊢
      obtain ⟨rfl, rfl⟩ := h
      exact ⟨rfl, by simp⟩
    | ret _ _ _ => simp [condsP] at h
    | stop _ _ _ _ => simp [condsP] at h
    | fail => simp [condsP] at h
  | ret _ _ _ => cases h
  | stop _ _ _ _ => cases h
  | fail => cases h
theorem impl_one {f : FuncId} {T : Nat → (Nat → Nat) → Nat → Nat → Nat} {D : Nat → Nat → Nat} (hf : f = 48 ∨ f = 51)
    (h : ∀ p ∈ primes, ∀ x, (condsP (rA f p x) [false, false], outR ((rA f p x).at [false, false]), badR 3 ((rA f p x).at [false, true])) = ([!!finL (xL p x), !!finL (sumL p (T p x) (D p))], some (plusL p (T p x) (D p), .i true .i64 0, true), true)) : OneRun f T D where
  bad1 := fun xs z hx hfin n ys => by
    have h0 := impl_fail f hf xs z
    simp only [Prod.mk.injEq] at h0
    obtain ⟨⟨c1, b1⟩, _⟩ := h0
    exact bad_call (H0 := fb xs) (c := 1) tabA_sound (sel_of_conds _ [true] (by show allT (condsP (rS f xs z) [true]) = true; rw [c1, hfin]; rfl)) (badS_K b1 (qS_ok hx)) (fb_ro xs) n ys
  bad2 := fun xs z hx hfin hp n ys => by
    have h0 := impl_fail f hf xs z
    simp only [Prod.mk.injEq] at h0
    obtain ⟨_, c1, b1⟩ := h0
    exact bad_call (H0 := fb xs) (c := 2) tabA_sound (sel_of_conds _ [false, true] (by show allT (condsP (rS f xs z) [false, true]) = true; rw [c1, hfin, prI_eq, hp]; rfl)) (badS_K b1 (qS_ok hx)) (fb_ro xs) n ys
  bad3 := fun p hp x hfin hs n ys => by
    have h0 := h p hp x
    simp only [Prod.mk.injEq] at h0
    obtain ⟨c1, _, b1⟩ := h0
    exact bad_call (H0 := cellsL p x) (c := 3) tabA_sound (sel_of_conds _ [false, true] (by show allT (condsP (rA f p x) [false, true]) = true; rw [conds_flip c1, hfin, hs]; rfl)) b1 (cellsL_ro p x) n ys
  good := fun p hp x hfin hs => by
    have h0 := h p hp x
    simp only [Prod.mk.injEq] at h0
    obtain ⟨c1, o1, _⟩ := h0
    exact out_call (H0 := cellsL p x) tabA_sound (sel_of_conds _ [false, false] (by show allT (condsP (rA f p x) [false, false]) = true; rw [c1, hfin, hs]; rfl)) o1 (cellsL_ro p x)
theorem spec_one {f : FuncId} {T : Nat → (Nat → Nat) → Nat → Nat → Nat} {D : Nat → Nat → Nat} (hf : f = 49 ∨ f = 52) (hD : ∀ p ∈ primes, ∀ s, finB (D p s) = finB s)
    (h : ∀ p ∈ primes, ∀ x, (condsP (rA f p x) (List.replicate (p * p + 1) false), outR ((rA f p x).at (List.replicate (p * p + 1) false)), offB 3 (p * p) ((rA f p x).at [false])) = ((!!finL (xL p x)) :: testL p (T p x), some (plusL p (T p x) (D p), .i true .i64 0, true), true)) : OneRun f T D where
  bad1 := fun xs z hx hfin n ys => by
    have h0 := spec_fail f hf xs z
    simp only [Prod.mk.injEq] at h0
    obtain ⟨⟨c1, b1⟩, _⟩ := h0
    exact bad_call (H0 := fb xs) (c := 1) tabA_sound (sel_of_conds _ [true] (by show allT (condsP (rS f xs z) [true]) = true; rw [c1, hfin]; rfl)) (badS_K b1 (qS_ok hx)) (fb_ro xs) n ys
  bad2 := fun xs z hx hfin hp n ys => by
    have h0 := spec_fail f hf xs z
    simp only [Prod.mk.injEq] at h0
    obtain ⟨_, c1, b1⟩ := h0
    exact bad_call (H0 := fb xs) (c := 2) tabA_sound (sel_of_conds _ [false, true] (by show allT (condsP (rS f xs z) [false, true]) = true; rw [c1, hfin, hp]; rfl)) (badS_K b1 (qS_ok hx)) (fb_ro xs) n ys
  bad3 := fun p hp x hfin hs n ys => by
    have h0 := h p hp x
    simp only [Prod.mk.injEq] at h0
    obtain ⟨c1, _, b1⟩ := h0
    have hp0 : 0 < p := by
      simp only [primes, List.mem_cons, List.not_mem_nil, or_false] at hp
      omega
    rw [List.replicate_succ] at c1
    have hshape : ∃ b y z, rA f p x = .ite b y z := by
      cases hr : rA f p x with
      | ite b y z => exact ⟨b, y, z, rfl⟩
      | _ => rw [hr] at c1; cases c1
    obtain ⟨b, y, r, hr⟩ := hshape
    rw [hr] at c1 b1
    simp only [condsP, List.cons.injEq] at c1
    obtain ⟨c0, c1⟩ := c1
    have hb : b = false := by rw [hfin] at c0; simpa using c0
    rw [offB_K] at b1
    have hat : (Res.ite b y r).at [false] = r := by cases r <;> rfl
    rw [hat] at b1
    rcases chain_cases 1 3 (p * p) r b1 with ⟨h1, _⟩ | ⟨_, x', h2, h3⟩
    · rw [c1, tests_eq hp0 (hD p hp), hs] at h1; cases h1
    · exact bad_call (H0 := cellsL p x) (c := 3) tabA_sound (by
        show (rA f p x).sel = x'.sel
        rw [hr, hb]
        exact h3) h2 (cellsL_ro p x) n ys
  good := fun p hp x hfin hs => by
    have h0 := h p hp x
    simp only [Prod.mk.injEq] at h0
    obtain ⟨c1, o1, _⟩ := h0
    have hp0 : 0 < p := by
      simp only [primes, List.mem_cons, List.not_mem_nil, or_false] at hp
      omega
    exact out_call (H0 := cellsL p x) tabA_sound (sel_of_conds _ (List.replicate (p * p + 1) false) (by
      show allT (condsP (rA f p x) (List.replicate (p * p + 1) false)) = true
      rw [c1]
      simp only [allT]
      rw [tests_eq hp0 (hD p hp), hs, hfin]; rfl)) o1 (cellsL_ro p x)
end Go.Ax

/- Functions of one list that give a list or none: rows. -/
namespace Go.Ax
open Go Go.Proofs

def at0 (xs : List Nat) (j : Nat) : Nat := xs.getD j 0
section
variable (T : Nat → (Nat → Nat) → Nat → Nat → Nat) (D : Nat → Nat → Nat)
noncomputable def shOK (xs : List Nat) : Bool := finL xs && (prB xs.length && finL (sumL xs.length (T xs.length (at0 xs)) (D xs.length)))
def shL (xs : List Nat) : List Nat := plusL xs.length (T xs.length (at0 xs)) (D xs.length)
noncomputable def shC (xs : List Nat) : Int := cond (finL xs) (cond (prB xs.length) (cond (finL (sumL xs.length (T xs.length (at0 xs)) (D xs.length))) 0 3) 2) 1
end
theorem cells_toL (xs : List Nat) : (Cells.f32 xs).toL = (Cells.lit ((List.range xs.length).map fun j => AV.f false .f32 (at0 xs j))).toL := by
  show xs.map (AV.f false .f32) = _
  rw [map_range_getD (fun z => AV.f false .f32 z) 0 xs xs.length rfl]
  rfl
theorem blk_toL {A B : Cells} (h : A.toL = B.toL) {r : Bool} {σ : List (Nat × Nat)} {z : Nat} {o : Option Obj} (hb : BlkRel σ z (.cells r A) o) : BlkRel σ z (.cells r B) o := by
  obtain ⟨c, e, fr, h1, h2, h3⟩ := hb
  exact ⟨c, e, fr, h1, by rw [← h]; exact h2, h3⟩
theorem heq_cells (xs : List Nat) (G : List AB) : HEq (fb xs ++ G) (cellsL xs.length (at0 xs) ++ G) :=
  HEq.cons ⟨rfl, rfl, fun _ _ _ h => blk_toL (cells_toL xs) h⟩ (HEq.refl G)
theorem heq_cells' (xs : List Nat) (G : List AB) : HEq (cellsL xs.length (at0 xs) ++ G) (fb xs ++ G) :=
  HEq.cons ⟨rfl, rfl, fun _ _ _ h => blk_toL (cells_toL xs).symm h⟩ (HEq.refl G)
theorem CallOK.args {P : Program} {f : FuncId} {args args' : List AV} {v : AV} {H H' : List AB} (h : CallOK P f args H v H') (ha : ∀ (σ : List (Nat × Nat)) (l : List Value), RelL σ args' l → RelL σ args l) : CallOK P f args' H v H' := fun σ w rargs s hra => h σ w rargs s (ha σ _ hra)
theorem one_ok {f : FuncId} {T : Nat → (Nat → Nat) → Nat → Nat → Nat} {D : Nat → Nat → Nat} (h : OneRun f T D) (xs : List Nat) (z : Nat) (hx : xs.length ≤ 5000) (hz : xs.length = 0 ∨ 0 < z) :
    CallOK Try.prog f [.sl false 0 0 xs.length z] (fb xs) (uniV 1 (shOK T D xs) (shL T D xs).length (shC T D xs)) (fb xs ++ [uniB (shOK T D xs) (shL T D xs)]) := by
  unfold shOK shC
  cases hfin : finL xs with
  | false => exact h.bad1 xs z hx hfin _ _
  | true =>
    cases hp : prB xs.length with
    | false => exact h.bad2 xs z hx hfin hp _ _
    | true =>
      have hmem := prB_iff.1 hp
      have hpos : 0 < z := by
        rcases hz with h0 | h0
        · simp only [primes, List.mem_cons, List.not_mem_nil, or_false] at hmem; omega
        · exact h0
      have hxl : xL xs.length (at0 xs) = xs := xL_eq xs
      have conv : ∀ {v : AV} {B : AB}, CallOK Try.prog f [.sl true 0 0 xs.length 1] (cellsL xs.length (at0 xs)) v (cellsL xs.length (at0 xs) ++ [B]) → CallOK Try.prog f [.sl false 0 0 xs.length z] (fb xs) v (fb xs ++ [B]) := fun {v B} k => by
        have k1 := (k.pre (heq_cells xs [])).post (heq_cells' xs [B])
        refine k1.args fun σ l r => ?_
        cases r with | cons r hs =>
        refine .cons ?_ hs
        have := sl_z1 r hpos
        exact Rel.unbare (a := .sl true 0 0 xs.length 1) this.bare
      cases hs : finL (sumL xs.length (T xs.length (at0 xs)) (D xs.length)) with
      | false => exact conv (h.bad3 xs.length hmem (at0 xs) (by rw [hxl]; exact hfin) hs _ _)
      | true => exact conv (h.good xs.length hmem (at0 xs) (by rw [hxl]; exact hfin) hs)
def zOK : AV → List Bool
  | .sl _ _ _ len z => [decide (len = 0) || decide (0 < z)]
  | _ => [false]
noncomputable def oneT (T : Nat → (Nat → Nat) → Nat → Nat → Nat) (D : Nat → Nat → Nat) : Table := fun _ args H nd K =>
  match args with
  | [a] => match floatsAt H a with
    | some (xs, q) => K (uniV H.length (shOK T D xs) (shL T D xs).length (shC T D xs)) (H ++ [uniB (shOK T D xs) (shL T D xs)]) (zOK a ++ (q ++ nd))
    | none => .fail
  | _ => .fail
theorem one_at {f : FuncId} {T : Nat → (Nat → Nat) → Nat → Nat → Nat} {D : Nat → Nat → Nat} (h : OneRun f T D) : SoundAt Try.prog f (oneT T D) := fun args H nd K => by
  unfold oneT
  split
  case h_2 => exact .inl rfl
  split
  case h_2 => exact .inl rfl
  rename_i a _ xs q hi
  refine .inr ⟨_, _, _, rfl, fun hn => ?_⟩
  rw [allT_append, allT_append, Bool.and_eq_true, Bool.and_eq_true] at hn
  obtain ⟨hz, hq, hnd⟩ := hn
  obtain ⟨l, id, r, A, z, rfl, hg, hA, h5⟩ := floatsAt_spec hi hq
  have hz : xs.length = 0 ∨ 0 < z := by
    simp only [zOK, allT, Bool.and_true, Bool.or_eq_true, decide_eq_true_eq] at hz
    exact hz
  refine ⟨hnd, ?_⟩
  have k := uni_at (H := H) (ids := [id]) (one_ok h xs z h5 hz) (fb_ro xs) rfl rfl (fun i hi => by
    have : i = 0 := by simp [fb] at hi; exact hi
    subst this
    refine ⟨getB_lt hg, fun σ τ z o hb => ?_⟩
    have e : ([id] : List Nat).getD 0 0 = id := rfl
    rw [e, hg] at hb
    exact ro_floats hA hb)
  exact k.bare rfl
theorem deD_read (p : Nat) (hp : p ∈ primes) : ∃ n q, Ieee.single.read (FloatKind.f32.nearest (Int.ofNat ((p + 1) / 2))) = .number false n (-149 + (q : Nat)) ∧ 8388608 ≤ n ∧ n < 16777216 ∧ 127 ≤ q := by
  simp only [primes, List.mem_cons, List.not_mem_nil, or_false] at hp
  rcases hp with rfl | rfl | rfl | rfl | rfl | rfl
  · exact ⟨8388608, 127, by decide +kernel, by decide, by decide, by decide⟩
  · exact ⟨8388608, 128, by decide +kernel, by decide, by decide, by decide⟩
  · exact ⟨12582912, 128, by decide +kernel, by decide, by decide, by decide⟩
  · exact ⟨10485760, 129, by decide +kernel, by decide, by decide, by decide⟩
  · exact ⟨12582912, 129, by decide +kernel, by decide, by decide, by decide⟩
  · exact ⟨8388608, 130, by decide +kernel, by decide, by decide, by decide⟩
theorem deD_fin (p : Nat) (hp : p ∈ primes) (s : Nat) : finB (deD p s) = finB s := by
  obtain ⟨n, q, h1, h2, h3, h4⟩ := deD_read p hp
  rw [Bool.eq_iff_iff]
  constructor
  · intro h
    exact finB_iff.2 (fdiv_absorb h1 h)
  · intro h
    obtain ⟨a, ha⟩ := finB_iff.1 h
    exact finB_iff.2 (fdiv_fin h1 h2 h3 h4 ha)
theorem run_all {Q : Nat → Prop} (h3 : Q 3) (h7 : Q 7) (h11 : Q 11) (h19 : Q 19) (h23 : Q 23) (h31 : Q 31) : ∀ p ∈ primes, Q p := fun p hp => by
  simp only [primes, List.mem_cons, List.not_mem_nil, or_false] at hp
  rcases hp with rfl | rfl | rfl | rfl | rfl | rfl
  · exact h3
  · exact h7
  · exact h11
  · exact h19
  · exact h23
  · exact h31
def shT' (p : Nat) (x : Nat → Nat) : Nat → Nat → Nat := shT p x
def idD' (_ : Nat) : Nat → Nat := idD
theorem shad_one : OneRun 48 shT idD' := impl_one (.inl rfl) (run_all (Q := ShadRun) shad3 shad7 shad11 shad19 shad23 shad31)
theorem sshad_one : OneRun 49 shT idD' := spec_one (.inl rfl) (fun _ _ _ => rfl) (run_all (Q := SShadRun) sshad3 sshad7 sshad11 sshad19 sshad23 sshad31)
theorem dec_one : OneRun 51 deT deD := impl_one (.inr rfl) (run_all (Q := DecRun) dec3 dec7 dec11 dec19 dec23 dec31)
theorem sdec_one : OneRun 52 deT deD := spec_one (.inr rfl) deD_fin (run_all (Q := SDecRun) sdec3 sdec7 sdec11 sdec19 sdec23 sdec31)
end Go.Ax
