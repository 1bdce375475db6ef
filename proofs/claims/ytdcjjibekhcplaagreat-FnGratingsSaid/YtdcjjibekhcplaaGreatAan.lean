/- Gratings, discs, zones, lenses of both sides: what is to be evaluated. -/
import Derived.Test.YtdcjjibekhcplaaGreatAam
namespace Go.Ax
open Go Go.Proofs

noncomputable def rowsG : List (FuncId × Table) := (153, pureT gPhase) :: (154, pureT gSp) :: rowsK
theorem rowsG_at : ∀ p ∈ rowsG, SoundAt Tryz.prog p.1 p.2 := fun p hp => by
  simp only [rowsG, List.mem_cons] at hp
  rcases hp with rfl | rfl | hp
  · exact phase_at
  · exact sp_at
  · exact rowsK_at p hp
noncomputable def tabGr : Table := tabOf (jdeep Tryz.prog rowsG [] 4000 10)
theorem tabGr_sound : SoundT Tryz.prog tabGr := jdeep_sound rowsG_at 10
noncomputable def rG (f : FuncId) (n : Int) (l : List Int) : Option (AV × List Bool) := joinR 0 (tabGr f (.i true .i64 n :: l.map (.i false .i64)) [] [] fun v H nd => .ret v H nd)
def wr (a : Int) : Int := wrapQ false .i64 a
def inR (lo a hi : Int) : Bool := cond (leQ false lo a) (leQ false a hi) false
def xJ (n : Int) (j : Nat) : Int := (Int.ofNat j).tmod n
def yJ (n : Int) (j : Nat) : Int := (Int.ofNat j).tdiv n
/-- A wave, or none, by a test. -/
def mkV (N : Nat) (n : Int) (bad : Bool) (re im : Nat → Nat) : AV :=
  .tup [.agg (.i false .i64 (cond bad 0 n) :: (List.range 64).map fun j => match Nat.ble N j with
    | true => .c true .f32 0 0
    | false => .c false .f32 (plusF (cond bad 0 (re j))) (plusF (cond bad 0 (im j)))), .i false .i64 (cond bad 2 0)]
def dst (n v u : Int) (j : Nat) : Int := wr (wr (wr (2 * yJ n j - v) * wr (2 * yJ n j - v)) + wr (wr (2 * xJ n j - u) * wr (2 * xJ n j - u)))
def ctr (n v u : Int) : Bool := cond (inR 0 v (2 * (n - 1))) (inR 0 u (2 * (n - 1))) false
def bit (b : Nat → Bool) (j : Nat) : Nat := cond (b j) 1065353216 0
def zer (b : Nat → Bool) (j : Nat) : Nat := cond (b j) 0 0
def slB (n x w : Int) : Bool := cond (!inR 0 x (n - 1)) true (!inR 0 w (wr (n - x)))
def slT (n x w : Int) (j : Nat) : Bool := cond (leQ false x (xJ n j)) (leQ false (xJ n j) (wr (wr (x + w) - 1))) false
def diB (n v u r : Int) : Bool := cond (!ctr n v u) true (!inR 0 r 1000)
def diT (n v u r : Int) (j : Nat) : Bool := leQ false (dst n v u j) r
def grB (n p q : Int) : Bool := cond (!inR 1 p n) true (!inR 0 q p)
def grT (n p q : Int) (j : Nat) : Bool := ltQ false ((xJ n j).tmod p) q
def chB (n p : Int) : Bool := !inR 1 p n
def chT (n p : Int) (j : Nat) : Bool := eqQ false ((wr (IntKind.i64.wrap ((yJ n j).tdiv p) + IntKind.i64.wrap ((xJ n j).tdiv p))).tmod 2) 0
def zoB (n v u q : Int) : Bool := cond (!ctr n v u) true (!inR 1 q 1000)
def zoT (n v u q : Int) (j : Nat) : Bool := eqQ false ((IntKind.i64.wrap ((dst n v u j).tdiv q)).tmod 2) 0
def blB (n p k : Int) : Bool := cond (!inR 1 p n) true (!inR (-64) k 64)
def blK (n p k : Int) (j : Nat) : Int := wr (k * (xJ n j).tmod p)
def leB (n v u k : Int) : Bool := cond (!ctr n v u) true (!inR (-64) k 64)
def leK (n v u k : Int) (j : Nat) : Int := wr (k * dst n v u j)
end Go.Ax

/- Gratings, discs, zones, lenses: from what is evaluated to calls, and sides that are none. -/
namespace Go.Ax
open Go Go.Proofs

def grOK (n : Int) (bad : Bool) : Bool := sideB n && !bad
def grX (n : Int) (bad : Bool) (re im : Nat → Nat) (j : Nat) : Nat × Nat := match grOK n bad && Nat.blt j (n.toNat * n.toNat) with
  | true => (plusF (re j), plusF (im j))
  | false => (0, 0)
def grR (n : Int) (bad : Bool) (re im : Nat → Nat) : AV := .tup [wv (cond (grOK n bad) n 0) (grX n bad re im), .i false .i64 (cond (grOK n bad) 0 2)]
theorem gr_rel {n : Int} {bad : Bool} {re im : Nat → Nat} (hs : sideB n = true) {σ : List (Nat × Nat)} {x : Value} (r : Rel σ (mkV (n.toNat * n.toNat) n bad re im) x) : Rel σ (grR n bad re im) x := by
  unfold mkV at r
  refine tup2_weak (l' := waveL (cond (grOK n bad) n 0) (grX n bad re im)) (c' := .i false .i64 (cond (grOK n bad) 0 2)) ?_ ?_ r
  · simp only [waveL, List.map_cons, List.map_map, AV.bare]
    have e : cond bad 0 n = cond (grOK n bad) n 0 := by unfold grOK; rw [hs]; cases bad <;> rfl
    rw [e]
    congr 1
    apply List.map_congr_left
    intro j _
    simp only [Function.comp, cx, grX]
    rw [ble_blt]
    unfold grOK
    rw [hs]
    cases hb : Nat.blt j (n.toNat * n.toNat) with
    | false => simp [AV.bare]
    | true => cases bad <;> simp [AV.bare, plus_zero]
  · unfold grOK; rw [hs]; cases bad <;> rfl
theorem gr_zero {n : Int} {bad : Bool} {re im : Nat → Nat} (hs : sideB n = false) {σ : List (Nat × Nat)} {x : Value} (r : Rel σ (zeroV 2) x) : Rel σ (grR n bad re im) x := by
  have e : grOK n bad = false := by simp [grOK, hs]
  have h := zero_wave (n := cond (grOK n bad) n 0) (X := grX n bad re im) (c := 2) (fun j => by simp [grX, e]) (by rw [e]; rfl) r
  unfold grR
  rw [e] at h ⊢
  exact h
/-- The arguments: a side, and integers. -/
def grA (l : Bool) (n : Int) (xs : List Int) : List AV := .i l .i64 n :: xs.map (.i false .i64)
theorem grA_low (l : Bool) (n : Int) (xs : List Int) : belowL 0 (grA l n xs) = true := by
  unfold grA
  have : ∀ xs : List Int, belowL 0 (xs.map (.i false .i64)) = true := fun xs => by
    induction xs with
    | nil => rfl
    | cons x xs ih => simp [belowL, below, ih]
  simp [belowL, below, this]
theorem gr_some {f : FuncId} {n : Int} {xs : List Int} {bad : Bool} {re im : Nat → Nat} {nd : List Bool} (h : rG f n xs = some (mkV (n.toNat * n.toNat) n bad re im, nd)) (hs : sideB n = true) (hn : allT nd = true) (H : List AB) : CallOK Tryz.prog f (grA false n xs) H (grR n bad re im) H :=
  ((call_of_join (args := grA true n xs) tabGr_sound h hn (grA_low true n xs) H).bare (args' := grA false n xs) rfl).weaken fun σ x r => gr_rel hs r
noncomputable def rN (f : FuncId) (n : Int) (l : List Int) : Option (AV × List Bool) := joinR 0 (tabN f (grA false n l) [] [] fun v H nd => .ret v H nd)
theorem gr_none {f : FuncId} {n : Int} {xs : List Int} {bad : Bool} {re im : Nat → Nat} (h : rN f n xs = some (zeroV 2, [!sideB n])) (hs : sideB n = false) (H : List AB) : CallOK Tryz.prog f (grA false n xs) H (grR n bad re im) H :=
  (call_of_join (args := grA false n xs) tabN_sound h (by simp [allT, hs]) (grA_low false n xs) H).weaken fun σ x r => gr_zero hs r
/-- What is known of a function: on every side, and where the side is none. -/
structure GrFn (f : FuncId) (xs : List Int) (bad : Int → Bool) (re im : Int → Nat → Nat) : Prop where
  yes : ∀ n : Int, sideB n = true → ∃ nd, rG f n xs = some (mkV (n.toNat * n.toNat) n (bad n) (re n) (im n), nd) ∧ allT nd = true
  no : ∀ n : Int, rN f n xs = some (zeroV 2, [!sideB n])
theorem GrFn.ok {f : FuncId} {xs : List Int} {bad : Int → Bool} {re im : Int → Nat → Nat} (h : GrFn f xs bad re im) (n : Int) (H : List AB) : CallOK Tryz.prog f (grA false n xs) H (grR n (bad n) (re n) (im n)) H := by
  cases hs : sideB n with
  | false => exact gr_none (h.no n) hs H
  | true =>
    obtain ⟨nd, h1, h2⟩ := h.yes n hs
    exact gr_some h1 hs h2 H
/-! ### What is to be shown -/
def ndI (bad : Bool) (e : List Bool) (N : Nat) (t : Nat → Bool) : List Bool := [cond (!bad) (andT ((List.range N).flatMap fun k => [cond (t (N - 1 - k)) (andT e) true, cond (!t (N - 1 - k)) (andT e) true])) true]
def ndS (bad : Bool) (e : Bool) (m : Nat) : List Bool := [cond (!bad) (andT (List.replicate m e)) true]
theorem andT_of {l : List Bool} (h : ∀ b ∈ l, b = true) : andT l = true := by rw [andT_eq]; exact allT_of h
theorem ndI_ok {bad : Bool} {e : List Bool} {N : Nat} {t : Nat → Bool} (h : bad = false → ∀ b ∈ e, b = true) : allT (ndI bad e N t) = true := by
  unfold ndI
  cases bad with
  | true => rfl
  | false =>
    have he := andT_of (h rfl)
    simp only [Bool.not_false, cond_true, allT, Bool.and_true]
    refine andT_of fun b hb => ?_
    obtain ⟨k, _, hb⟩ := List.mem_flatMap.1 hb
    rw [he] at hb
    simp only [List.mem_cons, List.not_mem_nil, or_false] at hb
    rcases hb with rfl | rfl
    · cases t (N - 1 - k) <;> rfl
    · cases t (N - 1 - k) <;> rfl
theorem ndS_ok {bad : Bool} {e : Bool} {m : Nat} (h : bad = false → e = true) : allT (ndS bad e m) = true := by
  unfold ndS
  cases bad with
  | true => rfl
  | false =>
    simp only [Bool.not_false, cond_true, allT, Bool.and_true]
    exact andT_of fun b hb => by rw [List.eq_of_mem_replicate hb]; exact h rfl
theorem inR_iff {lo a hi : Int} : inR lo a hi = true ↔ lo ≤ a ∧ a ≤ hi := by
  unfold inR
  rw [leQ_eq, leQ_eq]
  by_cases h : lo ≤ a <;> simp [h]
theorem ne0_of {a hi : Int} (h : inR 1 a hi = true) : (!(a == 0)) = true := by
  have := inR_iff.1 h
  simp only [Bool.not_eq_true', beq_eq_false_iff_ne]
  omega
end Go.Ax
