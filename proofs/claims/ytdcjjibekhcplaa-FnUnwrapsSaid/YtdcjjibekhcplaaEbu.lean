/- The law of unwrapping: planes, evaluated. -/
import Derived.Test.YtdcjjibekhcplaaEad
import Derived.Test.YtdcjjibekhcplaaEbt
import Derived.Test.YtdcjjibekhcplaaRows
import Derived.ProofKit
import Derived.HandedShaped
namespace Go.Ax
open Go Go.Proofs

def pV (n u v : Int) (k : Nat) : Int := IntKind.i64.wrap (IntKind.i64.wrap (u * (Int.ofNat k).tmod n) + IntKind.i64.wrap (v * IntKind.i64.wrap ((Int.ofNat k).tdiv n)))
theorem lpU_go (R : UwR) (c : Cd) (n u v : Int) (ps : List Int) (k : Nat) : (condsP (lpU R c n u v ps k) [true], lfM lpm ((lpU R c n u v ps k).at [true])) = ([zqc1 n k], true, lpL53, (lt7 c (lp n u v (.sl false 1 0 ps.length 1) (Int.ofNat k))).map AV.bare, [codeB c false, qB ps], []) := by kernel_rfl
def lpZ (c : Cd) (ps : List Int) (x : Int) : List AB := [codeB c false, .dead, .cells true (.lit [.i false .i64 x]), qB (List.take (ps.length * 1) (List.drop 0 ps) ++ [x])]
theorem lp53_out (R : UwR) (c : Cd) (n u v : Int) (ps : List Int) (k : Nat) : lfM lpm (lp53 R c n u v ps k) = (true, [], (lt7 c (lp n u v (.sl false 3 0 (ps.length + 1) 1) (Int.ofNat k))).map AV.bare, lpZ c ps (pV n u v k), [apQ ps.length ps, !(n == 0), !(n == 0)]) := by kernel_rfl
theorem lp53_drop (c : Cd) (n u v : Int) (ps : List Int) (k : Int) (x : Int) (q : Nat) : dropsT 1 [2, 1] (lt7 c (lp n u v (.sl false 3 0 q 1) k)) (lpZ c ps x) = (true, lt7 c (lp n u v (.sl false 1 0 q 1) k), [codeB c false, qB (List.take (ps.length * 1) (List.drop 0 ps) ++ [x])]) := by kernel_rfl
theorem lpE_ok (R : UwR) (c : Cd) (n u v : Int) (s : AV) (H : List AB) (k : Nat) : (condsP (lpE R c n u v s H k) [], lfM lpm ((lpE R c n u v s H k).at [])) = ([], true, lpR, (lt7 c (lp n u v s (wrapQ false .i64 (Int.ofNat k + 1)))).map AV.bare, H, []) := by kernel_rfl
def lpRR (R : UwR) (n : Int) (ps : List Int) : List Int := R.rw n (R.wr n ps)
def lpSS (R : UwR) (n : Int) (ps : List Int) : List Int := R.sl n (lpRR R n ps)
def lpN (n u : Int) (ps w rr ss : List Int) : List Bool :=
  [cond (!eqQ false n 1) (andT (guardL (eqQ false (cmX ss 0) u) (ixQ ss 1 ++ ixQ ss 0) ++ guardL (!eqQ false (cmX ss 0) u) (ixQ ss 0))) true, cond (!(rr == ps)) (andT (szQ rr ++ szQ ps)) true, cond (!!(rr == ps)) (andT (szQ rr ++ szQ ps)) true] ++ (szQ rr ++ (szQ w ++ szQ ps))
theorem lpU_end (R : UwR) (c : Cd) (n u v : Int) (ps : List Int) (k : Nat) : (condsP (lpU R c n u v ps k) [false, true, true, true, false], endV Try.prog Try.f7.results.toList ((lpU R c n u v ps k).at [false, true, true, true, false])) =
    ([!zqc1 n k, eqQ false (R.cm n ps) 0, eqQ false (R.cw n (R.wr n ps)) 0, eqQ false (R.cm n (lpRR R n ps)) 0, !cond (!(lpRR R n ps == ps)) true (!eqQ false ((lpSS R n ps).length : Int) 2)],
     some (some ([.b false (cond (eqQ false n 1) true (cond (eqQ false (cmX (lpSS R n ps) 0) u) (eqQ false (cmX (lpSS R n ps) 1) v) false))], []), lpN n u ps (R.wr n ps) (lpRR R n ps) (lpSS R n ps))) := by kernel_rfl
end Go.Ax

/- The law of unwrapping: the rows are sound; plain facts. -/
namespace Go.Ax
open Go Go.Proofs

noncomputable def UR : UwR := ⟨drawZV, drawFV, fun c => drawQV formI2 (fun _ => true) 88 c, wcZ, mcZ, rwL, rsL, wrL, slL, fcZ, fdL, wdV, wdK⟩
theorem belF_at (b : Int) : SoundAt Try.prog 16 (belFT b) := fun args H nd K => by
  refine srcT_sound (fun c a h sc v a' h' q hc hg hq => ?_) args H nd K
  split at hg <;> (try (cases hg; done))
  rename_i n
  obtain ⟨H2, k, e1, e2, e3⟩ := below_ok hc a h n
  have k1 := k.bare (args' := [.p true 1 0, .i true .i64 n]) rfl
  split at hg
  · simp only [Option.some.injEq, Prod.mk.injEq] at hg
    obtain ⟨rfl, rfl, rfl, rfl⟩ := hg
    simp only [allT, Bool.and_true, eqQ_eq, beq_iff_eq] at hq
    refine ⟨H2, k1.weaken fun σ x r => ?_, e1, rfl, rfl⟩
    rw [hq] at r
    cases r; exact .i _ _
  · simp only [Option.some.injEq, Prod.mk.injEq] at hg
    obtain ⟨rfl, rfl, rfl, rfl⟩ := hg
    exact ⟨H2, k1, e1, e2, rfl⟩
theorem fdP_at {f : FuncId} (h : SoundAt Try.prog f fdT) : SoundAt Try.prog f (fdTP fcZ fdL) := h
theorem drawH_at : SoundAt Try.prog 88 (drawHT fun c => drawQV formI2 (fun _ => true) 88 c) := fun args H nd K => by
  have h := dz88_at args H nd K
  unfold drawQT at h
  unfold drawHT
  split at h
  · exact h
  · rename_i hno
    split
    · exact absurd rfl (hno _ _ _ rfl)
    · exact .inl rfl
theorem wdP_at (f : FuncId) (hf : f = 89 ∨ f = 90) : SoundAt Try.prog f (pureT (gWdP wdV wdK)) := by
  have e : gWdP wdV wdK = gWd := by
    funext args
    unfold gWdP gWd wdRes
    rfl
  rw [e]
  exact wdf_at f hf
theorem rowsLu_at (b : Int) : ∀ p ∈ rowsLu UR b, SoundAt Try.prog p.1 p.2 := fun p hp => by
  simp only [rowsLu, List.mem_cons, List.not_mem_nil, or_false] at hp
  rcases hp with rfl | rfl | rfl | rfl | rfl | rfl | rfl | rfl | rfl | rfl | rfl | rfl | rfl | rfl | rfl | rfl | rfl | rfl | rfl
  · exact dz79_at
  · exact ur_at
  · exact vr_at
  · exact rs82_at
  · exact rs83_at
  · exact wr_at
  · exact flatw_at 20 (.inl rfl)
  · exact fdP_at fl85_at
  · exact dz86_at
  · exact fdP_at fl87_at
  · exact drawH_at
  · exact wdP_at 89 (.inl rfl)
  · exact wdP_at 90 (.inr rfl)
  · exact dz91_at
  · exact so_at
  · exact zq_at
  · exact like_at
  · exact roll_at
  · exact belF_at b
theorem tabLu_sound (b : Int) : SoundT Try.prog (tabLu UR b) := jdeep_sound (rowsLu_at b) 8
/-! ### Plain facts -/
theorem cond_ok {b : Bool} {l : List Bool} (h : allT l = true) : cond b (andT l) true = true := by
  cases b
  · rfl
  · show andT l = true
    rw [andT_eq]; exact h
section
variable {m : Nat} (hm : m = 1 ∨ m = 2 ∨ m = 4 ∨ m = 8) {x0 : Nat → Int} {X X' : Nat → Nat × Nat} (hX : ∀ j, j < m * m → xzB X j = xzB X' j)
include hm hX
theorem fl1_congr {p : Nat} (hp : p < m * m) (s : Fl) (i : Nat) : fl1 m x0 X p s i = fl1 m x0 X' p s i := by
  unfold fl1
  cases ht : tgt m p i with
  | none => rfl
  | some to =>
    simp only []
    rw [hX to (tgt_lt hm hp ht)]
theorem fl4_congr {p : Nat} (hp : p < m * m) (s : Fl) : fl4 m x0 X p s = fl4 m x0 X' p s := by
  unfold fl4
  rw [fl1_congr hm hX hp, fl1_congr hm hX hp, fl1_congr hm hX hp, fl1_congr hm hX hp]
theorem flGo_congr (hx : ∀ i, i < m * m → 0 ≤ x0 i ∧ x0 i ≤ 63) : ∀ (f k : Nat) {s : Fl}, FlOK m s → flGo m x0 X f k s = flGo m x0 X' f k s
  | 0, _, _, _ => rfl
  | f + 1, k, s, h => by
    unfold flGo
    cases hg : s.qs[k]? with
    | none => rfl
    | some p =>
      have hp := h.low p (List.mem_of_getElem? hg)
      simp only []
      rw [fl4_congr hm hX hp]
      exact flGo_congr hx f (k + 1) (fl4_ok hm hx hp h)
theorem flEnd_congr (hx : ∀ i, i < m * m → 0 ≤ x0 i ∧ x0 i ≤ 63) {p : Nat} (hp : p < m * m) : flEnd m x0 X p = flEnd m x0 X' p := flGo_congr hm hX hx _ _ (flIni_ok hx hp)
end
theorem plus_one : (feq .f32 (plusF oneZ.1) 0 && feq .f32 (plusF oneZ.2) 0) = false := by kernel_rfl
theorem open_at {m : Nat} (hm : m = 1 ∨ m = 2 ∨ m = 4 ∨ m = 8) : ∀ j, j < m * m → xzB (eX m) j = xzB (fun _ => oneZ) j := fun j hj => by
  have e1 : ∀ j, xzB (fun _ => oneZ) j = false := fun j => by kernel_rfl
  rw [e1]
  have h64 : j < 64 := by rcases hm with rfl | rfl | rfl | rfl <;> omega
  have h1 : flatOK (m : Int) oneZ = true := by rcases hm with rfl | rfl | rfl | rfl <;> kernel_rfl
  have h2 : Nat.blt j ((m : Int).toNat * (m : Int).toNat) = true := by
    rw [Int.toNat_natCast, Nat.blt_eq]; exact hj
  have hf : flatX (m : Int) oneZ j = (plusF oneZ.1, plusF oneZ.2) := by
    unfold flatX
    rw [h1, h2]
    rfl
  unfold eX xzB
  rw [reX_eq h64, hf]
  exact plus_one
theorem fcZ_open {m : Nat} (hm : m = 1 ∨ m = 2 ∨ m = 4 ∨ m = 8) {xs : List Int} (hw : wcZ m xs = 0) : fcZ m xs (eN m) (eX m) 0 0 = 0 := by
  unfold fcZ
  rw [hw]
  rcases hm with rfl | rfl | rfl | rfl <;> kernel_rfl
end Go.Ax

/- The law of unwrapping: the first part. -/
namespace Go.Ax
open Go Go.Proofs

def clA (s : List Int) : Nat → Bool
  | 0 => true
  | k + 1 => cond (clA s k) (eqQ false (cmX s k) 0) false
def clB (n : Int) (xs : List Int) (b0 : Bool) : Nat → Bool
  | 0 => b0
  | k + 1 => lb2' n xs (clB n xs b0 k) k
theorem clA_zero {s : List Int} : ∀ {k : Nat}, clA s k = true → ∀ j, j < k → s.getD j 0 = 0
  | 0, _, j, hj => absurd hj (Nat.not_lt_zero _)
  | k + 1, h, j, hj => by
    unfold clA at h
    cases hc : clA s k with
    | false => rw [hc] at h; cases h
    | true =>
      rw [hc] at h
      have h : eqQ false (cmX s k) 0 = true := h
      rw [cmX_eq, eqQ_eq, beq_iff_eq] at h
      rcases Nat.lt_or_ge j k with hjk | hjk
      · exact clA_zero hc j hjk
      · have : j = k := by omega
        subst this; exact h
theorem clB_zero {n : Int} {xs : List Int} {b0 : Bool} : ∀ {k : Nat}, clB n xs b0 k = true → b0 = true ∧ ∀ j, j < k → (zqc2 n j = true → dhE xs j (wrapQ false .i64 (Int.ofNat j + 1)) = true) ∧ (lbc2 n j = true → dhE xs j (wrapQ false .i64 (Int.ofNat j + n)) = true)
  | 0, h => ⟨h, fun j hj => absurd hj (Nat.not_lt_zero _)⟩
  | k + 1, h => by
    unfold clB lb2' lb1 at h
    have key : clB n xs b0 k = true ∧ (zqc2 n k = true → dhE xs k (wrapQ false .i64 (Int.ofNat k + 1)) = true) ∧ (lbc2 n k = true → dhE xs k (wrapQ false .i64 (Int.ofNat k + n)) = true) := by
      revert h
      cases clB n xs b0 k <;> cases zqc2 n k <;> cases lbc2 n k <;> cases dhE xs k (wrapQ false .i64 (Int.ofNat k + 1)) <;> cases dhE xs k (wrapQ false .i64 (Int.ofNat k + n)) <;> simp
    obtain ⟨h0, h1, h2⟩ := key
    obtain ⟨hb, ih⟩ := clB_zero h0
    refine ⟨hb, fun j hj => ?_⟩
    rcases Nat.lt_or_ge j k with hjk | hjk
    · exact ih j hjk
    · have : j = k := by omega
      subst this; exact ⟨h1, h2⟩
theorem dhE_ne {xs : List Int} {k j : Nat} (hb : ∀ i, i < xs.length → 0 ≤ xs.getD i 0 ∧ xs.getD i 0 ≤ 63) (hk : k < xs.length) (hj : j < xs.length) (h : dhE xs k (j : Int) = true) : (xs.getD j 0 - xs.getD k 0 - 32) % 64 ≠ 0 := by
  unfold dhE at h
  have h1 := hb k hk
  have h2 := hb j hj
  simp only [Int.toNat_natCast, Nat.mul_one, Nat.zero_add] at h
  rw [small64 (x := xs.getD j 0 - xs.getD k 0) (by omega), small64 (x := xs.getD j 0 - xs.getD k 0 - 32) (by omega), eqQ_eq] at h
  intro h0
  have := Int.tmod_eq_zero_of_dvd (Int.dvd_of_emod_eq_zero h0)
  rw [this] at h
  simp at h
theorem la_go {c : Cd} {n : Int} {xs r s w f : List Int} {B : AB} {t0 : List AV} {H0 : List AB} {todo0 : List Item} (h5 : s.length ≤ 5000) {L0 : List Item} (hL0 : toLp L0 = laR) (h : Reach Try.prog todo0 t0 H0 L0 (lt7 c (la n xs r s f true 0)) (h14 c xs r s w B f)) :
    ∀ k, k ≤ s.length → ∃ L, toLp L = laR ∧ Reach Try.prog todo0 t0 H0 L (lt7 c (la n xs r s f (clA s k) (Int.ofNat k))) (h14 c xs r s w B f)
  | 0, _ => ⟨L0, hL0, h⟩
  | k + 1, hk => by
    obtain ⟨L, hL, r1⟩ := la_go h5 hL0 h k (by omega)
    have hg := laU_go UR c n xs r s w B f (clA s k) k
    simp only [Prod.mk.injEq] at hg
    have r2 := r1.trans (way_reach (P := Try.prog) (T := tabLu UR 0) (stop := atLoop) (n := 4000) (L := L) (R := laR) (p := [true]) (M := lam) (tabLu_sound 0) (by rw [hL, laR_eq]) (by
      show allT (condsP (laU UR c n xs r s w B f (clA s k) k) [true]) = true
      rw [hg.1]
      show (ltQ false (Int.ofNat k) (s.length : Int) && true) = true
      rw [Bool.and_true]
      exact ltQ_true (by omega)) hg.2 (by
      show ((cond (clA s k) (andT (ixQ s k)) true) && true) = true
      rw [cond_ok (ixQ_ok (by omega))]; rfl))
    rw [ofNat_next (by omega)] at r2
    exact ⟨laR, laR_eq, r2⟩
theorem lbc2_eq {m k : Nat} (hm : m = 1 ∨ m = 2 ∨ m = 4 ∨ m = 8) (hk : k ≤ 64) : wrapQ false .i64 (Int.ofNat k + (m : Int)) = ((k + m : Nat) : Int) ∧ lbc2 (m : Int) k = decide (k + m < m * m) := by
  have e : wrapQ false .i64 (Int.ofNat k + (m : Int)) = ((k + m : Nat) : Int) := by
    rw [small64 (by simp; omega)]; simp
  refine ⟨e, ?_⟩
  unfold lbc2
  have hmm : wrapQ false .i64 ((m : Int) * m) = ((m * m : Nat) : Int) := by rcases hm with rfl | rfl | rfl | rfl <;> rfl
  rw [e, hmm, ltQ_nat]
theorem iyQ_ok {xs : List Int} {j : Nat} (hj : j < xs.length) : allT (iyQ xs (j : Int)) = true := by simp [iyQ, allT, Cells.len]; omega
theorem lbN_ok {m k : Nat} (hm : m = 1 ∨ m = 2 ∨ m = 4 ∨ m = 8) {xs : List Int} (hx : xs.length = m * m) (hk : k < m * m) (b : Bool) : allT (lbN (m : Int) xs b k) = true := by
  have hN : m * m ≤ 64 := by rcases hm with rfl | rfl | rfl | rfl <;> decide
  obtain ⟨e1, e2⟩ := lbc2_eq hm (by omega : k ≤ 64)
  have e3 := zqc2_eq (m := m) (k := k) (by omega)
  have e4 : wrapQ false .i64 (Int.ofNat k + 1) = ((k + 1 : Nat) : Int) := ofNat_next (by omega)
  have hn0 : (!((m : Int) == 0)) = true := by simp; omega
  have g : ∀ (b : Bool) (j : Nat), j < xs.length → andT (guardL b (ixQ xs k ++ iyQ xs (j : Int)) ++ guardL (!b) []) = true := fun b j hj => by
    rw [andT_eq, allT_append, guard_ok _ (by rw [allT_append, ixQ_ok (by omega), iyQ_ok hj]; rfl), guard_ok _ rfl]; rfl
  unfold lbN
  rw [e1, e4, hn0]
  have h1 : cond (lbc2 (m : Int) k) (andT (guardL (lb1 (m : Int) xs b k) (ixQ xs k ++ iyQ xs ((k + m : Nat) : Int)) ++ guardL (!lb1 (m : Int) xs b k) [])) true = true := by
    rw [e2]
    by_cases hc : k + m < m * m
    · rw [g _ _ (by omega)]; cases decide (k + m < m * m) <;> rfl
    · rw [decide_eq_false hc]; rfl
  have h2 : cond (zqc2 (m : Int) k) (andT (guardL b (ixQ xs k ++ iyQ xs ((k + 1 : Nat) : Int)) ++ guardL (!b) [])) true = true := by
    rw [e3]
    cases hc : Nat.blt (k % m + 1) m with
    | false => rfl
    | true =>
      have hc := blt_true hc
      rw [g _ _ (by rw [hx]; rcases hm with rfl | rfl | rfl | rfl <;> omega)]; rfl
  rw [h1, h2]; rfl
theorem lb_go {c : Cd} {m : Nat} (hm : m = 1 ∨ m = 2 ∨ m = 4 ∨ m = 8) {xs r s w f : List Int} (hx : xs.length = m * m) {B : AB} {b0 : Bool} {t0 : List AV} {H0 : List AB} {todo0 : List Item} {L0 : List Item} (hL0 : toLp L0 = lbR) (h : Reach Try.prog todo0 t0 H0 L0 (lt7 c (lb7 m xs r f b0 0)) (h14 c xs r s w B f)) :
    ∀ k, k ≤ m * m → ∃ L, toLp L = lbR ∧ Reach Try.prog todo0 t0 H0 L (lt7 c (lb7 m xs r f (clB m xs b0 k) (Int.ofNat k))) (h14 c xs r s w B f)
  | 0, _ => ⟨L0, hL0, h⟩
  | k + 1, hk => by
    obtain ⟨L, hL, r1⟩ := lb_go hm hx hL0 h k (by omega)
    have hN : m * m ≤ 64 := by rcases hm with rfl | rfl | rfl | rfl <;> decide
    have hmm : wrapQ false .i64 ((m : Int) * m) = ((m * m : Nat) : Int) := by rcases hm with rfl | rfl | rfl | rfl <;> rfl
    have hc1 : zqc1 (m : Int) k = true := by unfold zqc1; rw [hmm]; exact ltQ_true (by omega)
    have hg := lbU_go UR c m xs r s w B f (clB m xs b0 k) k
    simp only [Prod.mk.injEq] at hg
    have r2 := r1.trans (way_reach (P := Try.prog) (T := tabLu UR 0) (stop := fun L => atLoop L || atReg 33 L) (n := 4000) (L := L) (R := lbR) (p := [true]) (M := lbm) (tabLu_sound 0) (by rw [hL, lbR_eq]) (by
      show allT (condsP (lbU UR c m xs r s w B f (clB m xs b0 k) k) [true]) = true
      rw [hg.1, hc1]; rfl) hg.2 (lbN_ok hm hx (by omega) _))
    rw [ofNat_next (by omega)] at r2
    exact ⟨lbR, lbR_eq, r2⟩
theorem lt7_low (c : Cd) : belowL 1 (lt7 c []) = true := by kernel_rfl
theorem q4_ok {xs : List Int} (h : xs.length ≤ 5000) : allT (q4 xs true) = true := by
  unfold q4
  rw [allT_append, allT_append, allT_append, allT_append, szQ_ok h]; rfl
theorem beq_self_list (r : List Int) : (r == r) = true := by simp
theorem rsL_len {m : Nat} (hm : m = 1 ∨ m = 2 ∨ m = 4 ∨ m = 8) (xs : List Int) : (rsL (m : Int) xs).length ≤ 64 := by
  rcases hm with rfl | rfl | rfl | rfl
  · exact Nat.le_of_ble_eq_true rfl
  · exact Nat.le_of_ble_eq_true rfl
  · exact Nat.le_of_ble_eq_true rfl
  · exact Nat.le_of_ble_eq_true rfl
theorem n8_ok {r s : List Int} (hr : r.length ≤ 5000) (hs : s.length ≤ 5000) : allT (n8 r s) = true := by
  unfold n8
  rw [cond_ok (by rw [allT_append, szQ_ok hr]; rfl), cond_ok (by
    rw [allT_append, guard_ok _ (by rw [allT_append, allT_append, allT_append, szQ_ok hr, szQ_ok hs]; rfl), guard_ok _ (by rw [allT_append, allT_append, allT_append, szQ_ok hr, szQ_ok hs]; rfl)]; rfl)]
  rfl
theorem mcZ_ok {m : Nat} (hm : m = 1 ∨ m = 2 ∨ m = 4 ∨ m = 8) {xs : List Int} (hl : xs.length = m * m) (hb : allI (-100000) 100000 xs = true) : mcZ (m : Int) xs = 0 := by
  have hs : sideB (m : Int) = true := sideB_iff.2 (by omega)
  have : isMapZ (m : Int) xs = true := by
    unfold isMapZ
    rw [hs, hb, decide_eq_true (by rw [hl]; simp)]; rfl
  simp [mcZ, this]
theorem wrL_wrap {xs ys : List Int} {n : Int} (hl : ys.length = xs.length) (hb : ∀ j, j < xs.length → -100000 ≤ ys.getD j 0 ∧ ys.getD j 0 ≤ 100000) (hx : ∀ j, j < xs.length → 0 ≤ xs.getD j 0 ∧ xs.getD j 0 ≤ 63) (h : ∀ j, j < xs.length → (ys.getD j 0 - xs.getD j 0) % 64 = 0) : wrL n ys = xs := by
  refine ext_getD (by simp [wrL, hl]) fun j hj => ?_
  have hj : j < xs.length := by simpa [wrL, hl] using hj
  have e : (wrL n ys).getD j 0 = wz (ys.getD j 0) := by simp [wrL, List.getD_eq_getElem?_getD, hl, hj]
  rw [e, wz_eq (hb j hj)]
  have h1 := hx j hj
  have h2 := h j hj
  omega
theorem rwL_wrap {m : Nat} (hm : m = 1 ∨ m = 2 ∨ m = 4 ∨ m = 8) {xs : List Int} (hl : xs.length = m * m) (hx : allI 0 63 xs = true) : wrL (m : Int) (rwL (m : Int) xs) = xs := by
  have hm0 : 0 < m := by omega
  have hN : m * m ≤ 64 := by rcases hm with rfl | rfl | rfl | rfl <;> decide
  have hrl : (rwL (m : Int) xs).length = xs.length := by unfold rwL; rw [rwP_length]
  have hbd : ∀ j, j < xs.length → -100000 ≤ (rwL (m : Int) xs).getD j 0 ∧ (rwL (m : Int) xs).getD j 0 ≤ 100000 := fun j hj => by
    have := rwP_bound hm0 hx (by omega) ((m : Int).toNat * (m : Int).toNat - 1) j hj
    unfold rwL
    rw [Int.toNat_natCast] at this ⊢
    omega
  refine wrL_wrap hrl hbd (fun j hj => allI_iff.1 hx j hj) fun j hj => ?_
  induction j using Nat.strongRecOn with
  | ind j ih =>
    rcases Nat.eq_zero_or_pos j with rfl | hj0
    · unfold rwL
      rw [rwP_zero]; simp
    · have hu := upN_lt hm0 hj0
      have h1 := ih _ hu (by omega)
      unfold rwL at h1 ⊢
      simp only [Int.toNat_natCast] at h1 ⊢
      rw [rwP_up hm0 hx (by omega) hj0 hj (by omega)]
      unfold stN
      omega
theorem clean_of {m : Nat} (hm : m = 1 ∨ m = 2 ∨ m = 4 ∨ m = 8) {xs : List Int} (hl : xs.length = m * m) (hx : allI 0 63 xs = true) (h : clB m xs (clA (rsL (m : Int) xs) (rsL (m : Int) xs).length) (m * m) = true) : Clean m fun j => xs.getD j 0 := by
  have hm0 : 0 < m := by omega
  have hN : m * m ≤ 64 := by rcases hm with rfl | rfl | rfl | rfl <;> decide
  have hb : ∀ i, i < xs.length → 0 ≤ xs.getD i 0 ∧ xs.getD i 0 ≤ 63 := fun i hi => allI_iff.1 hx i hi
  obtain ⟨hA, hB⟩ := clB_zero h
  have hz := clA_zero hA
  have hall : ∀ v ∈ rsL (m : Int) xs, v = 0 := fun v hv => by
    obtain ⟨j, hj, e⟩ := List.mem_iff_getElem.1 hv
    have := hz j hj
    rw [List.getD_eq_getElem?_getD, List.getElem?_eq_getElem hj, Option.getD_some, e] at this
    exact this
  refine ⟨fun y j hy hj => ?_, fun i hi h1 => ?_, fun i hi => ?_⟩
  · have hmem : rsV (xs.getD (m * y + j) 0) (xs.getD (m * y + j + 1) 0) (xs.getD (m * y + m + j + 1) 0) (xs.getD (m * y + m + j) 0) ∈ rsL (m : Int) xs := by
      unfold rsL rsF
      rw [Int.toNat_natCast, List.mem_flatMap]
      exact ⟨y, List.mem_range.2 (by omega), List.mem_map.2 ⟨j, List.mem_range.2 (by omega), rfl⟩⟩
    have l1 := my_lt (m := m) (y := y) (j := j + 1) (by omega) hj
    have l2 := my_lt (m := m) (y := y + 1) (j := j + 1) (by omega) hj
    rw [Nat.mul_add, Nat.mul_one] at l2
    exact rsV_zero (hb _ (by omega)) (hb _ (by omega)) (hb _ (by omega)) (hb _ (by omega)) (hall _ hmem)
  · have hc := (hB i hi).1 (by rw [zqc2_eq (by omega), Nat.blt_eq]; exact h1)
    have e4 : wrapQ false .i64 (Int.ofNat i + 1) = ((i + 1 : Nat) : Int) := ofNat_next (by omega)
    rw [e4] at hc
    exact dhE_ne hb (by omega) (by rw [hl]; rcases hm with rfl | rfl | rfl | rfl <;> omega) hc
  · obtain ⟨e1, e2⟩ := lbc2_eq hm (by omega : i ≤ 64)
    have hc := (hB i (by omega)).2 (by rw [e2]; simpa using hi)
    rw [e1] at hc
    exact dhE_ne hb (by omega) (by omega) hc
end Go.Ax

/- The law of unwrapping: its first three parts. -/
namespace Go.Ax
open Go Go.Proofs

theorem z79_len {c : Cd} (hg : goodB c = true) : (drawZV 79 c).2.length ≤ 65 := (drawZV_ok (dz_of dz79 hg)).1
theorem z91_len {c : Cd} (hg : goodB c = true) : (drawZV 91 c).2.length ≤ 65 := (drawZV_ok (dz_of dz91 hg)).1
theorem okB_self {c : Cd} (hg : goodB c = true) : okB c c.off c.len = true := by simp [okB, hg]
theorem good_len {c : Cd} (hg : goodB c = true) : ltQ false 4096 (c.len : Int) = false := by
  have : c.len ≤ 4096 := by
    simp only [goodB, Bool.and_eq_true, decide_eq_true_eq] at hg
    omega
  rw [ltQ_eq]; simp; omega
theorem flood_facts {m : Nat} (hm : m = 1 ∨ m = 2 ∨ m = 4 ∨ m = 8) {xs : List Int} (hl : xs.length = m * m) (hx : allI 0 63 xs = true) :
    (fdL (m : Int) xs (eX m) 0 0).length = m * m ∧ mcZ (m : Int) (fdL (m : Int) xs (eX m) 0 0) = 0 ∧ wrL (m : Int) (fdL (m : Int) xs (eX m) 0 0) = xs ∧ (Clean m (fun j => xs.getD j 0) → fdL (m : Int) xs (eX m) 0 0 = rwL (m : Int) xs) := by
  have hm0 : 0 < m := by omega
  have hN : m * m ≤ 64 := by rcases hm with rfl | rfl | rfl | rfl <;> decide
  have hN0 : 0 < m * m := Nat.mul_pos hm0 hm0
  have hb : ∀ i, i < m * m → 0 ≤ xs.getD i 0 ∧ xs.getD i 0 ≤ 63 := fun i hi => allI_iff.1 hx i (by omega)
  have e : fdL (m : Int) xs (eX m) 0 0 = (flEnd m (fun j => xs.getD j 0) (fun _ => oneZ) 0).os := by
    unfold fdL
    rw [Int.toNat_natCast]
    have : ((m : Int) * 0 + 0).toNat = 0 := by simp
    rw [this, flEnd_congr hm (open_at hm) hb hN0]
  have hX : ∀ j, xzB (fun _ => oneZ) j = false := fun j => by kernel_rfl
  rw [e]
  have hf := flEnd_ok (X := fun _ => oneZ) hm (x0 := fun j => xs.getD j 0) hb hN0
  have hmost := hf.most
  refine ⟨hf.len, mcZ_ok hm hf.len (allI_iff.2 fun i _ => ?_), wrL_wrap (by rw [hf.len, hl]) (fun j _ => ?_) (fun j hj => hb j (by omega)) fun j hj => ?_, fun hc => flood_rows hm hl hx hc hX⟩
  · have := hf.bd i
    omega
  · have := hf.bd j
    omega
  · exact flood_wrap hm (x0 := fun j => xs.getD j 0) hb hX (by omega)
theorem flatC_one {m : Nat} (hm : m = 1 ∨ m = 2 ∨ m = 4 ∨ m = 8) : flatC (m : Int) oneZ = 0 := by rcases hm with rfl | rfl | rfl | rfl <;> kernel_rfl
theorem luPA {c : Cd} (hg : goodB c = true) : ∃ G, Reach Try.prog [.code luC] (.sl false 0 c.off c.len 0 :: undefs 432) [codeB c false] luL33 (lt7 c []) ([codeB c false] ++ G) := by
  have h65 := z79_len hg
  have hok := okB_self hg
  have hlen := good_len hg
  have hZ : UR.Z 79 c = drawZV 79 c := rfl
  by_cases hw : wcZ (drawZV 79 c).1 (drawZV 79 c).2 = 0
  · have h1 := lu1_T UR c
    simp only [Prod.mk.injEq] at h1
    have hw' : eqQ false (UR.cw (UR.Z 79 c).1 (UR.Z 79 c).2) 0 = true := by rw [eqQ_eq]; simpa [UR] using hw
    have r1 := way_reach (P := Try.prog) (T := tabLu UR 0) (stop := st8) (n := 4000) (L := [.code luC]) (R := [.code luC]) (p := [false, true, true, true, true]) (M := m8) (t0 := .sl false 0 c.off c.len 0 :: undefs 432) (H0 := [codeB c false]) (tabLu_sound 0) rfl (by
      show allT (condsP (lu1 UR c) [false, true, true, true, true]) = true
      rw [h1.1, hlen, hw']; rfl) h1.2 (by rw [hok]; exact q4_ok (by rw [hZ]; omega))
    rw [hZ] at r1
    obtain ⟨m, hmn, hm, hl, hx⟩ := wcZ_zero hw
    have hN : m * m ≤ 64 := by rcases hm with rfl | rfl | rfl | rfl <;> decide
    have e1 : UR.rw = rwL := rfl
    have e2 : UR.rs = rsL := rfl
    rw [e1, e2] at r1
    rw [hmn] at r1
    generalize (drawZV 79 c).2 = xs at r1 hl hx hw
    rw [hmn] at hw
    have hrl : (rwL (m : Int) xs).length = m * m := by unfold rwL; rw [rwP_length, hl]
    have hsl := rsL_len hm xs
    have h8 := lu8T_ok UR c m xs (rwL (m : Int) xs) (rsL (m : Int) xs)
    simp only [Prod.mk.injEq] at h8
    have r2 := r1.trans (way_reach (P := Try.prog) (T := tabLu UR 0) (stop := st11) (n := 4000) (L := luL8) (R := luL8) (p := [false]) (M := m11) (tabLu_sound 0) rfl (by
      show allT (condsP (lu8T UR c m xs _ _) [false]) = true
      rw [h8.1, beq_self_list, beq_self_list]; rfl) h8.2 (n8_ok (by omega) (by omega)))
    obtain ⟨f1, f2, f3, f4⟩ := flood_facts hm hl hx
    have hrh : allI (-100000) 100000 (rwL (m : Int) xs) = true := by unfold rwL; exact rwP_high (by simp; omega) hx (by omega) _
    have h11 := lu11_ok UR c m xs (rwL (m : Int) xs) (rsL (m : Int) xs)
    simp only [Prod.mk.injEq] at h11
    have r3 := r2.trans (way_reach (P := Try.prog) (T := tabLu UR 0) (stop := st14) (n := 4000) (L := luL11) (R := luL11) (p := [true, true]) (M := m14) (tabLu_sound 0) rfl (by
      show allT (condsP (lu11 UR c m xs _ _) [true, true]) = true
      rw [h11.1]
      have a1 : eqQ false (UR.cm (m : Int) (rwL (m : Int) xs)) 0 = true := by
        rw [eqQ_eq]
        have : UR.cm (m : Int) (rwL (m : Int) xs) = 0 := mcZ_ok hm hrl hrh
        rw [this]; rfl
      have a2 : eqQ false (UR.fc (m : Int) xs (eN m) (eX m) 0 0) 0 = true := by
        rw [eqQ_eq]
        have : UR.fc (m : Int) xs (eN m) (eX m) 0 0 = 0 := fcZ_open hm hw
        rw [this]; rfl
      rw [a1, a2]; rfl) h11.2 (by rw [allT_append, szQ_ok (by omega), szQ_ok (by omega)]; rfl))
    have e3 : UR.wr (m : Int) (rwL (m : Int) xs) = xs := rwL_wrap hm hl hx
    have e4 : UR.fd (m : Int) xs (eX m) 0 0 = fdL (m : Int) xs (eX m) 0 0 := rfl
    rw [e3, e4, flatC_one hm] at r3
    generalize fdL (m : Int) xs (eX m) 0 0 = f at r3 f1 f2 f3 f4
    generalize AB.cells true (.lit (waveL (eN m) (flatX m oneZ))) = B at r3
    have hq := lu14_ok UR c m xs (rwL (m : Int) xs) (rsL (m : Int) xs) xs 0 B f
    simp only [Prod.mk.injEq] at hq
    have r4 := r3.trans (way_reach (P := Try.prog) (T := tabLu UR 0) (stop := atLoop) (n := 4000) (L := luL14) (R := luL14) (p := [false]) (M := lam) (tabLu_sound 0) rfl (by
      show allT (condsP (lu14 UR c m xs _ _ xs 0 B f) [false]) = true
      rw [hq.1, beq_self_list, eqQ_eq]; rfl) hq.2 (by
      show (cond _ (andT (szQ xs ++ szQ xs)) true && true) = true
      rw [cond_ok (by rw [allT_append, szQ_ok (by omega)]; rfl)]; rfl))
    obtain ⟨L5, hL5, r5⟩ := la_go (by omega) (L0 := laL) rfl r4 (rsL (m : Int) xs).length (Nat.le_refl _)
    have h5 := laU_end UR c m xs (rwL (m : Int) xs) (rsL (m : Int) xs) xs B f (clA (rsL (m : Int) xs) (rsL (m : Int) xs).length) (rsL (m : Int) xs).length
    simp only [Prod.mk.injEq] at h5
    have r6 := r5.trans (way_reach (P := Try.prog) (T := tabLu UR 0) (stop := atLoop) (n := 4000) (L := L5) (R := laR) (p := [false]) (M := lbm) (tabLu_sound 0) (by rw [hL5, laR_eq]) (by
      show allT (condsP (laU UR c m xs _ _ xs B f _ _) [false]) = true
      rw [h5.1, ltQ_same]; rfl) h5.2 rfl)
    obtain ⟨L7, hL7, r7⟩ := lb_go hm hl (L0 := lbL) rfl r6 (m * m) (Nat.le_refl _)
    have hmm : wrapQ false .i64 ((m : Int) * m) = ((m * m : Nat) : Int) := by rcases hm with rfl | rfl | rfl | rfl <;> rfl
    have hc1 : zqc1 (m : Int) (m * m) = false := by unfold zqc1; rw [hmm]; exact ltQ_same _
    have h7 := lbU_end UR c m xs (rwL (m : Int) xs) (rsL (m : Int) xs) xs B f (clB m xs (clA (rsL (m : Int) xs) (rsL (m : Int) xs).length) (m * m)) (m * m)
    simp only [Prod.mk.injEq] at h7
    have hcl : cond (clB m xs (clA (rsL (m : Int) xs) (rsL (m : Int) xs).length) (m * m)) (!(f == rwL (m : Int) xs)) false = false := by
      cases hc : clB m xs (clA (rsL (m : Int) xs) (rsL (m : Int) xs).length) (m * m) with
      | false => rfl
      | true =>
        rw [f4 (clean_of hm hl hx hc), beq_self_list]; rfl
    have hU : jupto Try.prog (tabLu UR 0) (fun L => atLoop L || atReg 33 L) 4000 L7 (lt7 c (lb7 m xs (rwL (m : Int) xs) f (clB m xs (clA (rsL (m : Int) xs) (rsL (m : Int) xs).length) (m * m)) (Int.ofNat (m * m)))) (h14 c xs (rwL (m : Int) xs) (rsL (m : Int) xs) xs B f) = lbU UR c m xs (rwL (m : Int) xs) (rsL (m : Int) xs) xs B f (clB m xs (clA (rsL (m : Int) xs) (rsL (m : Int) xs).length) (m * m)) (m * m) := jupto_eq (L := L7) (R := lbR) (by rw [hL7, lbR_eq]) _ _
    have a3 : UR.wr (m : Int) f = xs := f3
    have a4 : UR.cm (m : Int) f = 0 := f2
    obtain ⟨G, r8⟩ := way_pre (P := Try.prog) (T := tabLu UR 0) (stop := fun L => atLoop L || atReg 33 L) (n := 4000) (k := 1) (L := L7) (p := [false, false, true, false]) (M := lm7 []) (tabLu_sound 0) (by
      rw [hU, h7.1, hc1, hcl, a3, a4, beq_self_list]; rfl) (by rw [hU]; exact h7.2) (by
      rw [a3]
      rw [allT_append, allT_append, allT_append, szQ_ok (by omega), szQ_ok (by omega)]
      show (true && (true && (true && (cond _ (andT (szQ f ++ szQ (rwL (m : Int) xs))) true && true)))) = true
      rw [cond_ok (by rw [allT_append, szQ_ok (by omega), szQ_ok (by omega)]; rfl)]; rfl)
    exact ⟨G, r7.trans r8⟩
  · have h1 := lu1_F UR c
    simp only [Prod.mk.injEq] at h1
    have hw' : eqQ false (UR.cw (UR.Z 79 c).1 (UR.Z 79 c).2) 0 = false := by rw [eqQ_eq]; simpa [UR] using hw
    have r1 := way_reach (P := Try.prog) (T := tabLu UR 0) (stop := st8) (n := 4000) (L := [.code luC]) (R := [.code luC]) (p := [false, false, false, false, false]) (M := m8) (t0 := .sl false 0 c.off c.len 0 :: undefs 432) (H0 := [codeB c false]) (tabLu_sound 0) rfl (by
      show allT (condsP (lu1 UR c) [false, false, false, false, false]) = true
      rw [h1.1, hlen, hw']; rfl) h1.2 (by rw [hok]; exact q4_ok (by rw [hZ]; omega))
    have h8 := lu8F_ok UR c (UR.Z 79 c).1 (UR.Z 79 c).2 (UR.cw (UR.Z 79 c).1 (UR.Z 79 c).2)
    simp only [Prod.mk.injEq] at h8
    have r2 := r1.trans (way_reach (P := Try.prog) (T := tabLu UR 0) (stop := st11) (n := 4000) (L := luL8) (R := luL8) (p := [false, false]) (M := lm7 []) (tabLu_sound 0) rfl (by
      show allT (condsP (lu8F UR c _ _ _) [false, false]) = true
      rw [h8.1, hw', eqQ_refl]; rfl) h8.2 rfl)
    exact ⟨[qB (UR.Z 79 c).2], r2⟩
theorem dfC_false (h k : Int) : dfC h k (wdV h k) (wdK h k) = false := by
  unfold dfC wdV wdK inQ
  rw [leQ_eq, leQ_eq, leQ_eq, leQ_eq]
  by_cases h1 : -100000 ≤ h
  · by_cases h2 : h ≤ 100000
    · by_cases h3 : -100000 ≤ k
      · by_cases h4 : k ≤ 100000
        · simp only [decide_eq_true h1, decide_eq_true h2, decide_eq_true h3, decide_eq_true h4, cond, Bool.not_true]
          rw [eqQ_eq, stZ_bound ⟨h1, h2⟩ ⟨h3, h4⟩, ltQ_eq, ltQ_eq]
          have w1 : wrapQ false .i64 (k - h) = k - h := wrap64_id (by omega) (by omega)
          have w2 : wrapQ false .i64 (k - h - ((k - h + 32) % 64 - 32)) = k - h - ((k - h + 32) % 64 - 32) := wrap64_id (by omega) (by omega)
          rw [w1, w2]
          have hd : (k - h - ((k - h + 32) % 64 - 32)) % 64 = 0 := by omega
          have ht := Int.tmod_eq_zero_of_dvd (Int.dvd_of_emod_eq_zero hd)
          rw [ht, eqQ_refl]
          rw [decide_eq_false (by omega), decide_eq_false (by omega)]
          rfl
        · simp [h1, h2, h3, h4, eqQ_eq]
      · simp [h1, h2, h3, eqQ_eq]
    · simp [h1, h2, eqQ_eq]
  · simp [h1, eqQ_eq]
theorem luPB {c : Cd} (hg : goodB c = true) : ∃ G, Reach Try.prog luL33 (lt7 c []) [codeB c false] luL43 (lt7 c []) ([codeB c false] ++ G) := by
  have h65 : (UR.D c).xs.length ≤ 65 := (drawFV_ok hg).1
  have hok := okB_self hg
  have hn : allT (n33 UR c) = true := by
    unfold n33
    rw [hok]
    show (true && allT _) = true
    rw [allT_append, allT_append, szQ_ok (by omega)]
    rfl
  have hdf : dfC (UR.H c).1 (UR.H c).2 (dW UR c) (dK UR c) = false := dfC_false _ _
  by_cases hw : dC UR c = 0
  · have h1 := lu33_T UR c
    simp only [Prod.mk.injEq] at h1
    have r1 := way_reach (P := Try.prog) (T := tabLu UR 0) (stop := atReg 39) (n := 4000) (L := luL33) (R := luL33) (p := [true, true]) (M := m39) (t0 := lt7 c []) (H0 := [codeB c false]) (tabLu_sound 0) rfl (by
      show allT (condsP (lu33 UR c) [true, true]) = true
      rw [h1.1, hw, eqQ_refl]; rfl) h1.2 hn
    have hfl : (dF UR c).length ≤ 5000 := by
      have hfc : fcZ (UR.D c).n (UR.D c).xs (UR.D c).s (reX (UR.D c).X) (UR.D c).y (UR.D c).x = 0 := hw
      show (fdL (UR.D c).n (UR.D c).xs (reX (UR.D c).X) (UR.D c).y (UR.D c).x).length ≤ 5000
      generalize (UR.D c).n = n at hfc ⊢
      generalize (UR.D c).xs = xs at hfc ⊢
      generalize (UR.D c).s = s at hfc
      generalize reX (UR.D c).X = X at hfc ⊢
      generalize (UR.D c).y = y at hfc ⊢
      generalize (UR.D c).x = x at hfc ⊢
      unfold fcZ at hfc
      cases hb : bwC (wcZ n xs) s X with
      | true => rw [hb] at hfc; cases hfc
      | false =>
        rw [hb] at hfc
        cases hr : rgC n s y x with
        | true => rw [hr] at hfc; cases hfc
        | false =>
          rw [hr] at hfc
          obtain ⟨hmask, m, rfl, hm, hl⟩ := bwC_map hb
          obtain ⟨rfl, hy0, hy1, hx0, hx1⟩ := rgC_false (by omega) hr
          obtain ⟨p, hp, hy, hx, hpp⟩ := place_at (by omega) hy0 hy1 hx0 hx1
          cases hsw : swC (wcZ m xs) X ((m : Int) * y + x).toNat with
          | true => rw [hsw] at hfc; cases hfc
          | false =>
            rw [swC_eq, Bool.or_eq_false_iff] at hsw
            have hw0 : wcZ m xs = 0 := by simpa using hsw.1
            obtain ⟨m', hm', _, _, hall⟩ := wcZ_zero hw0
            unfold fdL
            rw [hpp, Int.toNat_natCast, (flEnd_ok (X := X) hm (fun i hi => allI_iff.1 hall i (by omega)) hp).len]
            rcases hm with rfl | rfl | rfl | rfl <;> decide
    have h2 := lu39_T UR c (qB (UR.D c).xs) (dB UR c) (dF UR c) (UR.H c).1 (UR.H c).2 (dW UR c) (dK UR c)
    simp only [Prod.mk.injEq] at h2
    have r2 := r1.trans (way_reach (P := Try.prog) (T := tabLu UR 0) (stop := atReg 43) (n := 4000) (L := luL39) (R := luL39) (p := [false, false]) (M := lm7 []) (tabLu_sound 0) rfl (by
      show allT (condsP (lu39T UR c _ _ _ _ _ _ _) [false, false]) = true
      rw [h2.1, hdf, beq_self_list, eqQ_refl, eqQ_refl]; rfl) h2.2 (by
      have hs : allT (szQ (dF UR c) ++ szQ (dF UR c)) = true := by rw [allT_append, szQ_ok hfl]; rfl
      show (cond _ (andT (szQ (dF UR c) ++ szQ (dF UR c))) true && (cond _ (andT (guardL _ _ ++ guardL _ _)) true && true)) = true
      rw [cond_ok hs, cond_ok (by rw [allT_append, guard_ok _ hs, guard_ok _ hs]; rfl)]; rfl))
    exact ⟨_, r2⟩
  · have h1 := lu33_F UR c
    simp only [Prod.mk.injEq] at h1
    have hw' : eqQ false (dC UR c) 0 = false := by rw [eqQ_eq]; simpa using hw
    have r1 := way_reach (P := Try.prog) (T := tabLu UR 0) (stop := atReg 39) (n := 4000) (L := luL33) (R := luL33) (p := [false, false]) (M := m39) (t0 := lt7 c []) (H0 := [codeB c false]) (tabLu_sound 0) rfl (by
      show allT (condsP (lu33 UR c) [false, false]) = true
      rw [h1.1, hw']; rfl) h1.2 hn
    have h2 := lu39_F UR c (qB (UR.D c).xs) (dB UR c) (dC UR c) (UR.H c).1 (UR.H c).2 (dW UR c) (dK UR c)
    simp only [Prod.mk.injEq] at h2
    have r2 := r1.trans (way_reach (P := Try.prog) (T := tabLu UR 0) (stop := atReg 43) (n := 4000) (L := luL39) (R := luL39) (p := [false, false]) (M := lm7 []) (tabLu_sound 0) rfl (by
      show allT (condsP (lu39F UR c _ _ _ _ _ _ _) [false, false]) = true
      rw [h2.1, hdf, eqQ_refl, eqQ_refl, eqQ_refl]; rfl) h2.2 rfl)
    exact ⟨_, r2⟩
theorem luPC {c : Cd} (hg : goodB c = true) : ∃ G, Reach Try.prog luL43 (lt7 c []) [codeB c false] luL48 (lt7 c []) ([codeB c false] ++ G) := by
  have h65 : (UR.Z 91 c).2.length ≤ 65 := z91_len hg
  have hok := okB_self hg
  have hn : allT (szQ (UR.Z 91 c).2 ++ (szQ (UR.Z 91 c).2 ++ [okB c c.off c.len])) = true := by
    rw [allT_append, allT_append, szQ_ok (by omega), hok]; rfl
  by_cases hw : UR.cm (UR.Z 91 c).1 (UR.Z 91 c).2 = 0
  · have h1 := lu43_T UR c
    simp only [Prod.mk.injEq] at h1
    have r1 := way_reach (P := Try.prog) (T := tabLu UR 0) (stop := atReg 46) (n := 4000) (L := luL43) (R := luL43) (p := [true, true]) (M := m46) (t0 := lt7 c []) (H0 := [codeB c false]) (tabLu_sound 0) rfl (by
      show allT (condsP (lu43 UR c) [true, true]) = true
      rw [h1.1, hw, eqQ_refl]; rfl) h1.2 hn
    have h2 := lu46_T UR c (qB (UR.Z 91 c).2) (UR.sl (UR.Z 91 c).1 (UR.Z 91 c).2)
    simp only [Prod.mk.injEq] at h2
    have h5 : (UR.sl (UR.Z 91 c).1 (UR.Z 91 c).2).length ≤ 5000 := by
      have : (UR.sl (UR.Z 91 c).1 (UR.Z 91 c).2).length = 2 := rfl
      omega
    exact ⟨_, r1.trans (way_reach (P := Try.prog) (T := tabLu UR 0) (stop := atReg 48) (n := 4000) (L := luL46) (R := luL46) (p := [false]) (M := lm7 []) (tabLu_sound 0) rfl (by
      show allT (condsP (lu46T UR c _ _) [false]) = true
      rw [h2.1, beq_self_list]; rfl) h2.2 (by rw [allT_append, szQ_ok h5]; rfl))⟩
  · have h1 := lu43_F UR c
    simp only [Prod.mk.injEq] at h1
    have hw' : eqQ false (UR.cm (UR.Z 91 c).1 (UR.Z 91 c).2) 0 = false := by rw [eqQ_eq]; simpa using hw
    have r1 := way_reach (P := Try.prog) (T := tabLu UR 0) (stop := atReg 46) (n := 4000) (L := luL43) (R := luL43) (p := [false, false]) (M := m46) (t0 := lt7 c []) (H0 := [codeB c false]) (tabLu_sound 0) rfl (by
      show allT (condsP (lu43 UR c) [false, false]) = true
      rw [h1.1, hw']; rfl) h1.2 hn
    have h2 := lu46_F UR c (qB (UR.Z 91 c).2) (UR.cm (UR.Z 91 c).1 (UR.Z 91 c).2)
    simp only [Prod.mk.injEq] at h2
    exact ⟨_, r1.trans (way_reach (P := Try.prog) (T := tabLu UR 0) (stop := atReg 48) (n := 4000) (L := luL46) (R := luL46) (p := [false]) (M := lm7 []) (tabLu_sound 0) rfl (by
      show allT (condsP (lu46F UR c _ _) [false]) = true
      rw [h2.1, eqQ_refl]; rfl) h2.2 rfl)⟩
end Go.Ax

/- The law of unwrapping: planes, and the whole law. -/

namespace Go.Ax
open Go Go.Proofs

theorem lu_big (c : Cd) : (condsP (lu1 UR c) [true], endV Try.prog Try.f7.results.toList ((lu1 UR c).at [true])) = ([ltQ false 4096 (c.len : Int)], some (some ([.b true true], []), [])) := by kernel_rfl
def plP (m : Nat) (u v : Int) (k : Nat) : List Int := (List.range k).map (plF m u v)
theorem plP_len (m : Nat) (u v : Int) (k : Nat) : (plP m u v k).length = k := by simp [plP]
theorem plP_succ (m : Nat) (u v : Int) (k : Nat) : plP m u v (k + 1) = plP m u v k ++ [plF m u v k] := by simp [plP, List.range_succ]
theorem pV_eq {m : Nat} (hm : m = 1 ∨ m = 2 ∨ m = 4 ∨ m = 8) {u v : Int} (hu : -31 ≤ u ∧ u ≤ 31) (hv : -31 ≤ v ∧ v ≤ 31) {k : Nat} (hk : k < m * m) : pV (m : Int) u v k = plF m u v k := by
  have h1 : k % m ≤ 7 := by rcases hm with rfl | rfl | rfl | rfl <;> omega
  have h2 : k / m ≤ 7 := by rcases hm with rfl | rfl | rfl | rfl <;> omega
  have a := mul31 hu h1
  have b := mul31 hv h2
  have e1 : (Int.ofNat k).tmod (m : Int) = ((k % m : Nat) : Int) := rfl
  have e2 : (Int.ofNat k).tdiv (m : Int) = ((k / m : Nat) : Int) := rfl
  unfold pV plF
  rw [e1, e2]
  generalize k % m = p at *
  generalize k / m = q at *
  have w1 : IntKind.i64.wrap (q : Int) = (q : Int) := wrap64_id (by omega) (by omega)
  rw [w1]
  generalize u * (p : Int) = x at *
  generalize v * (q : Int) = y at *
  have w2 : IntKind.i64.wrap x = x := wrap64_id (by omega) (by omega)
  have w3 : IntKind.i64.wrap y = y := wrap64_id (by omega) (by omega)
  rw [w2, w3]
  exact wrap64_id (by omega) (by omega)
theorem lp_go {c : Cd} {m : Nat} (hm : m = 1 ∨ m = 2 ∨ m = 4 ∨ m = 8) {u v : Int} (hu : -31 ≤ u ∧ u ≤ 31) (hv : -31 ≤ v ∧ v ≤ 31) {t0 : List AV} {H0 : List AB} (h0 : H0.length = 1) {todo0 : List Item} {L0 : List Item} (hL0 : toLp L0 = lpR) (h : Reach Try.prog todo0 t0 H0 L0 (lt7 c (lp m u v (.sl false 1 0 0 1) 0)) [codeB c false, qB []]) :
    ∀ k, k ≤ m * m → ∃ L, toLp L = lpR ∧ Reach Try.prog todo0 t0 H0 L (lt7 c (lp m u v (.sl false 1 0 (plP m u v k).length 1) (Int.ofNat k))) [codeB c false, qB (plP m u v k)]
  | 0, _ => ⟨L0, hL0, h⟩
  | k + 1, hk => by
    obtain ⟨L, hL, r1⟩ := lp_go hm hu hv h0 hL0 h k (by omega)
    have hN : m * m ≤ 64 := by rcases hm with rfl | rfl | rfl | rfl <;> decide
    have hmm : wrapQ false .i64 ((m : Int) * m) = ((m * m : Nat) : Int) := by rcases hm with rfl | rfl | rfl | rfl <;> rfl
    have hc1 : zqc1 (m : Int) k = true := by unfold zqc1; rw [hmm]; exact ltQ_true (by omega)
    have hn0 : (!((m : Int) == 0)) = true := by simp; omega
    have hpl := plP_len m u v k
    have hpV := pV_eq hm hu hv (by omega : k < m * m)
    rw [plP_succ]
    generalize plP m u v k = ps at r1 hpl ⊢
    have hg := lpU_go UR c m u v ps k
    simp only [Prod.mk.injEq] at hg
    have r2 := r1.trans (way_reach (P := Try.prog) (T := tabLu UR 0) (stop := fun L => atLoop L || atReg 53 L) (n := 4000) (L := L) (R := lpR) (p := [true]) (M := lpm) (tabLu_sound 0) (by rw [hL, lpR_eq]) (by
      show allT (condsP (lpU UR c m u v ps k) [true]) = true
      rw [hg.1, hc1]; rfl) hg.2 rfl)
    rw [lp53_eq] at r2
    have hreg := lp53_reg
    rw [Bool.and_eq_true, Bool.and_eq_true] at hreg
    have ho := lp53_out UR c m u v ps k
    rw [hpV] at ho
    have r3 := r2.trans (box3_way (P := Try.prog) (T := tabLu UR 0) (ops := opsOf lpL53) (tabLu_sound 0) (by kernel_rfl) 13 12 (Nat.beq 12) (Nat.le_of_ble_eq_true hreg.1) (by decide) rfl hreg.2.1 hreg.2.2 (id := 53) (k := tlOf lpL53) (t := lt7 c (lp m u v (.sl false 1 0 ps.length 1) (Int.ofNat k))) (H := [codeB c false, qB ps]) (M := lpm) (by rfl) ho (by
      show (apQ ps.length ps && ((!((m : Int) == 0)) && ((!((m : Int) == 0)) && true))) = true
      rw [ap_ok (by omega), hn0]; rfl))
    have r4 := r3.drops (ks := [2, 1]) (t2 := lt7 c (lp m u v (.sl false 1 0 (ps.length + 1) 1) (Int.ofNat k))) (H2 := [codeB c false, qB (List.take (ps.length * 1) (List.drop 0 ps) ++ [plF m u v k])]) (by rw [h0]; exact lp53_drop c m u v ps (Int.ofNat k) _ _)
    have e2 : List.take (ps.length * 1) (List.drop 0 ps) = ps := by rw [List.drop_zero, Nat.mul_one, List.take_length]
    rw [e2] at r4
    have hE := lpE_ok UR c m u v (.sl false 1 0 (ps.length + 1) 1) [codeB c false, qB (ps ++ [plF m u v k])] k
    simp only [Prod.mk.injEq] at hE
    have r5 := r4.trans (way_reach (P := Try.prog) (T := tabLu UR 0) (stop := atLoop) (n := 4000) (L := tlOf lpL53) (R := tlOf lpL53) (p := []) (M := lpm) (tabLu_sound 0) rfl (by
      show allT (condsP (lpE UR c m u v _ _ k) []) = true
      rw [hE.1]; rfl) hE.2 rfl)
    rw [ofNat_next (by omega)] at r5
    have e3 : (ps ++ [plF m u v k]).length = ps.length + 1 := by simp
    rw [e3]
    exact ⟨lpR, lpR_eq, r5⟩
theorem plP_all (m : Nat) (u v : Int) : plP m u v (m * m) = plL m u v := rfl
theorem plL_len (m : Nat) (u v : Int) : (plL m u v).length = m * m := by simp [plL]
theorem luPD {c : Cd} (hg : goodB c = true) {m : Nat} (hm : m = 1 ∨ m = 2 ∨ m = 4 ∨ m = 8) {b : Int} (hb : beV c 0 (rollV c 992) 4 = b) (hL : Lu48 b m) {t0 : List AV} {todo0 : List Item} (h : Reach Try.prog todo0 t0 [codeB c false] luL48 (lt7 c []) [codeB c false]) :
    ∃ t H', Ends Try.prog todo0 t0 [codeB c false] t H' ∧ resV Try.prog t H' Try.f7.results.toList = some ([.b false true], []) := by
  have hok := okB_self hg
  have h1 := hL UR c
  simp only [Prod.mk.injEq] at h1
  have r1 := h.trans (jway_drop (P := Try.prog) (T := tabLu UR b) (stop := atLoop) (n := 4000) (k0 := 1) (ks := [1]) (L := luL48) (p := []) (M := lpm) (t0 := lt7 c []) (H0 := [codeB c false]) (tabLu_sound b) rfl (by
    show allT (condsP (lu48 UR b c) []) = true
    rw [h1.1]; rfl) (by
    show lfD 1 [1] lpm ((lu48 UR b c).at []) = _
    exact h1.2) (by
    unfold n48
    rw [hok, hb, eqQ_refl]; rfl))
  have hbd : ∀ a h, -31 ≤ wrapQ false .i64 (beV c a h 63 - 31) ∧ wrapQ false .i64 (beV c a h 63 - 31) ≤ 31 := fun a h => by
    have h2 := beV_bound hg a h 63
    have h3 := h2.2 (by decide)
    rw [small64 (by omega)]
    omega
  have hu : -31 ≤ luU c ∧ luU c ≤ 31 := hbd _ _
  have hv : -31 ≤ luV c ∧ luV c ≤ 31 := hbd _ _
  generalize luU c = u at r1 hu
  generalize luV c = v at r1 hv
  have r1 := r1.weak (t' := lt7 c (lp m u v (.sl false 1 0 0 1) 0)) (eqv_of_bare (by kernel_rfl))
  obtain ⟨L, hL2, r2⟩ := lp_go hm hu hv rfl (L0 := lpL) rfl r1 (m * m) (Nat.le_refl _)
  rw [plP_all] at r2
  have hN : m * m ≤ 64 := by rcases hm with rfl | rfl | rfl | rfl <;> decide
  have hpl := plL_len m u v
  have hpb : allI (-100000) 100000 (plL m u v) = true := allI_iff.2 fun i hi => by
    rw [plL_get (by omega)]
    have := plF_bd hm hu hv (i := i) (by omega)
    omega
  have hback := plane_back hm hu hv
  have hcm : mcZ (m : Int) (plL m u v) = 0 := mcZ_ok hm hpl hpb
  have hwl : (wrL (m : Int) (plL m u v)).length = m * m := by simp [wrL, hpl]
  have hwb : ∀ i, i < m * m → 0 ≤ (wrL (m : Int) (plL m u v)).getD i 0 ∧ (wrL (m : Int) (plL m u v)).getD i 0 ≤ 63 := fun i hi => by
    have e : (wrL (m : Int) (plL m u v)).getD i 0 = wz ((plL m u v).getD i 0) := by simp [wrL, List.getD_eq_getElem?_getD, hpl, hi]
    have := allI_iff.1 hpb i (by omega)
    rw [e, wz_eq this]
    omega
  have hcw : wcZ (m : Int) (wrL (m : Int) (plL m u v)) = 0 := by
    have hmz := mcZ_ok hm hwl (allI_iff.2 fun i hi => by have := hwb i (by omega); omega)
    unfold wcZ
    have h1 : isMapZ (m : Int) (wrL (m : Int) (plL m u v)) = true := by
      cases hi : isMapZ (m : Int) (wrL (m : Int) (plL m u v)) with
      | true => rfl
      | false => simp [mcZ, hi] at hmz
    have h2 : allI 0 63 (wrL (m : Int) (plL m u v)) = true := allI_iff.2 fun i hi => hwb i (by omega)
    rw [h1, h2]
  have hrr : lpRR UR (m : Int) (plL m u v) = plL m u v := hback
  have hmm : wrapQ false .i64 ((m : Int) * m) = ((m * m : Nat) : Int) := by rcases hm with rfl | rfl | rfl | rfl <;> rfl
  have hc1 : zqc1 (m : Int) (m * m) = false := by unfold zqc1; rw [hmm]; exact ltQ_same _
  have he := lpU_end UR c m u v (plL m u v) (m * m)
  simp only [Prod.mk.injEq] at he
  have hss : lpSS UR (m : Int) (plL m u v) = slL (m : Int) (plL m u v) := by unfold lpSS; rw [hrr]; rfl
  have hs2 : (slL (m : Int) (plL m u v)).length = 2 := rfl
  have hU : jupto Try.prog (tabLu UR 0) (fun L => atLoop L || atReg 53 L) 4000 L (lt7 c (lp m u v (.sl false 1 0 (plL m u v).length 1) (Int.ofNat (m * m)))) [codeB c false, qB (plL m u v)] = lpU UR c m u v (plL m u v) (m * m) := jupto_eq (L := L) (R := lpR) (by rw [hL2, lpR_eq]) _ _
  have a1 : UR.cm (m : Int) (plL m u v) = 0 := hcm
  have a2 : UR.cw (m : Int) (UR.wr (m : Int) (plL m u v)) = 0 := hcw
  obtain ⟨t, H', e1, e2⟩ := endV_ends (P := Try.prog) (stop := fun L => atLoop L || atReg 53 L) (n := 4000) (L := L) (p := [false, true, true, true, false]) (t0 := lt7 c (lp m u v (.sl false 1 0 (plL m u v).length 1) (Int.ofNat (m * m)))) (H0 := [codeB c false, qB (plL m u v)]) (tabLu_sound 0) (by
    rw [hU, he.1, hc1, hrr, a1, a2, hss, hs2, beq_self_list]; rfl) (by rw [hU]; exact he.2) (by
    rw [hrr, hss]
    have hs : ∀ j, j < 2 → allT (ixQ (slL (m : Int) (plL m u v)) j) = true := fun j hj => ixQ_ok (by omega)
    have hw5 : (UR.wr (m : Int) (plL m u v)).length ≤ 5000 := by
      show (wrL (m : Int) (plL m u v)).length ≤ 5000
      omega
    have hp2 : allT (szQ (plL m u v) ++ szQ (plL m u v)) = true := by rw [allT_append, szQ_ok (by omega)]; rfl
    unfold lpN
    rw [allT_append, allT_append, allT_append, szQ_ok (by omega), szQ_ok hw5]
    show ((cond _ (andT (guardL _ (ixQ (slL (m : Int) (plL m u v)) 1 ++ ixQ (slL (m : Int) (plL m u v)) 0) ++ guardL _ (ixQ (slL (m : Int) (plL m u v)) 0))) true && (cond _ (andT (szQ (plL m u v) ++ szQ (plL m u v))) true && (cond _ (andT (szQ (plL m u v) ++ szQ (plL m u v))) true && true))) && (true && (true && true))) = true
    rw [cond_ok (by rw [allT_append, guard_ok _ (by rw [allT_append, hs 1 (by omega), hs 0 (by omega)]; rfl), guard_ok _ (hs 0 (by omega))]; rfl), cond_ok hp2, cond_ok hp2]; rfl)
  refine ⟨t, H', r2.ends e1, ?_⟩
  rw [e2, hss, cmX_eq, cmX_eq]
  have hval : cond (eqQ false (m : Int) 1) true (cond (eqQ false ((slL (m : Int) (plL m u v)).getD 0 0) u) (eqQ false ((slL (m : Int) (plL m u v)).getD 1 0) v) false) = true := by
    by_cases h1 : m = 1
    · subst h1; rfl
    · rw [plane_slopes (by omega) hu hv]
      show cond _ true (cond (eqQ false u u) (eqQ false v v) false) = true
      rw [eqQ_refl, eqQ_refl]
      cases eqQ false (m : Int) 1 <;> rfl
  rw [hval]
theorem lu_law (c : Cd) (hc : goodB c = true ∨ 4096 < c.len) : ∃ H', CallOK Try.prog 7 [.sl false 0 c.off c.len 0] [codeB c false] (.b false true) H' := by
  by_cases hbig : 4096 < c.len
  · have h := lu_big c
    simp only [Prod.mk.injEq] at h
    obtain ⟨t, H', e1, e2⟩ := endV_ends (P := Try.prog) (T := tabLu UR 0) (stop := st8) (n := 4000) (L := [.code luC]) (p := [true]) (t0 := .sl false 0 c.off c.len 0 :: undefs 432) (H0 := [codeB c false]) (tabLu_sound 0) (by
      show allT (condsP (lu1 UR c) [true]) = true
      rw [h.1, ltQ_eq]
      simp [allT]; omega) h.2 rfl
    have k := call_of_ends (args := [.sl false 0 c.off c.len 0]) Try.func7 (rfl : Try.f7.body = some luC) e1 e2 rfl
    exact ⟨H', k.weaken fun σ x r => by cases r; exact .b _⟩
  · have hg : goodB c = true := by
      rcases hc with h | h
      · exact h
      · exact absurd h hbig
    obtain ⟨G1, r1⟩ := luPA hg
    have r1 := r1.keep (Nat.le_refl 1) (lt7_low c) rfl
    obtain ⟨G2, r2⟩ := luPB hg
    have r2 := (r1.trans r2).keep (Nat.le_refl 1) (lt7_low c) rfl
    obtain ⟨G3, r3⟩ := luPC hg
    have r3 := (r2.trans r3).keep (Nat.le_refl 1) (lt7_low c) rfl
    have fin : ∀ {m : Nat}, m = 1 ∨ m = 2 ∨ m = 4 ∨ m = 8 → ∀ {b : Int}, beV c 0 (rollV c 992) 4 = b → Lu48 b m → ∃ H', CallOK Try.prog 7 [.sl false 0 c.off c.len 0] [codeB c false] (.b false true) H' := fun hm _ hb hL => by
      obtain ⟨t, H', e1, e2⟩ := luPD hg hm hb hL r3
      exact ⟨H', call_of_ends (args := [.sl false 0 c.off c.len 0]) Try.func7 (rfl : Try.f7.body = some luC) e1 e2 rfl⟩
    have h0 := beV_bound hg 0 (rollV c 992) 4
    have h1 := h0.2 (by decide)
    obtain ⟨b, hb⟩ := Int.eq_ofNat_of_zero_le h0.1
    rw [hb] at h1
    match b, h1, hb with
    | 0, _, hb => exact fin (m := 1) (by omega) hb lu48_0
    | 1, _, hb => exact fin (m := 2) (by omega) hb lu48_1
    | 2, _, hb => exact fin (m := 4) (by omega) hb lu48_2
    | 3, _, hb => exact fin (m := 8) (by omega) hb lu48_3
    | b + 4, h1, _ => omega
end Go.Ax

/- From the calls of a law on every text of bytes to the given statement. -/
namespace Go.Proofs.Ytdcjjibekhcplaa
open Go.ChangeShapes Go.WideShapes Go.ChangeAt Go.RowKit Go.Ax

theorem Try.own : ownKnob Try.prog.godebug = none := by kernel_rfl
theorem Try.laidOut : laidOutB Try.prog = true := by kernel_rfl
theorem cells5 : Try.prog.cellsOf 5 = 1 := by kernel_rfl
/-- What is to be shown of a law: it comes back with true from every text of bytes. -/
def LawOK (f : FuncId) : Prop := ∀ c : Cd, goodB c = true ∨ 4096 < c.len → ∃ H', CallOK Try.prog f [.sl false 0 c.off c.len 0] [codeB c false] (.b false true) H'
theorem law_calls {f : FuncId} (h : LawOK f) (c : Cd) (hc : goodB c = true ∨ 4096 < c.len) {σ : List (Nat × Nat)} {W : World} (s : Sim σ [codeB c false] W) {v : Value} (hv : Rel σ (.sl false 0 c.off c.len 0) v) :
    Calls Try.prog f #[v] W fun e W' => e = .returned (.bool true) ∧ Below W.heap.size W W' := by
  obtain ⟨H', k⟩ := h c hc
  refine (k σ W #[v] s (.cons hv .nil)).mono ?_
  rintro e W' ⟨rv, rfl, σ', r1, s1, F⟩
  cases r1
  refine ⟨rfl, F.os, F.tape, F.output, F.size, fun b hb => F.old b hb fun i z hr => ?_⟩
  match i with
  | 0 => simp [getB, codeB, AB.rw] at hr
  | i + 1 => simp [getB, AB.rw] at hr
theorem sim_code {W : World} {b z : Nat} {c : Cd} {cs : Array Value} {e : TypeId} {fr : Nat × Nat} (h : W.heap[b]? = some (.cells cs e fr)) (hz : cs.size = z) (hx : ∀ (j : Nat) (x : Int), c.bytes[j]? = some x → cs[c.off + j]? = some (.int .u8 x)) : Sim [(b, z)] [codeB c false] W := by
  refine ⟨rfl, fun i b' z' hb => ?_, fun i j b' z1 z2 hi hj hr _ => ?_⟩
  · match i, hb with
    | 0, hb => cases hb; exact ⟨cs, e, fr, h, hx, hz⟩
    | i + 1, hb => simp at hb
  · match i, hi with
    | 0, _ => simp [getB, codeB, AB.rw] at hr
    | i + 1, hi => simp at hi
theorem wf_u8 {n : Int} (h : (Lit.int .u8 n).wf = true) : 0 ≤ n ∧ n < 256 := by
  simp [Lit.wf, IntKind.min, IntKind.max, IntKind.signed, IntKind.bits] at h
  omega
/-- A slice of bytes that can be read, as a text of bytes. -/
theorem law_any {H : Type} {enc : TypeId × Value → H} {f : FuncId} (h : LawOK f) {W : World} (hsh : W.ShapedOpen Try.prog) {v : Value} {fuel : Nat} {x : DataW H × List MemPlace}
    (hf : DataW.trod enc Try.prog W 0 (fun _ => true) true fuel 22 v.cells.toList = some x) (hv : ∃ a len cap, v = .slice a len cap) : Calls Try.prog f #[v] W fun e W' => e = .returned (.bool true) ∧ Below W.heap.size W W' := by
  have nil_like : ∀ a : Option Addr, v = .slice a 0 0 → Calls Try.prog f #[v] W fun e W' => e = .returned (.bool true) ∧ Below W.heap.size W W' := fun a ha => by
    obtain ⟨cs, hcs, _, _⟩ := hsh.1 0 #[.bool false] 4 (of_decide_eq_true (by kernel_rfl)) (by kernel_rfl)
    refine law_calls h ⟨[], 0, 0⟩ (.inl rfl) (σ := [(0, cs.size)]) (sim_code hcs rfl fun j x hx => by simp at hx) ?_
    rw [ha]; exact .slz
  obtain ⟨a0, len0, cap0, rfl⟩ := hv
  rcases open_ints Try.underlying22 Try.underlying5 cells5 hf with ⟨hcs, _⟩ | ⟨a, len, cap, zs, hcs, _, hl, _, hz, _, hcell, hwz⟩
  · simp [Value.cells] at hcs
    obtain ⟨rfl, rfl, rfl⟩ := hcs
    exact nil_like _ rfl
  · simp [Value.cells] at hcs
    obtain ⟨rfl, rfl, rfl⟩ := hcs
    simp only [if_true] at hz
    by_cases h0 : cap0 = 0
    · have : len0 = 0 := by omega
      subst h0; subst this
      exact nil_like _ rfl
    · obtain ⟨b, off, spot⟩ := a
      have hspot : spot = none := by simpa [Addr.add] using World.cell?_spot (hcell 0 (by omega))
      subst hspot
      have hcell' : ∀ j, j < zs.length → W.cell? ⟨b, off + j, none⟩ = some (.int .u8 (zs.getD j 0)) := fun j hj => by
        have := hcell j hj
        rwa [addr_add] at this
      have h1 := hcell' 0 (by omega)
      have hblk : ∃ cs e fr, W.heap[b]? = some (.cells cs e fr) := by
        unfold World.cell? at h1
        simp only at h1
        split at h1 <;> first | exact ⟨_, _, _, by assumption⟩ | (cases h1; done)
      obtain ⟨cs, e, fr, hcs⟩ := hblk
      have hx : ∀ (j : Nat) (x : Int), zs[j]? = some x → cs[off + j]? = some (.int .u8 x) := fun j x hj => by
        have hjl : j < zs.length := (List.getElem?_eq_some_iff.1 hj).1
        have := hcell' j hjl
        simp only [World.cell?, hcs] at this
        rw [List.getD_eq_getElem?_getD, hj] at this
        exact this
      have hoff : off < cs.size := by
        have := hx 0 (zs.getD 0 0) (by rw [List.getD_eq_getElem?_getD]; cases hz0 : zs[0]? with
          | none => rw [List.getElem?_eq_none_iff] at hz0; omega
          | some y => rfl)
        rcases Nat.lt_or_ge off cs.size with h' | h'
        · exact h'
        · rw [Nat.add_zero, Array.getElem?_eq_none h'] at this; cases this
      refine law_calls h ⟨zs, off, len0⟩ ?_ (σ := [(b, cs.size)]) (sim_code hcs rfl hx) (.sl (b := b) (c := cs.size) (by rfl) hl (show off + cap0 * 0 ≤ cs.size by omega))
      by_cases hb : 4096 < len0
      · exact .inr hb
      · refine .inl ?_
        simp only [goodB, Bool.and_eq_true, decide_eq_true_eq, List.all_eq_true]
        refine ⟨⟨by omega, by omega⟩, fun n hn => ?_⟩
        exact wf_u8 (hwz n hn)
end Go.Proofs.Ytdcjjibekhcplaa
