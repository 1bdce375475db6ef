/- impl.UnwrapRows: the loop. -/
import Derived.Test.YtdcjjibekhcplaaEae
import Derived.Test.YtdcjjibekhcplaaEai
import Derived.Test.YtdcjjibekhcplaaEak
import Derived.Test.YtdcjjibekhcplaaEan
namespace Go.Ax
open Go Go.Proofs

noncomputable def rowsUn : List (FuncId × Table) := [(273, idxZT), (172, codeT), (176, codeT), (178, isMapT), (184, isMapT)]
theorem rowsUn_at : allAt Try.prog rowsUn := ⟨idx_at, wcd_at, wd_at, isMap_at, isMap2_at, trivial⟩
noncomputable def tabUn : Table := tabOf (cdeep Try.prog rowsUn [80, 81, 82, 83, 84, 173, 175] 4000 6)
theorem tabUn_sound : SoundT Try.prog tabUn := cdeep_sound (allAt_mem rowsUn_at) 6
def lz (xs zs : List Int) : List AB := [.cells false (.ints .i64 xs), .cells true (.ints .i64 zs)]
/-! ### impl.UnwrapRows -/
noncomputable def urC : Code := Try.f80.body.getD .skip
noncomputable def ur0 (n : Int) (xs : List Int) : Res := cupto Try.prog tabUn atLoop 100 [.code urC] (.i false .i64 n :: .sl false 0 0 xs.length 1 :: undefs 53) (lb xs)
noncomputable def urL : List Item := ((ur0 0 []).at [false]).todo
noncomputable def urR : List Item := toLp urL
theorem urR_eq : toLp urR = urR := by kernel_rfl
def urT (n : Int) (m : Nat) (k : Int) : List AV := tmpsOf 55 [(0, .i false .i64 n), (1, .sl false 0 0 m 1), (7, .sl false 1 0 m 1), (8, .i false .i64 k)]
def urM : List Bool := maskOf 55 [(0, .any), (1, .any), (7, .any), (8, .any)]
noncomputable def urU (n : Int) (xs zs : List Int) (k : Nat) : Res := cupto Try.prog tabUn atLoop 100 urR (urT n xs.length (Int.ofNat k)) (lz xs zs)
/-- The step between two heights. -/
def stZ (h k : Int) : Int := wrapQ false .i64 ((wrapQ false .i64 ((wrapQ false .i64 (wrapQ false .i64 (k - h) + 32)).tmod 64 + 64)).tmod 64 - 32)
def gi (xs : List Int) (i : Int) : Int := xs.getD (0 + i.toNat * 1) 0
def urV (xs zs : List Int) (k fr : Int) : Int := wrapQ false .i64 (gi zs fr + stZ (gi xs fr) (gi xs k))
def urFrom (b : Bool) (n : Int) (k : Nat) : Int := match b with
  | true => wrapQ false .i64 (Int.ofNat k - n)
  | false => wrapQ false .i64 (Int.ofNat k - 1)
def urQ (xs zs : List Int) (k fr v : Int) : List Bool :=
  let ix := fun (i : Int) => decide (0 ≤ i) && decide (i < (xs.length : Int))
  let ld := fun (ys : List Int) (i : Int) => decide (0 + i.toNat * 1 < (Cells.ints .i64 ys).len)
  [decide (([AV.i false .i64 v] : List AV).length = 1) && decide (0 + k.toNat * 1 + 1 ≤ (Cells.ints .i64 zs).len), ix k, ld xs k, ix k, ld xs fr, ix fr, ld zs fr, ix fr]
def urTs (n : Int) (m : Nat) (s : AV) (k : Int) : List AV := tmpsOf 55 [(0, .i false .i64 n), (1, .sl false 0 0 m 1), (7, s), (8, .i false .i64 k)]
def ur0Q (xs : List Int) : List Bool := [decide (0 = 0) && decide (1 = 1) && decide (0 * 1 = (Cells.ints .i64 []).len) && decide ((2 * (0 + xs.length) + 1024) * 8 ≤ 2 ^ 48), decide (0 + xs.length * 1 ≤ (Cells.ints .i64 xs).len), true, true, decide (xs.length = xs.length), decide (xs.length ≤ 5000)]
/-- An end: the value, memory, and what is to be shown. -/
noncomputable def leafF (P : Program) (rs : List ResultVar) (r : Res) : Option (AV × List AB × List Bool) := match endOf P rs r with
  | some (some (vs, m), H, nd) => some (tupV vs, H, m ++ nd)
  | _ => none
theorem ur0_ok (n : Int) (xs : List Int) : (condsP (ur0 n xs) [false], lfD 1 [1] urM ((ur0 n xs).at [false])) = ([!!eqQ false (wcZ n xs) 0], (true, urL, (true, (urTs n xs.length (.sl false 1 0 (0 + xs.length) 1) 1).map AV.bare, lz xs (List.take (0 * 1) (List.drop 0 []) ++ List.take (xs.length * 1) (List.drop 0 xs))), ur0Q xs)) := by kernel_rfl
theorem ur0_bad (n : Int) (xs : List Int) : (condsP (ur0 n xs) [true], endOf Try.prog Try.f80.results.toList ((ur0 n xs).at [true])) = ([!eqQ false (wcZ n xs) 0], some (some ([.slnil, .i false .i64 (wcZ n xs)], []), lb xs, szQ xs)) := by kernel_rfl
theorem ur_step (n : Int) (xs zs : List Int) (k : Nat) (b : Bool) : (condsP (urU n xs zs k) [true, b], lfM urM ((urU n xs zs k).at [true, b])) =
    ([ltQ false (Int.ofNat k) (wrapQ false .i64 (n * n)), cond b (eqQ false ((Int.ofNat k).tmod n) 0) (!eqQ false ((Int.ofNat k).tmod n) 0)],
     (true, urR, (urT n xs.length (wrapQ false .i64 (Int.ofNat k + 1))).map AV.bare, lz xs (zs.set (0 + (Int.ofNat k).toNat * 1) (urV xs zs (Int.ofNat k) (urFrom b n k))), urQ xs zs (Int.ofNat k) (urFrom b n k) (urV xs zs (Int.ofNat k) (urFrom b n k)) ++ [!decide (n = 0)])) := by
  cases b <;> kernel_rfl
theorem ur_end (n : Int) (xs zs : List Int) (k : Nat) : (condsP (urU n xs zs k) [false, false], leafF Try.prog Try.f80.results.toList ((urU n xs zs k).at [false, false])) =
    ([!ltQ false (Int.ofNat k) (wrapQ false .i64 (n * n)), !leQ false 0 (firstN (fun i => !inJ (-100000) 100000 zs i) zs.length 0)], some (.tup [.sl false 1 0 xs.length 1, .i true .i64 0], lz xs zs, [true, decide (xs.length = zs.length), decide (xs.length ≤ 5000)])) := by kernel_rfl
/-! ### The plain list -/
def upN (m k : Nat) : Nat := if k % m = 0 then k - m else k - 1
def rwStep (m : Nat) (xs zs : List Int) (k : Nat) : Int := wrapQ false .i64 (zs.getD (upN m k) 0 + stZ (xs.getD (upN m k) 0) (xs.getD k 0))
/-- The rows unwrapped up to a place. -/
def rwP (m : Nat) (xs : List Int) : Nat → List Int
  | 0 => xs
  | j + 1 => (rwP m xs j).set (j + 1) (rwStep m xs (rwP m xs j) (j + 1))
theorem rwP_length (m : Nat) (xs : List Int) : ∀ j, (rwP m xs j).length = xs.length
  | 0 => rfl
  | j + 1 => by simp [rwP, rwP_length m xs j]
theorem gi_nat (xs : List Int) (i : Nat) : gi xs (Int.ofNat i) = xs.getD i 0 := by
  have e : 0 + (Int.ofNat i).toNat * 1 = i := by simp
  unfold gi
  rw [e]
theorem upN_lt {m k : Nat} (hm : 0 < m) (hk : 0 < k) : upN m k < k := by
  unfold upN
  split <;> omega
theorem urFrom_eq {m k : Nat} (hm : 0 < m) (hk : 0 < k) (hk2 : k ≤ 64) : urFrom (decide (k % m = 0)) (m : Int) k = Int.ofNat (upN m k) := by
  unfold upN
  by_cases h : k % m = 0
  · have hge : m ≤ k := by
      rcases Nat.lt_or_ge k m with h' | h'
      · rw [Nat.mod_eq_of_lt h'] at h; omega
      · exact h'
    simp only [h, decide_true, if_true]
    show IntKind.i64.wrap _ = _
    rw [wrap64_id] <;> simp <;> omega
  · simp only [h, decide_false, if_false]
    show IntKind.i64.wrap _ = _
    rw [wrap64_id] <;> simp <;> omega
theorem eqQ_mod {m k : Nat} : eqQ false ((Int.ofNat k).tmod (m : Int)) 0 = decide (k % m = 0) := by
  rw [eqQ_eq]
  have : (Int.ofNat k).tmod (m : Int) = ((k % m : Nat) : Int) := rfl
  rw [this]
  by_cases h : k % m = 0
  · simp [h]
  · simp only [h, decide_false, beq_eq_false_iff_ne, ne_eq]; omega
theorem ur_go {m : Nat} (hm : m = 1 ∨ m = 2 ∨ m = 4 ∨ m = 8) {xs : List Int} (hx : xs.length = m * m) {t0 : List AV} {H0 : List AB} {L0 : List Item} (hL0 : toLp L0 = urR) (hr : Reach Try.prog [.code urC] t0 H0 L0 (urT m xs.length 1) (lz xs xs)) :
    ∀ j, j + 1 ≤ m * m → ∃ L, toLp L = urR ∧ Reach Try.prog [.code urC] t0 H0 L (urT m xs.length (Int.ofNat (j + 1))) (lz xs (rwP m xs j))
  | 0, _ => ⟨L0, hL0, hr⟩
  | j + 1, hj => by
    obtain ⟨L, hL, r⟩ := ur_go hm hx hL0 hr j (by omega)
    have hN : m * m ≤ 64 := by rcases hm with rfl | rfl | rfl | rfl <;> decide
    have hm0 : 0 < m := by omega
    have hb := ur_step (m : Int) xs (rwP m xs j) (j + 1) (decide ((j + 1) % m = 0))
    simp only [Prod.mk.injEq] at hb
    obtain ⟨c1, l1⟩ := hb
    have hU : cupto Try.prog tabUn atLoop 100 L (urT m xs.length (Int.ofNat (j + 1))) (lz xs (rwP m xs j)) = urU m xs (rwP m xs j) (j + 1) := by
      unfold urU
      rw [← hL, cupto_toLp]
    rw [← hU] at c1 l1
    have hmm : wrapQ false .i64 ((m : Int) * m) = ((m * m : Nat) : Int) := by rcases hm with rfl | rfl | rfl | rfl <;> rfl
    have hlt : ltQ false (Int.ofNat (j + 1)) (wrapQ false .i64 ((m : Int) * m)) = true := by rw [hmm]; exact ltQ_true (by omega)
    have hfr := urFrom_eq hm0 (Nat.succ_pos j) (by omega : j + 1 ≤ 64)
    have hfl : upN m (j + 1) < j + 1 := upN_lt hm0 (Nat.succ_pos j)
    rw [hfr] at l1
    have hq : allT (urQ xs (rwP m xs j) (Int.ofNat (j + 1)) (Int.ofNat (upN m (j + 1))) (urV xs (rwP m xs j) (Int.ofNat (j + 1)) (Int.ofNat (upN m (j + 1)))) ++ [!decide ((m : Int) = 0)]) = true := by
      rw [allT_append]
      have e1 : (!decide ((m : Int) = 0)) = true := by simp; omega
      rw [e1]
      have hlen := rwP_length m xs j
      simp only [urQ, allT, Cells.len, hlen, Bool.and_true, Bool.and_eq_true, decide_eq_true_eq, List.length_cons, List.length_nil, hx]
      simp only [Int.ofNat_eq_natCast, Int.toNat_natCast]
      generalize upN m (j + 1) = fr at hfl
      generalize m * m = N at hj hN ⊢
      refine ⟨⟨trivial, by omega⟩, ⟨by omega, by omega⟩, by omega, ⟨by omega, by omega⟩, by omega, ⟨by omega, by omega⟩, by omega, by omega, by omega⟩
    have r1 := r.trans (cway_reach (P := Try.prog) (T := tabUn) (stop := atLoop) (n := 100) (L := L) (p := [true, decide ((j + 1) % m = 0)]) (M := urM) tabUn_sound (by
      rw [c1, hlt, eqQ_mod]
      cases decide ((j + 1) % m = 0) <;> rfl) l1 hq)
    have e1 : wrapQ false .i64 (Int.ofNat (j + 1) + 1) = Int.ofNat (j + 1 + 1) := ofNat_next (by omega)
    rw [e1] at r1
    refine ⟨urR, urR_eq, ?_⟩
    have e2 : (rwP m xs j).set (0 + (Int.ofNat (j + 1)).toNat * 1) (urV xs (rwP m xs j) (Int.ofNat (j + 1)) (Int.ofNat (upN m (j + 1)))) = rwP m xs (j + 1) := by
      have e3 : 0 + (Int.ofNat (j + 1)).toNat * 1 = j + 1 := by simp
      rw [e3]
      unfold urV
      rw [gi_nat, gi_nat, gi_nat]
      rfl
    rw [e2] at r1
    exact r1
end Go.Ax

/- impl.UnwrapRows: the contract. -/
namespace Go.Ax
open Go Go.Proofs

/-- The whole list, unwrapped along rows. -/
def rwL (n : Int) (xs : List Int) : List Int := rwP n.toNat xs (n.toNat * n.toNat - 1)
theorem wcZ_zero {n : Int} {xs : List Int} (h : wcZ n xs = 0) : ∃ m : Nat, n = (m : Int) ∧ (m = 1 ∨ m = 2 ∨ m = 4 ∨ m = 8) ∧ xs.length = m * m ∧ allI 0 63 xs = true := by
  unfold wcZ at h
  split at h
  · cases h
  · cases h
  · rename_i h1 h2
    simp only [isMapZ, Bool.and_eq_true, decide_eq_true_eq] at h1
    obtain ⟨hs, hl, _⟩ := h1
    rcases sideB_iff.1 hs with rfl | rfl | rfl | rfl
    · exact ⟨1, rfl, by omega, by omega, h2⟩
    · exact ⟨2, rfl, by omega, by omega, h2⟩
    · exact ⟨4, rfl, by omega, by omega, h2⟩
    · exact ⟨8, rfl, by omega, by omega, h2⟩
theorem small64 {x : Int} (h : -100000 ≤ x ∧ x ≤ 100000) : wrapQ false .i64 x = x := wrap64_id (by omega) (by omega)
theorem stZ_bound {h k : Int} (hh : -100000 ≤ h ∧ h ≤ 100000) (hk : -100000 ≤ k ∧ k ≤ 100000) : stZ h k = (k - h + 32) % 64 - 32 := by
  unfold stZ
  have e1 : wrapQ false .i64 (k - h) = k - h := wrap64_id (by omega) (by omega)
  rw [e1]
  have e2 : wrapQ false .i64 (k - h + 32) = k - h + 32 := wrap64_id (by omega) (by omega)
  rw [e2]
  have b1 := Int.tmod_lt_of_pos (k - h + 32) (b := 64) (by omega)
  have b2 := Int.lt_tmod_of_pos (k - h + 32) (b := 64) (by omega)
  have e3 : wrapQ false .i64 ((k - h + 32).tmod 64 + 64) = (k - h + 32).tmod 64 + 64 := wrap64_id (by omega) (by omega)
  rw [e3]
  have e4 : ((k - h + 32).tmod 64 + 64).tmod 64 = (k - h + 32) % 64 := by
    rw [Int.tmod_eq_emod_of_nonneg (by omega)]
    rw [Int.add_emod_right]
    have := Int.tmod_def (k - h + 32) 64
    rw [this]
    omega
  rw [e4]
  exact wrap64_id (by omega) (by omega)
theorem rwP_bound {m : Nat} (hm : 0 < m) {xs : List Int} (hx : allI 0 63 xs = true) (hl : xs.length ≤ 64) : ∀ j, ∀ i, i < xs.length → -(32 * (i : Int)) ≤ (rwP m xs j).getD i 0 ∧ (rwP m xs j).getD i 0 ≤ 63 + 32 * (i : Int)
  | 0, i, hi => by
    have := allI_iff.1 hx i hi
    unfold rwP
    omega
  | j + 1, i, hi => by
    have ih := rwP_bound hm hx hl j
    have hlen := rwP_length m xs j
    unfold rwP
    by_cases hij : i = j + 1
    · subst hij
      have hf := upN_lt hm (Nat.succ_pos j)
      have hf : upN m (j + 1) < j + 1 := hf
      have e1 : ((rwP m xs j).set (j + 1) (rwStep m xs (rwP m xs j) (j + 1))).getD (j + 1) 0 = rwStep m xs (rwP m xs j) (j + 1) := by
        simp [List.getD_eq_getElem?_getD, hlen, hi]
      rw [e1]
      unfold rwStep
      have b1 := ih (upN m (j + 1)) (by omega)
      have x1 := allI_iff.1 hx (upN m (j + 1)) (by omega)
      have x2 := allI_iff.1 hx (j + 1) hi
      rw [stZ_bound (by omega) (by omega)]
      generalize upN m (j + 1) = fr at *
      rw [small64 (by omega)]
      omega
    · have e1 : ((rwP m xs j).set (j + 1) (rwStep m xs (rwP m xs j) (j + 1))).getD i 0 = (rwP m xs j).getD i 0 := by
        simp only [List.getD_eq_getElem?_getD]
        rw [List.getElem?_set_ne (by omega)]
      rw [e1]
      exact ih i hi
theorem rwP_high {m : Nat} (hm : 0 < m) {xs : List Int} (hx : allI 0 63 xs = true) (hl : xs.length ≤ 64) (j : Nat) : allI (-100000) 100000 (rwP m xs j) = true := by
  rw [allI_iff]
  intro i hi
  rw [rwP_length] at hi
  have := rwP_bound hm hx hl j i hi
  omega
theorem ur_ok {n : Int} {xs : List Int} (h : wcZ n xs = 0) : CallOK Try.prog 80 [.i false .i64 n, .sl false 0 0 xs.length 1] (lb xs) (.tup [.sl false 1 0 (rwL n xs).length 1, .i false .i64 0]) (lz xs (rwL n xs)) := by
  obtain ⟨m, rfl, hm, hx, ha⟩ := wcZ_zero h
  have hN : m * m ≤ 64 := by rcases hm with rfl | rfl | rfl | rfl <;> decide
  have hm0 : 0 < m := by omega
  have hN1 : 1 ≤ m * m := Nat.mul_pos hm0 hm0
  have h0 := ur0_ok (m : Int) xs
  simp only [Prod.mk.injEq] at h0
  have hq : allT (ur0Q xs) = true := by
    have h5 : xs.length ≤ 5000 := by omega
    simp [ur0Q, allT, Cells.len, h5]
    exact Nat.le_trans (by omega : (2 * xs.length + 1024) * 8 ≤ 20000) (by decide)
  have r0 := cway_drop (P := Try.prog) (T := tabUn) (stop := atLoop) (n := 100) (L := [.code urC]) (p := [false]) (M := urM) (ks := [1]) (t0 := .i false .i64 m :: .sl false 0 0 xs.length 1 :: undefs 53) (H0 := lb xs) tabUn_sound rfl (by
    show allT (condsP (ur0 m xs) [false]) = true
    rw [h0.1, h]; rfl) h0.2 hq
  have e1 : List.take (0 * 1) (List.drop 0 ([] : List Int)) ++ List.take (xs.length * 1) (List.drop 0 xs) = xs := by simp
  rw [e1] at r0
  have e2 : urTs (m : Int) xs.length (.sl false 1 0 (0 + xs.length) 1) 1 = urT m xs.length 1 := by rw [Nat.zero_add]; rfl
  rw [e2] at r0
  obtain ⟨L, hL, r⟩ := ur_go hm hx (L0 := urL) rfl r0 (m * m - 1) (by omega)
  have hz : rwL (m : Int) xs = rwP m xs (m * m - 1) := by simp [rwL]
  rw [← hz] at r
  have hlen : (rwL (m : Int) xs).length = xs.length := by rw [hz]; exact rwP_length m xs _
  have hlast := ur_end (m : Int) xs (rwL m xs) (m * m - 1 + 1)
  simp only [Prod.mk.injEq] at hlast
  obtain ⟨c1, l1⟩ := hlast
  have hU : cupto Try.prog tabUn atLoop 100 L (urT m xs.length (Int.ofNat (m * m - 1 + 1))) (lz xs (rwL m xs)) = urU m xs (rwL m xs) (m * m - 1 + 1) := by
    unfold urU
    rw [← hL, cupto_toLp]
  have hmm : wrapQ false .i64 ((m : Int) * m) = ((m * m : Nat) : Int) := by rcases hm with rfl | rfl | rfl | rfl <;> rfl
  have hall : allI (-100000) 100000 (rwL (m : Int) xs) = true := by rw [hz]; exact rwP_high hm0 ha (by omega) _
  unfold leafF at l1
  split at l1 <;> (try (cases l1; done))
  rename_i vs mm H nd he
  simp only [Option.some.injEq, Prod.mk.injEq] at l1
  obtain ⟨l1, rfl, l3⟩ := l1
  have hn : allT (mm ++ nd) = true := by
    rw [l3]
    simp [allT, hlen, hx]
    omega
  rw [allT_append, Bool.and_eq_true] at hn
  have hk : m * m - 1 + 1 = m * m := by omega
  obtain ⟨t, g1, g2⟩ := endOf_ends (T := tabUn) (stop := atLoop) (n := 100) (todo := L) (t0 := urT m xs.length (Int.ofNat (m * m - 1 + 1))) (H0 := lz xs (rwL m xs)) tabUn_sound he (by
    rw [hU]
    exact sel_of_conds _ [false, false] (by rw [c1, hmm, first_all, hall, hk, ltQ_same]; rfl)) hn.2
  have k := call_of_ends (args := [.i false .i64 m, .sl false 0 0 xs.length 1]) Try.func80 (rfl : Try.f80.body = some urC) (r.ends g1) g2 hn.1
  rw [l1] at k
  rw [hlen]
  exact k.weaken fun σ x r => tupW (l := [.sl false 1 0 xs.length 1, .i true .i64 0]) (by rfl) r
end Go.Ax

/- Regions of open order in which a call makes one block, and later operations look at it. -/
namespace Go.Ax
open Go

section
variable {P : Program} {T : Table} {ops : Array Oper} {m e : Nat}

/-- The operation that makes a block. -/
def BVal2 (P : Program) (ops : Array Oper) (e : Nat) (t : List AV) (H : List AB) (v : AV) (B : AB) : Prop :=
  ∃ o, ops[e]? = some o ∧ ∀ (σ : List (Nat × Nat)) (w : World) (a : Act) (Q : Exit → Act → World → Prop) (next : Act → World → Prop), Sim σ H w →
    (∀ n ∈ looks ops o, Rel σ (getL t n) (a.tmps.getD n undef)) → a.tmps.size = t.length →
    (∀ rv w' x, Rel (σ ++ [x]) v rv → Sim (σ ++ [x]) (H ++ [B]) w' → Fr σ H w (σ ++ [x]) (H ++ [B]) w' → next (a.put o.dst rv) w') → wpOp P ops Q e next a w
theorem any_box2 (hok : drawOK ops m = true) (hmn : m ≤ ops.size) (hem : e < m) {t t' : List AV} {H H' : List AB} {B : AB} {val : Nat → AV} {d : Nat → Bool} (hde : d e = true) (hv : ∀ i, i < m → d i = false → QVal P ops i (stAt ops val t 0 i) H (val i)) (hb : BVal2 P ops e (stAt ops val t 0 e) H (val e) B)
    (hd2 : ∀ i, i < m → d i = true → i ≠ e → QVal P ops i (stAt ops val t 0 i) (H ++ [B]) (val i) ∧ aheadOf ops 10 i e = true)
    (hlk : ∀ i, i < m → (d i = false ∨ i = e) → ∀ o, ops[i]? = some o → ∀ n ∈ looks ops o, ∀ k, k < m → d k = true → gDst ops k ≠ some n) (hlow : lowH H.length H = true) (hlive : B.live = true)
    (c : Chain P ops m (stAt ops val t 0 m) (H ++ [B]) ops.size t' H') {Q : Exit → Act → World → Prop} {σ : List (Nat × Nat)} :
    ∀ (fuel : Nat) (listed : Array Bool) (a : Act) (w : World) (σ1 : List (Nat × Nat)) (H1 : List AB), listed.size = ops.size → Down ops listed →
      (left ops listed).length ≤ fuel → (∀ i, m ≤ i → ¬ Ls listed i) → ((σ1 = σ ∧ H1 = H ∧ ¬ Ls listed e) ∨ (∃ x, σ1 = σ ++ [x] ∧ H1 = H ++ [B] ∧ Ls listed e)) → Sim σ1 H1 w → a.tmps.size = t.length →
      (∀ x, (∀ i, i < m → Ls listed i → gDst ops i = some x → x < t.length → Rel (if d i = true then σ1 else σ) (val i) (a.tmps.getD x undef)) ∧ ((∀ i, i < m → Ls listed i → gDst ops i ≠ some x) → Rel σ (getL t x) (a.tmps.getD x undef))) →
      (∀ a' w' σ', RelL σ' t' a'.tmps.toList → a'.defers = a.defers → Sim σ' H' w' → Fr σ1 H1 w σ' H' w' → Q .normal a' w') → wpAny P .any ops Q fuel listed a w := by
  have hdist : ∀ i i', i < m → i' < m → i' ≠ i → ∀ x, gDst ops i = some x → gDst ops i' ≠ some x := fun i i' hi hi' hne x hx => by
    have hoi : ops[i]? = some ops[i] := Array.getElem?_eq_getElem (by omega)
    have hd : ops[i].dst = some x := by simpa [gDst, hoi] using hx
    exact ((drawOK_spec hok i _ hoi).2.1 hi).2 i' hi' hne x hd
  have htail : ∀ (fuel : Nat) (listed : Array Bool) (a : Act) (w : World) (σ1 : List (Nat × Nat)) (H1 : List AB), listed.size = ops.size → Down ops listed →
      (left ops listed).length ≤ fuel → (∀ i, m ≤ i → ¬ Ls listed i) → (∀ i, i < m → Ls listed i) → ((σ1 = σ ∧ H1 = H ∧ ¬ Ls listed e) ∨ (∃ x, σ1 = σ ++ [x] ∧ H1 = H ++ [B] ∧ Ls listed e)) → Sim σ1 H1 w → a.tmps.size = t.length →
      (∀ x, (∀ i, i < m → Ls listed i → gDst ops i = some x → x < t.length → Rel (if d i = true then σ1 else σ) (val i) (a.tmps.getD x undef)) ∧ ((∀ i, i < m → Ls listed i → gDst ops i ≠ some x) → Rel σ (getL t x) (a.tmps.getD x undef))) →
      (∀ a' w' σ', RelL σ' t' a'.tmps.toList → a'.defers = a.defers → Sim σ' H' w' → Fr σ1 H1 w σ' H' w' → Q .normal a' w') → wpAny P .any ops Q fuel listed a w := by
    intro fuel listed a w σ1 H1 hsz hd hf hnm hall hcase s hat hx q
    obtain ⟨x0, rfl, rfl, _⟩ : ∃ x, σ1 = σ ++ [x] ∧ H1 = H ++ [B] ∧ Ls listed e := by
      rcases hcase with ⟨_, _, h⟩ | h
      · exact absurd (hall e hem) h
      · exact h
    have hext : Ext σ (σ ++ [x0]) := Ext.append σ [x0]
    refine any_tail hok fuel listed m _ (H ++ [B]) (σ ++ [x0]) a w hsz hd hf (Nat.le_refl _) (fun i hi => ⟨fun h => ?_, fun h => hall i h⟩) c s ?_ q
    · rcases Nat.lt_or_ge i m with h' | h'
      · exact h'
      · exact absurd h (hnm i h')
    · refine RelL.of_get (by rw [stAt_length]; simpa using hat.symm) fun x b y hb hy => ?_
      have hxl : x < t.length := by
        rcases Nat.lt_or_ge x t.length with h' | h'
        · exact h'
        · rw [List.getElem?_eq_none (by rw [stAt_length]; exact h')] at hb; cases hb
      have hb' : b = getL (stAt ops val t 0 m) x := by
        rw [getL_some (by rw [stAt_length]; exact hxl)] at hb; cases hb; rfl
      have hy' : a.tmps.getD x undef = y := by
        have : a.tmps[x]? = some y := by simpa using hy
        rw [Array.getD_eq_getD_getElem?, this]; rfl
      subst hb'
      rw [← hy']
      by_cases hex : ∃ i, i < m ∧ gDst ops i = some x
      · obtain ⟨i, hi, hgi⟩ := hex
        rw [stAt_val ops val m 0 t i (by omega) (by omega) hgi hxl (fun i' _ h2 h3 => hdist i i' hi (by omega) h3 x hgi)]
        have := (hx x).1 i hi (hall i hi) hgi hxl
        split at this
        · exact this
        · exact this.mono hext
      · have hno : ∀ i, i < m → gDst ops i ≠ some x := fun i hi hg => hex ⟨i, hi, hg⟩
        rw [stAt_untouched ops val m 0 t (fun i _ h2 => hno i (by omega))]
        exact ((hx x).2 fun i hi _ => hno i hi).mono hext
  intro fuel
  induction fuel with
  | zero =>
    intro listed a w σ1 H1 hsz hd hf hnm hcase s hat hx q
    refine htail 0 listed a w σ1 H1 hsz hd hf hnm (fun i hi => ?_) hcase s hat hx q
    apply Classical.byContradiction
    intro hn
    have : i ∈ left ops listed := mem_left.2 ⟨by omega, hn⟩
    have := List.length_pos_of_mem this
    omega
  | succ fuel ih =>
    intro listed a w σ1 H1 hsz hd hf hnm hcase s hat hx q
    by_cases hall : ∀ i, i < m → Ls listed i
    · exact htail _ listed a w σ1 H1 hsz hd hf hnm hall hcase s hat hx q
    refine ⟨fun hr => ?_, fun j hj => ?_⟩
    · exfalso
      apply hall
      intro i hi
      apply Classical.byContradiction
      intro hn
      obtain ⟨y, hy⟩ := ready_some hok hsz i (by omega) hn
      rw [hr] at hy; cases hy
    · obtain ⟨hnl, o, ho, hafter⟩ := (mem_ready' hsz).1 hj
      have hjs := (Array.getElem?_eq_some_iff.1 ho).1
      have hjm : j < m := by
        rcases Nat.lt_or_ge j m with h | h
        · exact h
        · exfalso
          apply hall
          intro i hi
          exact ahead_ready hd hsz hj ((drawOK_spec hok j o ho).2.2 h i (by omega))
      have hdst : gDst ops j = o.dst := by simp [gDst, ho]
      -- behind the operation
      have hnext : ∀ (σ2 : List (Nat × Nat)) (H2 : List AB) (rv : Value) (w' : World), ((σ2 = σ ∧ H2 = H ∧ ¬ Ls (listed.setIfInBounds j true) e) ∨ (∃ x, σ2 = σ ++ [x] ∧ H2 = H ++ [B] ∧ Ls (listed.setIfInBounds j true) e)) → Rel (if d j = true then σ2 else σ) (val j) rv →
          (∀ (b : AV) x, Ls listed e → Rel σ1 b x → Rel σ2 b x) → Sim σ2 H2 w' → Fr σ1 H1 w σ2 H2 w' → wpAny P .any ops Q fuel (listed.setIfInBounds j true) (a.put o.dst rv) w' := fun σ2 H2 rv w' hcase' hrv hkeep s' f' => by
        refine ih (listed.setIfInBounds j true) (a.put o.dst rv) w' σ2 H2 (by simpa using hsz) (hd.set hsz hj) ?_ (fun i hi => ?_) hcase' s' ?_ (fun x => ⟨fun i hi hli hgi hxl => ?_, fun hno => ?_⟩) fun a2 w2 σ3 r2 d2 s2 f2 => q a2 w2 σ3 r2 (d2.trans (put_defers _ _ _)) s2 (f'.trans f2)
        · have := left_set hjs hsz hnl; omega
        · rw [Ls_set (by omega)]; rintro (rfl | h)
          · omega
          · exact hnm i hi h
        · cases o.dst <;> simp [Act.put, hat]
        · rw [Ls_set (by omega)] at hli
          by_cases hij : i = j
          · subst hij
            rw [hdst] at hgi
            rw [hgi]
            simp only [Act.put]
            rw [Array.getD_eq_getD_getElem?, Array.getElem?_setIfInBounds_self_of_lt (by omega)]
            exact hrv
          · have hne : o.dst ≠ some x := by rw [← hdst]; exact hdist i j hi hjm (Ne.symm hij) x hgi
            have : (a.put o.dst rv).tmps.getD x undef = a.tmps.getD x undef := by
              cases hod : o.dst with
              | none => rfl
              | some d =>
                have hdx : d ≠ x := fun e => hne (by rw [hod, e])
                simp [Act.put, Array.getD_eq_getD_getElem?, Array.getElem?_setIfInBounds_ne hdx]
            rw [this]
            have hl := hli.resolve_left hij
            have h0 := (hx x).1 i hi hl hgi hxl
            cases hdi : d i with
            | true =>
              rw [hdi, if_pos rfl] at h0
              rw [if_pos rfl]
              have hle : Ls listed e := by
                by_cases hie : i = e
                · rw [← hie]; exact hl
                · exact ahead_listed hd hl (by omega) (hd2 i hi hdi hie).2
              exact hkeep _ _ hle h0
            | false =>
              rw [hdi, if_neg (by simp)] at h0
              rw [if_neg (by simp)]
              exact h0
        · have hne : o.dst ≠ some x := by rw [← hdst]; exact hno j hjm ((Ls_set (by omega)).2 (.inl rfl))
          have : (a.put o.dst rv).tmps.getD x undef = a.tmps.getD x undef := by
            cases hod : o.dst with
            | none => rfl
            | some d =>
              have hdx : d ≠ x := fun e => hne (by rw [hod, e])
              simp [Act.put, Array.getD_eq_getD_getElem?, Array.getElem?_setIfInBounds_ne hdx]
          rw [this]
          exact (hx x).2 fun i hi hli => hno i hi ((Ls_set (by omega)).2 (.inr hli))
      -- what it looks at, where no later value stands
      have hlook : ∀ τ, Ext σ τ → ((d j = false ∨ j = e) ∨ τ = σ1) → ∀ n ∈ looks ops o, Rel τ (getL (stAt ops val t 0 j) n) (a.tmps.getD n undef) := fun τ hτ hcs n hn => by
        by_cases hnl' : n < t.length
        · by_cases hex : ∃ i, i < m ∧ gDst ops i = some n
          · obtain ⟨i, hi, hgi⟩ := hex
            have hah := ((drawOK_spec hok j o ho).2.1 hjm).1 n hn i hi hgi
            have hil := ahead_ready hd hsz hj hah
            have hij : i < j := aheadOf_lt hok 10 j i hah
            rw [stAt_val ops val j 0 t i (by omega) (by omega) hgi hnl' (fun i' _ h2 h3 => hdist i i' hi (by omega) h3 n hgi)]
            have h0 := (hx n).1 i hi hil hgi hnl'
            cases hdi : d i with
            | false =>
              rw [hdi, if_neg (by simp)] at h0
              exact h0.mono hτ
            | true =>
              rw [hdi, if_pos rfl] at h0
              rcases hcs with hcs | rfl
              · exact absurd hgi (hlk j hjm hcs o ho n hn i hi hdi)
              · exact h0
          · have hno : ∀ i, i < m → gDst ops i ≠ some n := fun i hi hg => hex ⟨i, hi, hg⟩
            rw [stAt_untouched ops val j 0 t (fun i _ h2 => hno i (by omega))]
            exact ((hx n).2 fun i hi _ => hno i (by omega)).mono hτ
        · rw [getL_none (by rw [stAt_length]; omega)]
          have : a.tmps.getD n undef = undef := by
            rw [Array.getD_eq_getD_getElem?, Array.getElem?_eq_none (by omega)]; rfl
          rw [this]; exact .tup .nil
      by_cases hje : j = e
      · subst hje
        obtain ⟨rfl, rfl, _⟩ : σ1 = σ ∧ H1 = H ∧ ¬ Ls listed j := by
          rcases hcase with h | ⟨_, _, _, h⟩
          · exact h
          · exact absurd h hnl
        obtain ⟨o', ho', hbv⟩ := hb
        rw [ho] at ho'; cases ho'
        exact hbv σ1 w a Q _ s (hlook σ1 (Ext.refl _) (.inl (.inr rfl))) (by rw [stAt_length]; exact hat) fun rv w' x hrv s' f' => hnext (σ1 ++ [x]) (H1 ++ [B]) rv w' (.inr ⟨x, rfl, rfl, (Ls_set (by omega)).2 (.inl rfl)⟩) (by rw [if_pos hde]; exact hrv) (fun _ _ h => absurd h hnl) s' f'
      · have hLe : Ls (listed.setIfInBounds j true) e ↔ Ls listed e := by
          rw [Ls_set (by omega)]
          exact ⟨fun h => h.resolve_left fun h' => hje h'.symm, .inr⟩
        cases hdj : d j with
        | true =>
          obtain ⟨⟨o', ho', hq⟩, hah⟩ := hd2 j hjm hdj hje
          rw [ho] at ho'; cases ho'
          have hle := ahead_ready hd hsz hj hah
          obtain ⟨x, rfl, rfl, _⟩ : ∃ x, σ1 = σ ++ [x] ∧ H1 = H ++ [B] ∧ Ls listed e := by
            rcases hcase with ⟨_, _, h⟩ | h
            · exact absurd hle h
            · exact h
          refine hq (σ ++ [x]) w a Q _ s (hlook _ (Ext.append σ [x]) (.inr rfl)) (by rw [stAt_length]; exact hat) fun rv w' hrv s' f' => ?_
          exact hnext (σ ++ [x]) (H ++ [B]) rv w' (.inr ⟨x, rfl, rfl, by rw [hLe]; exact hle⟩) (by rw [if_pos hdj]; exact hrv) (fun _ _ _ h => h) s' f'
        | false =>
          obtain ⟨o', ho', hq⟩ := hv j hjm hdj
          rw [ho] at ho'; cases ho'
          have s0 : Sim σ H w := by
            rcases hcase with ⟨rfl, rfl, _⟩ | ⟨x, rfl, rfl, _⟩
            · exact s
            · exact s.less hlow
          refine hq σ w a Q _ s0 (hlook σ (Ext.refl _) (.inl (.inl hdj))) (by rw [stAt_length]; exact hat) fun rv w' hrv s' f' => ?_
          rcases hcase with ⟨rfl, rfl, h⟩ | ⟨x, rfl, rfl, h⟩
          · exact hnext σ1 H1 rv w' (.inl ⟨rfl, rfl, by rw [hLe]; exact h⟩) (by rw [if_neg (by rw [hdj]; simp)]; exact hrv) (fun _ _ _ h => h) s' f'
          · obtain ⟨s2, f2⟩ := s.more hlive s' f'
            exact hnext (σ ++ [x]) (H ++ [B]) rv w' (.inr ⟨x, rfl, rfl, by rw [hLe]; exact h⟩) (by rw [if_neg (by rw [hdj]; simp)]; exact hrv) (fun _ _ _ h => h) s2 f2

/-! ### Their evaluation -/
/-- The first operations: the e-th is a call that makes a block, those of d look at it, the others leave memory alone. -/
def runY (P : Program) (T : Table) (e : Nat) (d : Nat → Bool) : Nat → List Oper → List AV → List AB → AB → List Bool → (List AV → AB → List Bool → Res) → Res
  | _, [], t, _, B, nd, K => K t B nd
  | k, o :: rest, t, H, B, nd, K =>
    match o.guard with
    | some _ => .fail
    | none => match Nat.beq k e with
      | true => if o.op.operands.all okOpd then
          match o.op with
          | .call c => match aCall c (evA t) with
            | some (g, args) => match P.funcs[g]? with
              | some fn => match fn.body with
                | some _ => match fn.name == "runtime.NumGoroutine" with
                  | true => .fail
                  | false => T g args (roH H) nd fun v H' nd' => match (Nat.blt H.length H'.length && lowB (H.length + 1) (getB H' H.length)) && (below (H.length + 1) v && (getB H' H.length).live) with
                    | true => runY P T e d (k + 1) rest (putT t o.dst v) H (getB H' H.length) nd' K
                    | false => .fail
                | none => .fail
              | none => .fail
            | none => .fail
          | _ => .fail
        else .fail
      | false => match d k with
        | false => stepQ P T o t H nd fun t nd => runY P T e d (k + 1) rest t H B nd K
        | true => match Nat.blt e k with
          | true => stepQ P T o t (H ++ [B]) nd fun t nd => runY P T e d (k + 1) rest t H B nd K
          | false => .fail
theorem roH_no_rw (H : List AB) (i : Nat) : (getB (roH H) i).rw = false := by rw [getB_roH, roB_rw]
/-- Behind a call that was given nothing to write to, and made a block. -/
theorem Sim.made {σ σ' : List (Nat × Nat)} {H H' : List AB} {w w' : World} (s : Sim σ H w) (s' : Sim σ' H' w') (f : Fr σ (roH H) w σ' H' w') (hlen : H.length < H'.length) (hlow : lowB (H.length + 1) (getB H' H.length) = true) :
    ∃ x, Ext (σ ++ [x]) σ' ∧ Sim (σ ++ [x]) (H ++ [getB H' H.length]) w' ∧ Fr σ H w (σ ++ [x]) (H ++ [getB H' H.length]) w' := by
  have hs := s.len
  have hs' := s'.len
  have hold : ∀ b, b < w.heap.size → w'.heap[b]? = w.heap[b]? := fun b hb => f.old b hb fun i z hr => by rw [roH_no_rw] at hr; cases hr
  have hx : σ'[H.length]? = some (σ'[H.length]'(by omega)) := List.getElem?_eq_getElem (by omega)
  generalize σ'[H.length]'(by omega) = x at hx
  obtain ⟨b0, z0⟩ := x
  have hfresh : w.heap.size ≤ b0 := by
    rcases f.new H.length b0 z0 hx (List.getElem?_eq_none (by omega)) with h | ⟨j, z', hr, _⟩
    · exact h
    · rw [roH_no_rw] at hr; cases hr
  have hext : Ext (σ ++ [(b0, z0)]) σ' := fun i p hi => by
    rcases Nat.lt_or_ge i σ.length with h | h
    · rw [List.getElem?_append_left h] at hi; exact f.ext i p hi
    · have hlt := isSome_lt hi
      simp only [List.length_append, List.length_cons, List.length_nil] at hlt
      have : i = H.length := by omega
      subst this
      rw [← hs] at hi
      simp at hi
      rw [← hi]; exact hx
  have hgl : ∀ {i : Nat}, i < σ.length → getB (H ++ [getB H' H.length]) i = getB H i := fun h => getB_append_left (by omega)
  have hgn : getB (H ++ [getB H' H.length]) σ.length = getB H' H.length := by rw [getB_append_right (by omega), hs, Nat.sub_self]; rfl
  have hget : ∀ {i : Nat} {p : Nat × Nat}, (σ ++ [(b0, z0)])[i]? = some p → (i < σ.length ∧ σ[i]? = some p) ∨ (i = σ.length ∧ p = (b0, z0)) := fun {i p} h => by
    rcases Nat.lt_or_ge i σ.length with h1 | h1
    · rw [List.getElem?_append_left h1] at h; exact .inl ⟨h1, h⟩
    · have hlt := isSome_lt h
      simp only [List.length_append, List.length_cons, List.length_nil] at hlt
      have : i = σ.length := by omega
      subst this
      simp at h
      exact .inr ⟨rfl, h.symm⟩
  refine ⟨(b0, z0), hext, ⟨by simp [hs], fun i b z hi => ?_, fun i j b z z' hi hj hr hl => ?_⟩, f.os, f.tape, f.output, f.size, fun b hb _ => hold b hb, Ext.append σ _, fun i b z hi hn => ?_, fun i hi hr => ?_⟩
  · rcases hget hi with ⟨h1, h2⟩ | ⟨rfl, h2⟩
    · rw [hgl h1]
      have k := (s.blk i b z h2).mono (Ext.append σ [(b0, z0)])
      cases hg : getB H i with
      | dead => trivial
      | cells r A =>
        have hlt := s.lt h2 (by rw [hg]; rfl)
        rw [hold b hlt, ← hg]; exact k
      | code o0 xs0 =>
        have hlt := s.lt h2 (by rw [hg]; rfl)
        rw [hold b hlt, ← hg]; exact k
    · cases h2
      rw [hgn]
      exact low_blk hext (by simp [hs]) hlow (s'.blk H.length b0 z0 hx)
  · rcases hget hi with ⟨h1, h2⟩ | ⟨rfl, h2⟩
    · rcases hget hj with ⟨h3, h4⟩ | ⟨rfl, h4⟩
      · rw [hgl h1] at hr
        rw [hgl h3] at hl
        exact s.inj i j b z z' h2 h4 hr hl
      · cases h4
        rw [hgl h1] at hr
        have := s.lt h2 (rw_live hr)
        omega
    · cases h2
      rcases hget hj with ⟨h3, h4⟩ | ⟨rfl, h4⟩
      · rw [hgl h3] at hl
        have := s.lt h4 hl
        omega
      · rfl
  · rcases hget hi with ⟨h1, h2⟩ | ⟨rfl, h2⟩
    · rw [h2] at hn; cases hn
    · cases h2; exact .inl hfresh
  · rwa [hgl hi] at hr
/-- The e-th's block is looked at by those of d alone, and they come behind it. -/
def box2OK (ops : Array Oper) (m e : Nat) (d : Nat → Bool) : Bool := (List.range m).all fun i => (!d i || (Nat.beq i e || aheadOf ops 10 i e)) && (match d i && !Nat.beq i e with
  | true => true
  | false => match ops[i]? with
    | some o => (looks ops o).all fun n => (List.range m).all fun k => !d k || !(gDst ops k == some n)
    | none => true)
end
end Go.Ax

/- Regions of open order in which one list is built among operations that leave memory alone. -/
namespace Go.Ax
open Go

section
variable {P : Program} {T : Table} {ops : Array Oper} {m e : Nat}
/-- The first operations: the e-th builds a list or is a call that makes a block, those of d look at it, the others leave memory alone. -/
def runYB (P : Program) (T : Table) (e : Nat) (d : Nat → Bool) : Nat → List Oper → List AV → List AB → AB → List Bool → (List AV → AB → List Bool → Res) → Res
  | _, [], t, _, B, nd, K => K t B nd
  | k, o :: rest, t, H, B, nd, K =>
    match o.guard with
    | some _ => .fail
    | none => match Nat.beq k e with
      | true => if o.op.operands.all okOpd then
          match o.op with
          | .call c => match aCall c (evA t) with
            | some (g, args) => match P.funcs[g]? with
              | some fn => match fn.body with
                | some _ => match fn.name == "runtime.NumGoroutine" with
                  | true => .fail
                  | false => T g args (roH H) nd fun v H' nd' => match (Nat.blt H.length H'.length && lowB (H.length + 1) (getB H' H.length)) && (below (H.length + 1) v && (getB H' H.length).live) with
                    | true => runYB P T e d (k + 1) rest (putT t o.dst v) H (getB H' H.length) nd' K
                    | false => .fail
                | none => .fail
              | none => .fail
            | none => .fail
          | .buildSlice ty len parts => match aBuildSlice P ty len (parts.toList.map fun x => (x.1, evA t x.2)) H with
            | some (v, H', n) => runYB P T e d (k + 1) rest (putT t o.dst v) H (getB H' H.length) (n ++ nd) K
            | none => .fail
          | _ => .fail
        else .fail
      | false => match d k with
        | false => stepQ P T o t H nd fun t nd => runYB P T e d (k + 1) rest t H B nd K
        | true => match Nat.blt e k with
          | true => stepQ P T o t (H ++ [B]) nd fun t nd => runYB P T e d (k + 1) rest t H B nd K
          | false => .fail
theorem build_new {t : TypeId} {len : Nat} {parts : List (Nat × AV)} {H H' : List AB} {v : AV} {nd : List Bool} (h : aBuildSlice P t len parts H = some (v, H', nd)) (hnd : allT nd = true) : H' = H ++ [getB H' H.length] ∧ (getB H' H.length).live = true := by
  unfold aBuildSlice at h
  split at h <;> try (cases h; done)
  split at h <;> try (cases h; done)
  split at h <;> try (cases h; done)
  obtain ⟨rfl, rfl, _⟩ := consN_some h hnd
  have e : ∀ (B : AB), getB (H ++ [B]) H.length = B := fun B => by rw [getB_append_right (Nat.le_refl _), Nat.sub_self]; rfl
  rw [e]
  exact ⟨rfl, rfl⟩
theorem ext_snoc {σ σ' : List (Nat × Nat)} (h : Ext σ σ') (hl : σ'.length = σ.length + 1) : ∃ x, σ' = σ ++ [x] := by
  refine ⟨σ'[σ.length]'(by omega), ?_⟩
  apply List.ext_getElem?
  intro i
  rcases Nat.lt_trichotomy i σ.length with hi | hi | hi
  · rw [List.getElem?_append_left hi]
    have := h i _ (List.getElem?_eq_getElem hi)
    rw [this, List.getElem?_eq_getElem hi]
  · subst hi
    rw [List.getElem?_append_right (Nat.le_refl _), Nat.sub_self, List.getElem?_eq_getElem (by omega)]
    rfl
  · rw [List.getElem?_eq_none (by omega), List.getElem?_eq_none (by simp; omega)]
theorem runYB_sound {H : List AB} {d : Nat → Bool} (hT : SoundT P T) (K : List AV → AB → List Bool → Res) {m : Nat} (hm : m ≤ ops.size) : ∀ (l : List Oper) (k : Nat) (t : List AV) (B0 : AB) (nd : List Bool), l = (ops.toList.take m).drop k → k ≤ m → (runYB P T e d k l t H B0 nd K).sel = .fail ∨
    ∃ t' B nd', (runYB P T e d k l t H B0 nd K).sel = (K t' B nd').sel ∧ (allT nd' = true → allT nd = true ∧ (e < k → B = B0) ∧ ∃ val : Nat → AV, t' = stAt ops val t k (m - k) ∧ (∀ i, k ≤ i → i < m → i ≠ e → d i = false → QVal P ops i (stAt ops val t k (i - k)) H (val i)) ∧
      (∀ i, k ≤ i → i < m → i ≠ e → d i = true → QVal P ops i (stAt ops val t k (i - k)) (H ++ [B]) (val i)) ∧ (k ≤ e → e < m → BVal2 P ops e (stAt ops val t k (e - k)) H (val e) B ∧ B.live = true))
  | [], k, t, B0, nd, hl, hk => by
    have : m ≤ k := by
      have := congrArg List.length hl
      simp at this; omega
    have : k = m := by omega
    subst this
    exact .inr ⟨t, B0, nd, rfl, fun h => ⟨h, fun _ => rfl, fun _ => .any, by rw [Nat.sub_self]; rfl, fun i h1 h2 => by omega, fun i h1 h2 => by omega, fun h1 h2 => by omega⟩⟩
  | o :: rest, k, t, B0, nd, hl, hk => by
    obtain ⟨ho, hrest⟩ := drop_cons hl
    have hks : k < m := by
      rcases Nat.lt_or_ge k m with h' | h'
      · exact h'
      · rw [List.getElem?_eq_none (by simp; omega)] at ho; cases ho
    have ho' : ops[k]? = some o := by
      rw [List.getElem?_take_of_lt hks] at ho; simpa using ho
    have hgd : gDst ops k = o.dst := by simp [gDst, ho']
    have hcongr : ∀ (val : Nat → AV) (v : AV) (k n k' : Nat) (t : List AV), k < k' → stAt ops (fun i => if i = k then v else val i) t k' n = stAt ops val t k' n := by
      intro val v k n
      induction n with
      | zero => intros; rfl
      | succ n ihn => intro k' t hk; simp only [stAt]; rw [if_neg (by omega)]; exact ihn _ _ (by omega)
    have fin : ∀ {t' : List AV} {v1 : AV} {B : AB} {val : Nat → AV}, (k ≠ e → d k = false → QVal P ops k t H v1) → (k ≠ e → d k = true → QVal P ops k t (H ++ [B]) v1) → (k = e → BVal2 P ops k t H v1 B ∧ B.live = true) → t' = stAt ops val (putT t o.dst v1) (k + 1) (m - (k + 1)) →
        (∀ i, k + 1 ≤ i → i < m → i ≠ e → d i = false → QVal P ops i (stAt ops val (putT t o.dst v1) (k + 1) (i - (k + 1))) H (val i)) → (∀ i, k + 1 ≤ i → i < m → i ≠ e → d i = true → QVal P ops i (stAt ops val (putT t o.dst v1) (k + 1) (i - (k + 1))) (H ++ [B]) (val i)) →
        (k + 1 ≤ e → e < m → BVal2 P ops e (stAt ops val (putT t o.dst v1) (k + 1) (e - (k + 1))) H (val e) B ∧ B.live = true) →
        ∃ val : Nat → AV, t' = stAt ops val t k (m - k) ∧ (∀ i, k ≤ i → i < m → i ≠ e → d i = false → QVal P ops i (stAt ops val t k (i - k)) H (val i)) ∧ (∀ i, k ≤ i → i < m → i ≠ e → d i = true → QVal P ops i (stAt ops val t k (i - k)) (H ++ [B]) (val i)) ∧ (k ≤ e → e < m → BVal2 P ops e (stAt ops val t k (e - k)) H (val e) B ∧ B.live = true) := fun {t' v1 B val} h1 h2 h3 h4 h5 h6 h7 => by
      have hst : ∀ i, k < i → stAt ops (fun i => if i = k then v1 else val i) t k (i - k) = stAt ops val (putT t o.dst v1) (k + 1) (i - (k + 1)) := fun i hi => by
        rw [show i - k = (i - (k + 1)) + 1 by omega]
        simp only [stAt, if_true, hgd]
        exact hcongr _ _ _ _ _ _ (by omega)
      refine ⟨fun i => if i = k then v1 else val i, by rw [hst m hks]; exact h4, fun i a b hne hd => ?_, fun i a b hne hd => ?_, fun a b => ?_⟩
      · by_cases hik : i = k
        · subst hik
          simp only [Nat.sub_self, if_true]
          exact h1 hne hd
        · rw [hst i (by omega)]
          simp only [hik, if_false]
          exact h5 i (by omega) b hne hd
      · by_cases hik : i = k
        · subst hik
          simp only [Nat.sub_self, if_true]
          exact h2 hne hd
        · rw [hst i (by omega)]
          simp only [hik, if_false]
          exact h6 i (by omega) b hne hd
      · by_cases hek : e = k
        · subst hek
          simp only [Nat.sub_self, if_true]
          exact h3 rfl
        · rw [hst e (by omega)]
          simp only [hek, if_false]
          exact h7 (by omega) b
    unfold runYB
    cases hg : o.guard with
    | some g => exact .inl rfl
    | none =>
      dsimp only
      have hw : ∀ (Q : Exit → Act → World → Prop) (next : Act → World → Prop) (a : Act) (w : World), (o.wp P a w next Q → wpOp P ops Q k next a w) := fun Q next a w h => by
        simp only [wpOp, ho']
        rw [if_pos (by simp [Region.wanted, hg])]
        exact .inl h
      cases hbe : Nat.beq k e with
      | true =>
        have hke : k = e := Nat.eq_of_beq_eq_true hbe
        dsimp only
        split
        case isFalse => exact .inl rfl
        rename_i hok
        cases hop : o.op
        case call c =>
          dsimp only
          cases hcall : aCall c (evA t) with
          | none => exact .inl rfl
          | some x =>
            obtain ⟨g, args⟩ := x
            dsimp only
            cases hfn : P.funcs[g]? with
            | none => exact .inl rfl
            | some fn =>
              dsimp only
              cases hb : fn.body with
              | none => exact .inl rfl
              | some body =>
                dsimp only
                cases hname : (fn.name == "runtime.NumGoroutine") with
                | true => exact .inl rfl
                | false =>
                  dsimp only
                  rcases hT g args (roH H) nd (fun v H' nd' => match (Nat.blt H.length H'.length && lowB (H.length + 1) (getB H' H.length)) && (below (H.length + 1) v && (getB H' H.length).live) with
                    | true => runYB P T e d (k + 1) rest (putT t o.dst v) H (getB H' H.length) nd' K
                    | false => .fail) with h | ⟨v, H1, nd1, h1, h2⟩
                  · exact .inl h
                  rw [h1]
                  cases hc3 : (Nat.blt H.length H1.length && lowB (H.length + 1) (getB H1 H.length)) && (below (H.length + 1) v && (getB H1 H.length).live) with
                  | false => exact .inl rfl
                  | true =>
                    simp only [Bool.and_eq_true] at hc3
                    obtain ⟨⟨hlt, hlow⟩, hbl, hlv⟩ := hc3
                    dsimp only
                    rcases runYB_sound hT K hm rest (k + 1) (putT t o.dst v) (getB H1 H.length) nd1 hrest hks with h4 | ⟨t', B, nd', h4, h5⟩
                    · exact .inl h4
                    refine .inr ⟨t', B, nd', h4, fun hn => ?_⟩
                    obtain ⟨h6, hB, val, g1, g2, g3, g4⟩ := h5 hn
                    obtain ⟨h8, h9⟩ := h2 h6
                    have hB := hB (by omega)
                    subst hB
                    refine ⟨h8, fun h => by omega, fin (fun h => absurd hke h) (fun h => absurd hke h) (fun _ => ⟨⟨o, ho', fun σ w a Q next s r _ q => hw Q next a w ?_⟩, hlv⟩) g1 g2 g3 g4⟩
                    have hopd := opds_looks hok fun n hn => r n hn
                    obtain ⟨rargs, hra, hrun⟩ := call_run (w := w) (P := P) hop hcall hopd
                    show o.upon P a next Q ((execOp a.eval o).run P w)
                    rw [hrun, callFunc_enter hfn hb hname]
                    refine (h9 σ w rargs s.ro hra).mono ?_
                    rintro e w' ⟨rv, rfl, σ', e2, e3, e4⟩
                    obtain ⟨x, x1, x2, x3⟩ := s.made e3 e4 (blt_true hlt) hlow
                    exact q _ _ x (below_rel x1 (by simp [s.len]) hbl e2) x2 x3
        case buildSlice ty len parts =>
          dsimp only
          cases hbs : aBuildSlice P ty len (parts.toList.map fun x => (x.1, evA t x.2)) H with
          | none => exact .inl rfl
          | some x =>
            obtain ⟨v, H1, n1⟩ := x
            dsimp only
            rcases runYB_sound hT K hm rest (k + 1) (putT t o.dst v) (getB H1 H.length) (n1 ++ nd) hrest hks with h4 | ⟨t', B, nd', h4, h5⟩
            · exact .inl h4
            refine .inr ⟨t', B, nd', h4, fun hn => ?_⟩
            obtain ⟨h6, hB, val, g1, g2, g3, g4⟩ := h5 hn
            rw [allT_append, Bool.and_eq_true] at h6
            have hB := hB (by omega)
            subst hB
            obtain ⟨hH1, hlv⟩ := build_new hbs h6.1
            refine ⟨h6.2, fun h => by omega, fin (fun h => absurd hke h) (fun h => absurd hke h) (fun _ => ⟨⟨o, ho', fun σ w a Q next s r _ q => hw Q next a w ?_⟩, hlv⟩) g1 g2 g3 g4⟩
            have hopd := opds_looks hok fun n hn => r n hn
            have hp : (parts.toList.map fun x => (x.1, evA t x.2)).length = (parts.map fun (x : Nat × Operand) => (x.1, a.eval x.2)).toList.length ∧ ∀ (j : Nat) (p : Nat × AV) (q : Nat × Value),
                (parts.toList.map fun x => (x.1, evA t x.2))[j]? = some p → (parts.map fun (x : Nat × Operand) => (x.1, a.eval x.2)).toList[j]? = some q → p.1 = q.1 ∧ Rel σ p.2 q.2 := by
              refine ⟨by simp, fun j p q hp hq => ?_⟩
              simp only [List.getElem?_map, Array.getElem?_toList, Option.map_eq_some_iff] at hp
              obtain ⟨p0, hp0, rfl⟩ := hp
              simp only [Array.getElem?_toList, Array.getElem?_map, hp0, Option.map_some, Option.some.injEq] at hq
              subst hq
              refine ⟨rfl, hopd p0.2 ?_⟩
              simp [hop, Op.operands]
              exact ⟨p0.1, by have := Array.mem_of_getElem? hp0; simpa using this⟩
            obtain ⟨rv, w', h1, σ', e2, e3, e4⟩ := buildSlice_out hbs h6.1 s hp
            have hrun : (execOp a.eval o).run P w = .ok (.value rv) w' := by simp [execOp, hop, h1]
            have hl : σ'.length = σ.length + 1 := by rw [e3.len, hH1, s.len]; simp
            obtain ⟨x, hx⟩ := ext_snoc e4.ext hl
            subst hx
            rw [hH1] at e3 e4
            show o.upon P a next Q ((execOp a.eval o).run P w)
            rw [hrun]
            exact q _ _ x e2 e3 e4
        all_goals exact .inl rfl
      | false =>
        have hke : k ≠ e := fun h => by rw [h, Nat.beq_refl] at hbe; cases hbe
        dsimp only
        cases hdk : d k with
        | false =>
          dsimp only
          rcases stepQ_sound (H := H) hT o t nd (fun t nd => runYB P T e d (k + 1) rest t H B0 nd K) with h2 | ⟨v1, nd2, h2, h3⟩
          · exact .inl h2
          rw [h2]
          rcases runYB_sound hT K hm rest (k + 1) (putT t o.dst v1) B0 nd2 hrest hks with h4 | ⟨t', B, nd', h4, h5⟩
          · exact .inl h4
          refine .inr ⟨t', B, nd', h4, fun hn => ?_⟩
          obtain ⟨h6, hB, val, g1, g2, g3, g4⟩ := h5 hn
          obtain ⟨h8, hok, h9⟩ := h3 h6
          exact ⟨h8, fun h => hB (by omega), fin (fun _ _ => ⟨o, ho', fun σ w a Q next s r _ q => hw Q next a w (h9 σ w a Q next s (opds_looks hok fun n hn => r n hn) q)⟩) (fun _ h => by rw [hdk] at h; cases h) (fun h => absurd h hke) g1 g2 g3 g4⟩
        | true =>
          dsimp only
          cases hlt : Nat.blt e k with
          | false => exact .inl rfl
          | true =>
            dsimp only
            rcases stepQ_sound (H := H ++ [B0]) hT o t nd (fun t nd => runYB P T e d (k + 1) rest t H B0 nd K) with h2 | ⟨v1, nd2, h2, h3⟩
            · exact .inl h2
            rw [h2]
            rcases runYB_sound hT K hm rest (k + 1) (putT t o.dst v1) B0 nd2 hrest hks with h4 | ⟨t', B, nd', h4, h5⟩
            · exact .inl h4
            refine .inr ⟨t', B, nd', h4, fun hn => ?_⟩
            obtain ⟨h6, hB, val, g1, g2, g3, g4⟩ := h5 hn
            obtain ⟨h8, hok, h9⟩ := h3 h6
            have hek := blt_true hlt
            have hB' := hB (by omega)
            subst hB'
            exact ⟨h8, fun _ => rfl, fin (fun _ h => by rw [hdk] at h; cases h) (fun _ _ => ⟨o, ho', fun σ w a Q next s r _ q => hw Q next a w (h9 σ w a Q next s (opds_looks hok fun n hn => r n hn) q)⟩) (fun h => absurd h hke) g1 g2 g3 g4⟩
theorem box3_reach (hT : SoundT P T) (hf : P.follows .mixedOrders = true) (m e : Nat) (d : Nat → Bool) (hm : m ≤ ops.size) (hem : e < m) (hde : d e = true) (hok : drawOK ops m = true) (hbx : box2OK ops m e d = true) {id : Nat} {k : List Item} {t t' : List AV} {H H' : List AB} {nd : List Bool}
    (hlow : lowH H.length H = true)
    (h : (runYB P T e d 0 (ops.toList.take m) t H .dead [] fun t B nd => runOps P T ops (ops.toList.drop m) t (H ++ [B]) nd fun t H nd => .stop [] t H nd).sel = .stop [] t' H' nd) (hn : allT nd = true) : Reach P (.code (.region id ops true) :: k) t H k t' H' := by
  rcases runYB_sound (H := H) (ops := ops) (e := e) (d := d) hT (fun t B nd => runOps P T ops (ops.toList.drop m) t (H ++ [B]) nd fun t H nd => .stop [] t H nd) hm (ops.toList.take m) 0 t .dead [] (by simp) (Nat.zero_le _) with h1 | ⟨t1, B, nd1, h1, h2⟩
  · rw [h] at h1; cases h1
  rw [h1] at h
  rcases runOps_sound (ops := ops) hT (fun t H nd => .stop [] t H nd) (ops.toList.drop m) m t1 (H ++ [B]) nd1 rfl hm with h3 | ⟨t2, H2, nd2, h3, h4⟩
  · rw [h] at h3; cases h3
  rw [h] at h3
  cases h3
  obtain ⟨h5, ch⟩ := h4 hn
  obtain ⟨_, _, val, e2, e3, e4, e5⟩ := h2 h5
  rw [Nat.sub_zero] at e2
  rw [e2] at ch
  obtain ⟨hb, hlv⟩ := e5 (Nat.zero_le _) hem
  rw [Nat.sub_zero] at hb
  have hall := fun i (hi : i < m) => List.all_eq_true.1 hbx i (List.mem_range.2 hi)
  simp only [Bool.and_eq_true, Bool.or_eq_true, Bool.not_eq_true'] at hall
  refine region_reach fun σ w a Q s r q => wp_region_any hf ?_
  have hnl : ∀ i, ¬ Ls (Array.replicate ops.size false) i := fun i => by
    unfold Ls
    rw [Array.getD_eq_getD_getElem?]
    by_cases hi : i < ops.size
    · simp [hi]
    · simp [hi]
  have hsm : Same w { w with drawn := w.drawn + 1 } := Same.drew w
  refine any_box2 (val := val) (B := B) (d := d) hok hm hem hde (fun i hi hdi => ?_) hb (fun i hi hdi hne => ⟨?_, ?_⟩) (fun i hi hcs o ho n hn' k hk hdk => ?_) hlow hlv ch ops.size _ a _ σ H (by simp) (fun i o _ hl => absurd hl (hnl i)) ?_ (fun i _ => hnl i) (.inl ⟨rfl, rfl, hnl e⟩)
    (hsm.sim s) ?_ (fun x => ⟨fun i _ hl => absurd hl (hnl i), fun _ => r.getD x⟩) fun a' w' σ' r' d' s' f' => q a' w' σ' r' d' s' (hsm.fr.trans f')
  · have hne : i ≠ e := fun h => by rw [h, hde] at hdi; cases hdi
    have := e3 i (Nat.zero_le _) hi hne hdi
    rwa [Nat.sub_zero] at this
  · have := e4 i (Nat.zero_le _) hi hne hdi
    rwa [Nat.sub_zero] at this
  · rcases (hall i hi).1 with h | h | h
    · rw [hdi] at h; cases h
    · exact absurd (Nat.eq_of_beq_eq_true h) hne
    · exact h
  · have h0 := (hall i hi).2
    have hc : (d i && !Nat.beq i e) = false := by
      rcases hcs with h | h
      · rw [h]; rfl
      · rw [h, Nat.beq_refl]; simp
    rw [hc, ho] at h0
    have h1 := List.all_eq_true.1 (List.all_eq_true.1 h0 n hn') k (List.mem_range.2 hk)
    intro hg
    rw [hdk, hg] at h1
    simp at h1
  · have := List.length_filter_le (fun i => !(Array.replicate ops.size false).getD i false) (List.range ops.size)
    simp only [List.length_range] at this
    exact this
  · have := r.length; simpa using this.symm
end
end Go.Ax

/- spec.UnwrapRows: the loop. -/
namespace Go.Ax
open Go Go.Proofs

theorem box3_way {P : Program} {T : Table} {ops : Array Oper} (hT : SoundT P T) (hf : P.follows .mixedOrders = true) (m e : Nat) (d : Nat → Bool) (hm : m ≤ ops.size) (hem : e < m) (hde : d e = true) (hok : drawOK ops m = true) (hbx : box2OK ops m e d = true) {id : Nat} {k : List Item} {t t' : List AV} {H H' : List AB} {M nd : List Bool}
    (hlow : lowH H.length H = true)
    (h : lfM M (runYB P T e d 0 (ops.toList.take m) t H .dead [] fun t B nd => runOps P T ops (ops.toList.drop m) t (H ++ [B]) nd fun t H nd => .stop [] t H nd) = (true, [], t'.map AV.bare, H', nd)) (hn : allT nd = true) : Reach P (.code (.region id ops true) :: k) t H k t' H' := by
  simp only [lfM, Prod.mk.injEq] at h
  obtain ⟨a1, a2, a3, a4, a5⟩ := h
  have hs := Res.isStop_eq a1
  have hr := box3_reach (k := k) (id := id) hT hf m e d hm hem hde hok hbx (t := t) (H := H) hlow (t' := _) (H' := _) (nd := _) (by conv => { lhs; rw [hs] }; rw [a2]; rfl) (by rw [a5]; exact hn)
  rw [a4] at hr
  exact (hr.weak (blur_eqv M _)).weak (eqv_of_bare a3)
noncomputable def vrC : Code := Try.f81.body.getD .skip
noncomputable def vr0 (n : Int) (xs : List Int) : Res := cupto Try.prog tabUn atLoop 100 [.code vrC] (.i false .i64 n :: .sl false 0 0 xs.length 1 :: undefs 76) (lb xs)
noncomputable def vrL : List Item := ((vr0 0 []).at [false]).todo
noncomputable def vrR : List Item := toLp vrL
theorem vrR_eq : toLp vrR = vrR := by kernel_rfl
def vrTs (n : Int) (m : Nat) (s : AV) (k : Int) : List AV := tmpsOf 78 [(0, .i false .i64 n), (1, .sl false 0 0 m 1), (7, s), (8, .i false .i64 k)]
def vrT (n : Int) (m : Nat) (k : Nat) : List AV := vrTs n m (.sl false 1 0 k 1) (Int.ofNat k)
def vrM : List Bool := maskOf 78 [(0, .any), (1, .any), (7, .any), (8, .any)]
def vrStop (L : List Item) : Bool := atLoop L || (atReg 12 L || atReg 8 L)
noncomputable def vrU (n : Int) (xs ys : List Int) (k : Nat) : Res := cupto Try.prog tabUn vrStop 100 vrR (vrT n xs.length k) (lz xs ys)
theorem vr0_ok (n : Int) (xs : List Int) : (condsP (vr0 n xs) [false], lfM vrM ((vr0 n xs).at [false])) = ([!!eqQ false (wcZ n xs) 0], (true, vrL, (vrT n xs.length 0).map AV.bare, lz xs [], szQ xs)) := by kernel_rfl
theorem vr0_bad (n : Int) (xs : List Int) : (condsP (vr0 n xs) [true], endOf Try.prog Try.f81.results.toList ((vr0 n xs).at [true])) = ([!eqQ false (wcZ n xs) 0], some (some ([.slnil, .i false .i64 (wcZ n xs)], []), lb xs, szQ xs)) := by kernel_rfl
def apQ (k : Nat) (ys : List Int) : Bool := decide (0 = 0) && decide (1 = 1) && decide (k * 1 = (Cells.ints IntKind.i64 ys).len) && decide ((2 * (k + 1) + 1024) * 8 ≤ 2 ^ 48)
def vrN (xs ys : List Int) (k : Nat) (v : Int) : List AB := [.cells false (.ints .i64 xs), .dead, .cells true (.lit [.i false .i64 v]), .cells true (.ints .i64 (List.take (k * 1) (List.drop 0 ys) ++ [v]))]
def vrZ (n : Int) (m k : Nat) : List AV := vrTs n m (.sl false 3 0 (k + 1) 1) (wrapQ false .i64 (Int.ofNat k + 1))
theorem vr_first (n : Int) (xs ys : List Int) (k : Nat) : (condsP (vrU n xs ys k) [true, true], lfM vrM ((vrU n xs ys k).at [true, true])) =
    ([ltQ false (Int.ofNat k) (wrapQ false .i64 (n * n)), eqQ false (Int.ofNat k) 0], (true, vrR, (vrZ n xs.length k).map AV.bare, vrN xs ys k (xs.getD (0 + Int.toNat 0 * 1) 0), [apQ k ys, decide (0 + Int.toNat 0 * 1 < (Cells.ints IntKind.i64 xs).len), decide ((0 : Int) ≤ 0) && decide ((0 : Int) < ↑xs.length)])) := by kernel_rfl
theorem vr_end (n : Int) (xs ys : List Int) (k : Nat) : (condsP (vrU n xs ys k) [false], endOf Try.prog Try.f81.results.toList ((vrU n xs ys k).at [false])) = ([!ltQ false (Int.ofNat k) (wrapQ false .i64 (n * n))], some (some ([.sl false 1 0 k 1, .i true .i64 0], []), lz xs ys, [])) := by kernel_rfl
noncomputable def vrG (b : Bool) : List Item := ((vrU 0 [] [] 0).at [true, false, b]).todo
theorem vrG_eq (b : Bool) : vrG b = .code (.region (cond b 12 8) (opsOf (vrG b)) true) :: tlOf (vrG b) := by cases b <;> kernel_rfl
theorem vr_mid (n : Int) (xs ys : List Int) (k : Nat) (b : Bool) : (condsP (vrU n xs ys k) [true, false, b], lfM vrM ((vrU n xs ys k).at [true, false, b])) =
    ([ltQ false (Int.ofNat k) (wrapQ false .i64 (n * n)), !eqQ false (Int.ofNat k) 0, cond b (eqQ false ((Int.ofNat k).tmod n) 0) (!eqQ false ((Int.ofNat k).tmod n) 0)], (true, vrG b, (vrT n xs.length k).map AV.bare, lz xs ys, [!decide (n = 0)])) := by
  cases b <;> kernel_rfl
def vrE (b : Bool) : Nat := cond b 19 17
noncomputable def vrY (b : Bool) (n : Int) (xs ys : List Int) (k : Nat) : Res := runYB Try.prog tabUn (vrE b) (Nat.beq (vrE b)) 0 ((opsOf (vrG b)).toList.take (vrE b + 1)) (vrT n xs.length k) (lz xs ys) .dead [] fun t B nd => runOps Try.prog tabUn (opsOf (vrG b)) ((opsOf (vrG b)).toList.drop (vrE b + 1)) t (lz xs ys ++ [B]) nd fun t H nd => .stop [] t H nd
theorem vr_reg (b : Bool) : (Nat.ble (vrE b + 1) (opsOf (vrG b)).size && (drawOK (opsOf (vrG b)) (vrE b + 1) && box2OK (opsOf (vrG b)) (vrE b + 1) (vrE b) (Nat.beq (vrE b)))) = true := by cases b <;> kernel_rfl
def vrQ (xs ys : List Int) (k : Nat) (fr : Int) : List Bool :=
  [apQ k ys, decide (0 + (Int.ofNat k).toNat * 1 < (Cells.ints .i64 xs).len), decide (0 ≤ Int.ofNat k) && decide (Int.ofNat k < (xs.length : Int)), decide (0 + fr.toNat * 1 < (Cells.ints .i64 xs).len), decide (0 ≤ fr) && decide (fr < (xs.length : Int)), decide (0 + fr.toNat * 1 < (Cells.ints .i64 ys).len), decide (0 ≤ fr) && decide (fr < (k : Int))]
def vrA (n : Int) (m k : Nat) : List AV := vrTs n m (.sl false 3 0 (k + 1) 1) (Int.ofNat k)
theorem vr_out (b : Bool) (n : Int) (xs ys : List Int) (k : Nat) : lfM vrM (vrY b n xs ys k) = (true, [], (vrA n xs.length k).map AV.bare, vrN xs ys k (urV xs ys (Int.ofNat k) (urFrom b n k)), vrQ xs ys k (urFrom b n k)) := by cases b <;> kernel_rfl
theorem vr_tail (b : Bool) (n : Int) (m k : Nat) (H : List AB) : lfM vrM (cupto Try.prog tabUn atLoop 100 (tlOf (vrG b)) (vrA n m k) H) = (true, vrR, (vrZ n m k).map AV.bare, H, []) := by cases b <;> kernel_rfl
theorem vr_drop (n : Int) (xs ys : List Int) (k : Nat) (v : Int) : dropsT 1 [2, 1] (vrZ n xs.length k) (vrN xs ys k v) = (true, vrTs n xs.length (.sl false 1 0 (k + 1) 1) (wrapQ false .i64 (Int.ofNat k + 1)), lz xs (List.take (k * 1) (List.drop 0 ys) ++ [v])) := by kernel_rfl
/-- The rows unwrapped up to a place, as a list of what is known so far. -/
def yS (m : Nat) (xs : List Int) (k : Nat) : List Int := (rwP m xs (k - 1)).take k
theorem yS_length {m : Nat} {xs : List Int} {k : Nat} (h : k ≤ xs.length) : (yS m xs k).length = k := by
  unfold yS
  rw [List.length_take, rwP_length]
  omega
theorem yS_zero (m : Nat) (xs : List Int) : yS m xs 0 = [] := by simp [yS]
theorem yS_one {m : Nat} {xs : List Int} (h : 0 < xs.length) : yS m xs 1 = [xs.getD 0 0] := by
  unfold yS
  cases xs with
  | nil => simp at h
  | cons x xs => simp [rwP]
theorem yS_next {m : Nat} (hm : 0 < m) {xs : List Int} {j : Nat} (h : j + 1 < xs.length) : yS m xs (j + 1 + 1) = yS m xs (j + 1) ++ [rwStep m xs (yS m xs (j + 1)) (j + 1)] := by
  have hf : upN m (j + 1) < j + 1 := upN_lt hm (Nat.succ_pos j)
  have e1 : rwStep m xs (yS m xs (j + 1)) (j + 1) = rwStep m xs (rwP m xs j) (j + 1) := by
    unfold rwStep yS
    simp only [Nat.add_sub_cancel]
    have : ((rwP m xs j).take (j + 1)).getD (upN m (j + 1)) 0 = (rwP m xs j).getD (upN m (j + 1)) 0 := by
      simp only [List.getD_eq_getElem?_getD]
      rw [List.getElem?_take_of_lt hf]
    rw [this]
  rw [e1]
  unfold yS
  simp only [Nat.add_sub_cancel]
  have e2 : rwP m xs (j + 1) = (rwP m xs j).set (j + 1) (rwStep m xs (rwP m xs j) (j + 1)) := rfl
  rw [e2]
  have hl := rwP_length m xs j
  rw [List.take_succ_eq_append_getElem (by simp; omega)]
  congr 1
  · rw [List.take_set_of_le (Nat.le_refl _)]
  · simp
theorem vr_go {m : Nat} (hm : m = 1 ∨ m = 2 ∨ m = 4 ∨ m = 8) {xs : List Int} (hx : xs.length = m * m) {L0 : List Item} (hL0 : toLp L0 = vrR) {t0 : List AV} (hr : Reach Try.prog [.code vrC] t0 (lb xs) L0 (vrT m xs.length 0) (lz xs [])) :
    ∀ k, k ≤ m * m → ∃ L, toLp L = vrR ∧ Reach Try.prog [.code vrC] t0 (lb xs) L (vrT m xs.length k) (lz xs (yS m xs k))
  | 0, _ => ⟨L0, hL0, by rw [yS_zero]; exact hr⟩
  | k + 1, hk => by
    obtain ⟨L, hL, r⟩ := vr_go hm hx hL0 hr k (by omega)
    have hN : m * m ≤ 64 := by rcases hm with rfl | rfl | rfl | rfl <;> decide
    have hm0 : 0 < m := by omega
    have hU : cupto Try.prog tabUn vrStop 100 L (vrT m xs.length k) (lz xs (yS m xs k)) = vrU m xs (yS m xs k) k := by
      unfold vrU
      rw [← hL, cupto_toLp]
    have hmm : wrapQ false .i64 ((m : Int) * m) = ((m * m : Nat) : Int) := by rcases hm with rfl | rfl | rfl | rfl <;> rfl
    have hlt : ltQ false (Int.ofNat k) (wrapQ false .i64 ((m : Int) * m)) = true := by rw [hmm]; exact ltQ_true (by omega)
    have hyl : (yS m xs k).length = k := yS_length (by omega)
    have hap : apQ k (yS m xs k) = true := by
      have h2 : (2 * (k + 1) + 1024) * 8 ≤ 2 ^ 48 := Nat.le_trans (by omega : (2 * (k + 1) + 1024) * 8 ≤ 20000) (by decide)
      simp only [apQ, Cells.len, hyl, Nat.mul_one, Bool.and_eq_true, decide_eq_true_eq]
      exact ⟨⟨⟨trivial, trivial⟩, trivial⟩, h2⟩
    have fin : ∀ v, Reach Try.prog [.code vrC] t0 (lb xs) vrR (vrZ m xs.length k) (vrN xs (yS m xs k) k v) → yS m xs (k + 1) = yS m xs k ++ [v] → ∃ L, toLp L = vrR ∧ Reach Try.prog [.code vrC] t0 (lb xs) L (vrT m xs.length (k + 1)) (lz xs (yS m xs (k + 1))) := fun v r1 hv => by
      have r2 := r1.drops (ks := [2, 1]) (vr_drop (m : Int) xs (yS m xs k) k v)
      refine ⟨vrR, vrR_eq, ?_⟩
      have e1 : wrapQ false .i64 (Int.ofNat k + 1) = Int.ofNat (k + 1) := ofNat_next (by omega)
      have e2 : List.take (k * 1) (List.drop 0 (yS m xs k)) = yS m xs k := by
        rw [List.drop_zero, Nat.mul_one]
        exact List.take_of_length_le (by omega)
      rw [e1, e2, ← hv] at r2
      exact r2
    cases k with
    | zero =>
      have h1 := vr_first (m : Int) xs (yS m xs 0) 0
      simp only [Prod.mk.injEq] at h1
      rw [← hU] at h1
      refine fin _ (r.trans (cway_reach (P := Try.prog) (T := tabUn) (stop := vrStop) (n := 100) (L := L) (p := [true, true]) (M := vrM) tabUn_sound (by rw [h1.1, hlt]; rfl) h1.2 (by
        rw [allT, hap]
        simp [allT, Cells.len]
        omega))) ?_
      rw [yS_zero, yS_one (by omega)]
      rfl
    | succ j =>
      have h1 := vr_mid (m : Int) xs (yS m xs (j + 1)) (j + 1) (decide ((j + 1) % m = 0))
      simp only [Prod.mk.injEq] at h1
      rw [← hU] at h1
      have hfr := urFrom_eq hm0 (Nat.succ_pos j) (by omega : j + 1 ≤ 64)
      have hfl : upN m (j + 1) < j + 1 := upN_lt hm0 (Nat.succ_pos j)
      have r1 := r.trans (cway_reach (P := Try.prog) (T := tabUn) (stop := vrStop) (n := 100) (L := L) (p := [true, false, decide ((j + 1) % m = 0)]) (M := vrM) tabUn_sound (by
        rw [h1.1, hlt, eqQ_mod]
        have : eqQ false (Int.ofNat (j + 1)) 0 = false := by rw [eqQ_eq]; simp; omega
        rw [this]
        cases decide ((j + 1) % m = 0) <;> rfl) h1.2 (by
        simp [allT]; omega))
      have hreg := vr_reg (decide ((j + 1) % m = 0))
      rw [Bool.and_eq_true, Bool.and_eq_true] at hreg
      have hout := vr_out (decide ((j + 1) % m = 0)) (m : Int) xs (yS m xs (j + 1)) (j + 1)
      rw [hfr] at hout
      have htail := vr_tail (decide ((j + 1) % m = 0)) (m : Int) xs.length (j + 1)
      have hG := vrG_eq (decide ((j + 1) % m = 0))
      generalize decide ((j + 1) % m = 0) = b at r1 hreg hout htail hG
      rw [hG] at r1
      have r2 := r1.trans (box3_way (P := Try.prog) (T := tabUn) (ops := opsOf (vrG b)) tabUn_sound (by kernel_rfl) (vrE b + 1) (vrE b) (Nat.beq (vrE b)) (Nat.le_of_ble_eq_true hreg.1) (Nat.lt_succ_self _) (Nat.beq_refl _) hreg.2.1 hreg.2.2 (id := cond b 12 8) (k := tlOf (vrG b)) (t := vrT m xs.length (j + 1)) (H := lz xs (yS m xs (j + 1))) (M := vrM) (by rfl) hout (by
        simp only [vrQ, allT, hap, Cells.len, hyl, Nat.mul_one, Nat.zero_add, Int.ofNat_eq_natCast, Int.toNat_natCast, Bool.true_and, Bool.and_true, Bool.and_eq_true, decide_eq_true_eq, hx]
        generalize m * m = N at hk hN ⊢
        generalize upN m (j + 1) = fr at hfl
        refine ⟨by omega, ⟨by omega, by omega⟩, by omega, ⟨by omega, by omega⟩, by omega, by omega, by omega⟩))
      have r3 := r2.trans (cway_reach (P := Try.prog) (T := tabUn) (stop := atLoop) (n := 100) (L := tlOf (vrG b)) (p := []) (M := vrM) (t' := vrZ m xs.length (j + 1)) (H' := vrN xs (yS m xs (j + 1)) (j + 1) (urV xs (yS m xs (j + 1)) (Int.ofNat (j + 1)) (Int.ofNat (upN m (j + 1))))) (todo' := vrR) (nd := []) tabUn_sound (by
        have : ∀ r : Res, condsP r [] = [] := fun r => by cases r <;> rfl
        rw [this]; rfl) (by
        have : ∀ r : Res, r.at [] = r := fun r => by cases r <;> rfl
        rw [this]
        exact htail _) rfl)
      refine fin _ r3 ?_
      rw [yS_next hm0 (by omega)]
      unfold urV
      rw [gi_nat, gi_nat, gi_nat]
      rfl
end Go.Ax

/- UnwrapRows, of both sides: rows. -/
namespace Go.Ax
open Go Go.Proofs

theorem vr_ok {n : Int} {xs : List Int} (h : wcZ n xs = 0) : CallOK Try.prog 81 [.i false .i64 n, .sl false 0 0 xs.length 1] (lb xs) (.tup [.sl false 1 0 (rwL n xs).length 1, .i false .i64 0]) (lz xs (rwL n xs)) := by
  obtain ⟨m, rfl, hm, hx, ha⟩ := wcZ_zero h
  have hN : m * m ≤ 64 := by rcases hm with rfl | rfl | rfl | rfl <;> decide
  have hm0 : 0 < m := by omega
  have hN1 : 1 ≤ m * m := Nat.mul_pos hm0 hm0
  have h0 := vr0_ok (m : Int) xs
  simp only [Prod.mk.injEq] at h0
  have r0 := cway_reach (P := Try.prog) (T := tabUn) (stop := atLoop) (n := 100) (L := [.code vrC]) (p := [false]) (M := vrM) (t0 := .i false .i64 m :: .sl false 0 0 xs.length 1 :: undefs 76) (H0 := lb xs) tabUn_sound (by
    show allT (condsP (vr0 m xs) [false]) = true
    rw [h0.1, h]; rfl) h0.2 (szQ_ok (by omega))
  obtain ⟨L, hL, r⟩ := vr_go hm hx (L0 := vrL) rfl r0 (m * m) (Nat.le_refl _)
  have hz : yS m xs (m * m) = rwL (m : Int) xs := by
    unfold yS rwL
    rw [List.take_of_length_le (by rw [rwP_length, hx]; exact Nat.le_refl _)]
    simp
  rw [hz] at r
  have hlen : (rwL (m : Int) xs).length = m * m := by
    rw [← hz]
    exact yS_length (by omega)
  have hlast := vr_end (m : Int) xs (rwL m xs) (m * m)
  simp only [Prod.mk.injEq] at hlast
  have hU : cupto Try.prog tabUn vrStop 100 L (vrT m xs.length (m * m)) (lz xs (rwL m xs)) = vrU m xs (rwL m xs) (m * m) := by
    unfold vrU
    rw [← hL, cupto_toLp]
  have hmm : wrapQ false .i64 ((m : Int) * m) = ((m * m : Nat) : Int) := by rcases hm with rfl | rfl | rfl | rfl <;> rfl
  obtain ⟨t, g1, g2⟩ := endOf_ends (T := tabUn) (stop := vrStop) (n := 100) (todo := L) (t0 := vrT m xs.length (m * m)) (H0 := lz xs (rwL m xs)) tabUn_sound hlast.2 (by
    rw [hU]
    exact sel_of_conds _ [false] (by rw [hlast.1, hmm, ltQ_same]; rfl)) rfl
  have k := call_of_ends (args := [.i false .i64 m, .sl false 0 0 xs.length 1]) (m := []) Try.func81 (rfl : Try.f81.body = some vrC) (r.ends g1) g2 rfl
  rw [hlen]
  exact k.weaken fun σ x r => tupW (l := [.sl false 1 0 (m * m) 1, .i true .i64 0]) (by rfl) r
theorem bad_of {f : FuncId} {fn : Func} {C : Code} {n : Int} {xs : List Int} {r : Res} {q : List Bool} {z : Int} {b : Bool} (hf : Try.prog.funcs[f]? = some fn) (hb : fn.body = some C) (hr : cupto Try.prog tabUn atLoop 100 [.code C] (.i false .i64 n :: .sl false 0 0 xs.length 1 :: undefs (fn.ntmps - 2)) (lb xs) = r)
    (h : (condsP r [true], endOf Try.prog fn.results.toList (r.at [true])) = ([b], some (some ([.slnil, .i false .i64 z], []), lb xs, q))) (hbt : b = true) (hq : allT q = true) : CallOK Try.prog f [.i false .i64 n, .sl false 0 0 xs.length 1] (lb xs) (.tup [.slnil, .i false .i64 z]) (lb xs) := by
  simp only [Prod.mk.injEq] at h
  obtain ⟨t, g1, g2⟩ := endOf_ends (T := tabUn) (stop := atLoop) (n := 100) (todo := [.code C]) tabUn_sound h.2 (by
    rw [hr]
    exact sel_of_conds _ [true] (by rw [h.1, hbt]; rfl)) hq
  exact call_of_ends (args := [.i false .i64 n, .sl false 0 0 xs.length 1]) (m := []) hf hb g1 g2 rfl
/-! ### A row of a side and a list that gives a new list, or nothing and a code -/
def nlT (cz : Int → List Int → Int) (g : Int → List Int → List Int) : Table := fun _ args H nd K =>
  match args with
  | [.i _ .i64 n, a] => match intsAt H a with
    | some (xs, q) => .ite (eqQ false (cz n xs) 0) (K (.tup [.sl false H.length 0 (g n xs).length 1, .i true .i64 0]) (H ++ [.cells true (.ints .i64 (g n xs))]) (q ++ nd)) (K (.tup [.slnil, .i false .i64 (cz n xs)]) H (q ++ nd))
    | none => .fail
  | _ => .fail
theorem call_new {P : Program} {f : FuncId} {n : Int} {xs ys : List Int} {v : AV} (h : CallOK P f [.i false .i64 n, .sl false 0 0 xs.length 1] (lb xs) (.tup [.sl false 1 0 ys.length 1, v]) (lz xs ys)) (hv : below 0 v = true) {H : List AB} {id : Nat} {r l l2 : Bool} (hg : getB H id = .cells r (.ints .i64 xs)) :
    CallOK P f [.i l2 .i64 n, .sl l id 0 xs.length 1] H (.tup [.sl false H.length 0 ys.length 1, v]) (H ++ [.cells true (.ints .i64 ys)]) := by
  have k := h.pick (fun i => by match i with
    | 0 => rfl
    | i + 1 => rfl) rfl [id] rfl H (fun i hi => by
      have : i = 0 := by simp [lb] at hi; exact hi
      subst this
      refine ⟨getB_lt hg, fun σ τ z o hb => ?_⟩
      have e : ([id] : List Nat).getD 0 0 = id := rfl
      rw [e, hg] at hb
      exact ro_ints hb)
  have e1 : (H ++ ((lz xs ys).drop (lb xs).length).map (mapB (pickI (lb xs).length H.length [id]))) = H ++ [.cells true (.ints .i64 ys)] := rfl
  have e2 : mapV (pickI (lb xs).length H.length [id]) (.tup [.sl false 1 0 ys.length 1, v]) = .tup [.sl false H.length 0 ys.length 1, v] := by
    show AV.tup [.sl false (pickI 1 H.length [id] 1) 0 ys.length 1, mapV _ v] = _
    rw [mapV_low _ hv]
    have : pickI 1 H.length [id] 1 = H.length := by simp [pickI]
    rw [this]
  rw [e1, e2] at k
  exact k.bare rfl
theorem nlT_at {f : FuncId} {cz : Int → List Int → Int} {g : Int → List Int → List Int} (hg : ∀ n xs, xs.length ≤ 5000 → cz n xs = 0 → CallOK Try.prog f [.i false .i64 n, .sl false 0 0 xs.length 1] (lb xs) (.tup [.sl false 1 0 (g n xs).length 1, .i false .i64 0]) (lz xs (g n xs)))
    (hb : ∀ n xs, xs.length ≤ 5000 → cz n xs ≠ 0 → CallOK Try.prog f [.i false .i64 n, .sl false 0 0 xs.length 1] (lb xs) (.tup [.slnil, .i false .i64 (cz n xs)]) (lb xs)) : SoundAt Try.prog f (nlT cz g) := fun args H nd K => by
  unfold nlT
  split
  case h_2 => exact .inl rfl
  rename_i l n a
  split
  case h_2 => exact .inl rfl
  rename_i xs q hi
  rw [eqQ_eq]
  by_cases hz : cz n xs = 0
  · have e : (cz n xs == 0) = true := by simpa using hz
    rw [e]
    refine .inr ⟨_, _, _, rfl, fun hn => ?_⟩
    rw [allT_append, Bool.and_eq_true] at hn
    obtain ⟨l2, id, r, rfl, hgb, h5⟩ := intsAt_spec hi hn.1
    exact ⟨hn.2, (call_new (hg n xs h5 hz) rfl hgb).weaken fun σ x r => tupW (l := [.sl false H.length 0 (g n xs).length 1, .i false .i64 0]) (by rfl) r⟩
  · have e : (cz n xs == 0) = false := by simpa using hz
    rw [e]
    refine .inr ⟨_, _, _, rfl, fun hn => ?_⟩
    rw [allT_append, Bool.and_eq_true] at hn
    obtain ⟨l2, id, r, rfl, hgb, h5⟩ := intsAt_spec hi hn.1
    exact ⟨hn.2, (call_readA (pre := [.i false .i64 n]) (post := []) (hb n xs h5 hz) rfl rfl rfl hgb).bare rfl⟩
theorem ur_at : SoundAt Try.prog 80 (nlT wcZ rwL) := nlT_at (fun _ _ _ h => ur_ok h) fun n xs h5 h =>
  bad_of (r := ur0 n xs) Try.func80 (rfl : Try.f80.body = some urC) rfl (ur0_bad n xs) (by rw [eqQ_eq]; simpa using h) (szQ_ok h5)
theorem vr_at : SoundAt Try.prog 81 (nlT wcZ rwL) := nlT_at (fun _ _ _ h => vr_ok h) fun n xs h5 h =>
  bad_of (r := vr0 n xs) Try.func81 (rfl : Try.f81.body = some vrC) rfl (vr0_bad n xs) (by rw [eqQ_eq]; simpa using h) (szQ_ok h5)
end Go.Ax

/- ResiduesOf, of both sides: rows. -/
namespace Go.Ax
open Go Go.Proofs

/-- A residue of four heights. -/
def rsV (a b c d : Int) : Int := IntKind.i64.wrap ((wrapQ false .i64 (wrapQ false .i64 (wrapQ false .i64 (stZ a b + stZ b c) + stZ c d) + stZ d a)).tdiv 64)
def rsF (m : Nat) (x : Nat → Int) : List Int := (List.range (m - 1)).flatMap fun y => (List.range (m - 1)).map fun j => rsV (x (m * y + j)) (x (m * y + j + 1)) (x (m * y + m + j + 1)) (x (m * y + m + j))
def rsL (n : Int) (xs : List Int) : List Int := rsF n.toNat fun j => xs.getD j 0
noncomputable def unR (f : FuncId) (n : Int) (N : Nat) (x : Nat → Int) : Res := resU tabUn f [.i true .i64 n, .sl true 0 0 N 1] (lb (zXL N x))
/-- An answer whose last block is the only new one that counts. -/
noncomputable def lastD : Res → Option (AV × List AB × Bool)
  | .ret v H nd => match dropN 1 ((List.range (H.length - 2)).map fun i => H.length - 2 - i) v H with
    | some (v', H') => some (v', H', allT nd)
    | none => none
  | _ => none
theorem lastD_call {T : Table} (hT : SoundT Try.prog T) {f : FuncId} {args : List AV} {xs : List Int} {v : AV} {H' : List AB} {r : Res} (hs : (resU T f args (lb xs)).sel = r.sel) (h : lastD r = some (v, H', true)) : CallOK Try.prog f args (lb xs) v H' := by
  unfold lastD at h
  split at h <;> (try (cases h; done))
  rename_i v0 H0 nd
  split at h <;> (try (cases h; done))
  rename_i v1 H1 hd
  simp only [Option.some.injEq, Prod.mk.injEq] at h
  obtain ⟨rfl, rfl, hn⟩ := h
  exact dropN_call (H0 := lb xs) hd (call_of_resU hT hs hn)
noncomputable def rsW (m : Nat) (x : Nat → Int) : List Bool × Option (AV × List AB × Bool) := ([!!eqQ false (wcZ m (zXL (m * m) x)) 0], some (.tup [.sl true 1 0 (rsF m x).length 1, .i true .i64 0], lz (zXL (m * m) x) (rsF m x), true))
noncomputable def rsU (f m : Nat) (x : Nat → Int) : List Bool × Option (AV × List AB × Bool) := (condsP (unR f m (m * m) x) [false], lastD ((unR f m (m * m) x).at [false]))
theorem rs82_1 (x : Nat → Int) : rsU 82 1 x = rsW 1 x := by kernel_rfl
theorem rs82_2 (x : Nat → Int) : rsU 82 2 x = rsW 2 x := by kernel_rfl
theorem rs82_4 (x : Nat → Int) : rsU 82 4 x = rsW 4 x := by kernel_rfl
theorem rs83_1 (x : Nat → Int) : rsU 83 1 x = rsW 1 x := by kernel_rfl
theorem rs83_2 (x : Nat → Int) : rsU 83 2 x = rsW 2 x := by kernel_rfl
theorem rs83_4 (x : Nat → Int) : rsU 83 4 x = rsW 4 x := by kernel_rfl
theorem rs82_8 (x : Nat → Int) : rsU 82 8 x = rsW 8 x := by kernel_rfl
theorem rs83_8 (x : Nat → Int) : rsU 83 8 x = rsW 8 x := by kernel_rfl
theorem zXL_of {xs : List Int} {N : Nat} (h : xs.length = N) : zXL N (fun j => xs.getD j 0) = xs := by
  have := map_range_getD (fun z : Int => z) 0 xs N h
  simp only [List.map_id'] at this
  exact this.symm
theorem rs_good {f : FuncId} (hf : ∀ m, m = 1 ∨ m = 2 ∨ m = 4 ∨ m = 8 → ∀ x, rsU f m x = rsW m x) {n : Int} {xs : List Int} (h : wcZ n xs = 0) : CallOK Try.prog f [.i false .i64 n, .sl false 0 0 xs.length 1] (lb xs) (.tup [.sl false 1 0 (rsL n xs).length 1, .i false .i64 0]) (lz xs (rsL n xs)) := by
  obtain ⟨m, rfl, hm, hx, ha⟩ := wcZ_zero h
  have h1 := hf m hm fun j => xs.getD j 0
  simp only [rsU, rsW, Prod.mk.injEq] at h1
  rw [zXL_of hx, h] at h1
  have k := lastD_call (f := f) (args := [.i true .i64 m, .sl true 0 0 (m * m) 1]) (xs := zXL (m * m) fun j => xs.getD j 0) tabUn_sound (sel_of_conds _ [false] (by
    show allT (condsP (unR f m (m * m) fun j => xs.getD j 0) [false]) = true
    rw [h1.1]; rfl)) h1.2
  rw [zXL_of hx] at k
  have e : rsF m (fun j => xs.getD j 0) = rsL m xs := by simp [rsL]
  rw [e] at k
  rw [hx]
  exact (k.bare (args' := [.i false .i64 m, .sl false 0 0 (m * m) 1]) rfl).weaken fun σ x r => tupW (l := [.sl true 1 0 (rsL m xs).length 1, .i true .i64 0]) (by rfl) r
noncomputable def rsC2 : Code := Try.f82.body.getD .skip
noncomputable def rsC3 : Code := Try.f83.body.getD .skip
noncomputable def rs0 (C : Code) (n : Int) (xs : List Int) : Res := cupto Try.prog tabUn atLoop 100 [.code C] (.i false .i64 n :: .sl false 0 0 xs.length 1 :: undefs 89) (lb xs)
theorem rs82_bad (n : Int) (xs : List Int) : (condsP (rs0 rsC2 n xs) [true], endOf Try.prog Try.f82.results.toList ((rs0 rsC2 n xs).at [true])) = ([!eqQ false (wcZ n xs) 0], some (some ([.slnil, .i false .i64 (wcZ n xs)], []), lb xs, szQ xs)) := by kernel_rfl
theorem rs83_bad (n : Int) (xs : List Int) : (condsP (rs0 rsC3 n xs) [true], endOf Try.prog Try.f83.results.toList ((rs0 rsC3 n xs).at [true])) = ([!eqQ false (wcZ n xs) 0], some (some ([.slnil, .i false .i64 (wcZ n xs)], []), lb xs, szQ xs)) := by kernel_rfl
theorem rs82_at : SoundAt Try.prog 82 (nlT wcZ rsL) := nlT_at (fun _ _ _ h => rs_good (fun m hm x => by
    rcases hm with rfl | rfl | rfl | rfl
    · exact rs82_1 x
    · exact rs82_2 x
    · exact rs82_4 x
    · exact rs82_8 x) h) fun n xs h5 h =>
  bad_of (r := rs0 rsC2 n xs) Try.func82 (rfl : Try.f82.body = some rsC2) rfl (rs82_bad n xs) (by rw [eqQ_eq]; simpa using h) (szQ_ok h5)
theorem rs83_at : SoundAt Try.prog 83 (nlT wcZ rsL) := nlT_at (fun _ _ _ h => rs_good (fun m hm x => by
    rcases hm with rfl | rfl | rfl | rfl
    · exact rs83_1 x
    · exact rs83_2 x
    · exact rs83_4 x
    · exact rs83_8 x) h) fun n xs h5 h =>
  bad_of (r := rs0 rsC3 n xs) Try.func83 (rfl : Try.f83.body = some rsC3) rfl (rs83_bad n xs) (by rw [eqQ_eq]; simpa using h) (szQ_ok h5)
end Go.Ax

/- WrapHeights: a row. -/
namespace Go.Ax
open Go Go.Proofs

/-- A height, wrapped. -/
def wz (h : Int) : Int := (wrapQ false .i64 (h.tmod 64 + 64)).tmod 64
def wrF (N : Nat) (x : Nat → Int) : List Int := (List.range N).map fun j => wz (x j)
def wrL (_ : Int) (xs : List Int) : List Int := xs.map wz
def mcZ (n : Int) (xs : List Int) : Int := cond (isMapZ n xs) 0 1
noncomputable def wrU (m : Nat) (x : Nat → Int) : List Bool × Option (AV × List AB × Bool) := (condsP (unR 84 m (m * m) x) [false], lastD ((unR 84 m (m * m) x).at [false]))
noncomputable def wrW (m : Nat) (x : Nat → Int) : List Bool × Option (AV × List AB × Bool) := ([!!isMapZ m (zXL (m * m) x)], some (.tup [.sl true 1 0 (m * m) 1, .i true .i64 0], lz (zXL (m * m) x) (wrF (m * m) x), true))
theorem wr_1 (x : Nat → Int) : wrU 1 x = wrW 1 x := by kernel_rfl
theorem wr_2 (x : Nat → Int) : wrU 2 x = wrW 2 x := by kernel_rfl
theorem wr_4 (x : Nat → Int) : wrU 4 x = wrW 4 x := by kernel_rfl
theorem wr_8 (x : Nat → Int) : wrU 8 x = wrW 8 x := by kernel_rfl
theorem isMapZ_side {n : Int} {xs : List Int} (h : isMapZ n xs = true) : ∃ m : Nat, n = (m : Int) ∧ (m = 1 ∨ m = 2 ∨ m = 4 ∨ m = 8) ∧ xs.length = m * m ∧ allI (-100000) 100000 xs = true := by
  simp only [isMapZ, Bool.and_eq_true, decide_eq_true_eq] at h
  obtain ⟨hs, hl, ha⟩ := h
  rcases sideB_iff.1 hs with rfl | rfl | rfl | rfl
  · exact ⟨1, rfl, by omega, by omega, ha⟩
  · exact ⟨2, rfl, by omega, by omega, ha⟩
  · exact ⟨4, rfl, by omega, by omega, ha⟩
  · exact ⟨8, rfl, by omega, by omega, ha⟩
theorem wrF_eq {xs : List Int} {N : Nat} (h : xs.length = N) : wrF N (fun j => xs.getD j 0) = xs.map wz := by
  unfold wrF
  exact (map_range_getD wz 0 xs N h).symm
theorem wr_good {n : Int} {xs : List Int} (h : isMapZ n xs = true) : CallOK Try.prog 84 [.i false .i64 n, .sl false 0 0 xs.length 1] (lb xs) (.tup [.sl false 1 0 (wrL n xs).length 1, .i false .i64 0]) (lz xs (wrL n xs)) := by
  obtain ⟨m, rfl, hm, hx, ha⟩ := isMapZ_side h
  have h1 : wrU m (fun j => xs.getD j 0) = wrW m (fun j => xs.getD j 0) := by
    rcases hm with rfl | rfl | rfl | rfl
    · exact wr_1 _
    · exact wr_2 _
    · exact wr_4 _
    · exact wr_8 _
  simp only [wrU, wrW, Prod.mk.injEq] at h1
  rw [zXL_of hx, h, wrF_eq hx] at h1
  have k := lastD_call (f := 84) (args := [.i true .i64 m, .sl true 0 0 (m * m) 1]) (xs := zXL (m * m) fun j => xs.getD j 0) tabUn_sound (sel_of_conds _ [false] (by
    show allT (condsP (unR 84 m (m * m) fun j => xs.getD j 0) [false]) = true
    rw [h1.1]; rfl)) h1.2
  rw [zXL_of hx] at k
  have e : (wrL m xs).length = m * m := by simp [wrL, hx]
  rw [e, hx]
  exact (k.bare (args' := [.i false .i64 m, .sl false 0 0 (m * m) 1]) rfl).weaken fun σ x r => tupW (l := [.sl true 1 0 (m * m) 1, .i true .i64 0]) (by rfl) r
noncomputable def wrC : Code := Try.f84.body.getD .skip
noncomputable def wr0 (n : Int) (xs : List Int) : Res := cupto Try.prog tabUn atLoop 100 [.code wrC] (.i false .i64 n :: .sl false 0 0 xs.length 1 :: undefs 25) (lb xs)
theorem wr_bad (n : Int) (xs : List Int) : (condsP (wr0 n xs) [true], endOf Try.prog Try.f84.results.toList ((wr0 n xs).at [true])) = ([!isMapZ n xs], some (some ([.slnil, .i true .i64 1], []), lb xs, szQ xs)) := by kernel_rfl
theorem wr_at : SoundAt Try.prog 84 (nlT mcZ wrL) := nlT_at (fun n xs _ h => wr_good (by
    unfold mcZ at h
    cases hm : isMapZ n xs with
    | true => rfl
    | false => rw [hm] at h; cases h)) fun n xs h5 h => by
  have hm : isMapZ n xs = false := by
    cases hm : isMapZ n xs with
    | true => exact absurd (by simp [mcZ, hm]) h
    | false => rfl
  have e : mcZ n xs = 1 := by simp [mcZ, hm]
  rw [e]
  have hb := wr_bad n xs
  simp only [Prod.mk.injEq] at hb
  obtain ⟨t, g1, g2⟩ := endOf_ends (T := tabUn) (stop := atLoop) (n := 100) (todo := [.code wrC]) (t0 := .i false .i64 n :: .sl false 0 0 xs.length 1 :: undefs 25) (H0 := lb xs) tabUn_sound hb.2 (sel_of_conds (wr0 n xs) [true] (by rw [hb.1, hm]; rfl)) (szQ_ok h5)
  have k := call_of_ends (args := [.i false .i64 n, .sl false 0 0 xs.length 1]) (m := []) Try.func84 (rfl : Try.f84.body = some wrC) g1 g2 rfl
  exact k.weaken fun σ x r => tupW (l := [.slnil, .i true .i64 1]) (by rfl) r
end Go.Ax

/- WrappedDifference, of both sides: a row. -/
namespace Go.Ax
open Go Go.Proofs

def wdV (h k : Int) : Int := cond (!inQ (-100000) 100000 h) 0 (cond (!inQ (-100000) 100000 k) 0 (stZ h k))
def wdK (h k : Int) : Int := cond (!inQ (-100000) 100000 h) 2 (cond (!inQ (-100000) 100000 k) 2 0)
def wdRes (h k : Int) : AV := .tup [.i false .i64 (wdV h k), .i false .i64 (wdK h k)]
theorem wd89 (h k : Int) : joinR 0 (tab0 89 [.i false .i64 h, .i false .i64 k] [] [] fun v H nd => .ret v H nd) = some (wdRes h k, []) := by kernel_rfl
theorem wd90 (h k : Int) : joinR 0 (tab0 90 [.i false .i64 h, .i false .i64 k] [] [] fun v H nd => .ret v H nd) = some (wdRes h k, []) := by kernel_rfl
def gWd : List AV → Option (AV × List Bool)
  | [.i _ .i64 h, .i _ .i64 k] => some (wdRes h k, [])
  | _ => none
theorem wdf_at (f : FuncId) (hf : f = 89 ∨ f = 90) : SoundAt Try.prog f (pureT gWd) := fun args H nd K => by
  refine pureT_sound (fun args v n h hn H => ?_) args H nd K
  unfold gWd at h
  split at h <;> cases h
  rename_i l1 h1 l2 k1
  rcases hf with rfl | rfl
  · exact (call_of_join tab0_sound (wd89 h1 k1) rfl rfl H).bare rfl
  · exact (call_of_join tab0_sound (wd90 h1 k1) rfl rfl H).bare rfl
end Go.Ax

/- CellOf, of both sides: one answer. -/
namespace Go.Ax
open Go Go.Proofs

end Go.Ax

/- Table rows for the laws: what a drawing function gives, the plane waves, flat waves, cells. -/
namespace Go.Ax
open Go Go.Proofs

noncomputable def drawV {α : Type} [Inhabited α] (F : Form α) (f : FuncId) (c : Cd) : α := open Classical in if hx : ∃ x, DrawOK Try.prog f c (F.val x) then hx.choose else default
noncomputable def drawT {α : Type} [Inhabited α] (F : Form α) : Table := fun f args H nd K =>
  match args, H with
  | [s], B :: _ => match readSl s, readCode B with
    | some (o, n), some (o', b) => K (F.val (drawV F f ⟨b, o', n⟩)) H (okB ⟨b, o', n⟩ o n :: nd)
    | _, _ => .fail
  | _, _ => .fail
noncomputable def gPlane : List AV → Option (AV × List Bool)
  | [.i _ .i64 n, .i _ .i64 u, .i _ .i64 v] => some (planeR n u v, [])
  | _ => none
noncomputable def gFlat : List AV → Option (AV × List Bool)
  | [.i _ .i64 n, .c _ .f32 x y] => some (flatWR n (x, y), [])
  | _ => none
theorem flatw_at (f : FuncId) (hf : f = 20 ∨ f = 21) : SoundAt Try.prog f (pureT gFlat) := fun args H nd K => by
  refine pureT_sound (fun args v n h hn H => ?_) args H nd K
  unfold gFlat at h
  split at h <;> cases h
  exact (flat_ok f hf _ (_, _) H).bare rfl
instance : Inhabited (Int × (Nat → Nat × Nat)) := ⟨(0, fun _ => (0, 0))⟩
end Go.Ax

/- A call's answer along one way through its tests; numbers that equal themselves. -/
namespace Go.Ax
open Go Go.Proofs

/-! ### Waves read from their values -/
def reX (X : Nat → Nat × Nat) : Nat → Nat × Nat := fun j => ((List.range 64).map fun i => ((X i).1, (X i).2)).getD j (0, 0)
theorem reX_eq {X : Nat → Nat × Nat} {j : Nat} (h : j < 64) : reX X j = X j := by
  simp [reX, List.getD_eq_getElem?_getD, List.getElem?_range h]
theorem isWaveB_re {n : Int} {X : Nat → Nat × Nat} : isWaveB n (reX X) = isWaveB n X := by
  rw [Bool.eq_iff_iff, isWaveB_iff, isWaveB_iff]
  constructor
  · rintro ⟨h1, h2⟩
    exact ⟨h1, fun j hj => by have := h2 j hj; rwa [reX_eq hj] at this⟩
  · rintro ⟨h1, h2⟩
    exact ⟨h1, fun j hj => by rw [reX_eq hj]; exact h2 j hj⟩
def pEq (a b c d : Nat) : Bool := feq .f32 a b && feq .f32 c d
/-! ### The table of phases -/
end Go.Ax

/- IsMask, of both sides. -/
namespace Go.Ax
open Go Go.Proofs

def zC (z : Nat × Nat) : Bool := pEq z.1 0 z.2 0
def oC (z : Nat × Nat) : Bool := pEq z.1 1065353216 z.2 0
/-- Whether the cells from j on are 0 or 1. -/
def maskF (X : Nat → Nat × Nat) : Nat → Nat → Bool
  | 0, _ => true
  | m + 1, j => (zC (X j) || oC (X j)) && maskF X m (j + 1)
theorem maskF_iff (X : Nat → Nat × Nat) : ∀ m j, maskF X m j = true ↔ ∀ i, i < m → zC (X (j + i)) = true ∨ oC (X (j + i)) = true
  | 0, j => by simp [maskF]
  | m + 1, j => by
    rw [maskF, Bool.and_eq_true, Bool.or_eq_true, maskF_iff X m (j + 1)]
    constructor
    · rintro ⟨h0, h⟩ i hi
      cases i with
      | zero => exact h0
      | succ i => have := h i (by omega); rwa [show j + 1 + i = j + (i + 1) by omega] at this
    · intro h
      refine ⟨h 0 (by omega), fun i hi => ?_⟩
      have := h (i + 1) (by omega)
      rwa [show j + (i + 1) = j + 1 + i by omega] at this
noncomputable def isMaskB (n : Int) (X : Nat → Nat × Nat) : Bool := maskF X 64 0 && isWaveB n X

noncomputable def isC : Code := Try.f121.body.getD .skip
noncomputable def is0 (n : Int) (X : Nat → Nat × Nat) : Res := cupto Try.prog tabX atLoop 100 [.code isC] (wv n X :: undefs 21) []
noncomputable def isL : List Item := (is0 0 (fun _ => (0, 0))).todo
noncomputable def isR : List Item := toLp isL
theorem isR_eq : toLp isR = isR := by kernel_rfl
def isH (n : Int) (X : Nat → Nat × Nat) : List AB := [.cells true (.lit (waveL n X))]
def isT (j : Nat) : List AV := [.any, .p true 0 0, .b true false, .i true .i64 (Int.ofNat j)] ++ List.replicate 18 .any
def isM : List Bool := [true, false, false, false] ++ List.replicate 18 true
noncomputable def isU (n : Int) (X : Nat → Nat × Nat) (j : Nat) : Res := cupto Try.prog tabX atLoop 100 isR (isT j) (isH n X)
theorem is0_ok (n : Int) (X : Nat → Nat × Nat) : lfM isM (is0 n X) = (true, isL, (isT 0).map AV.bare, isH n X, []) := by kernel_rfl
theorem is_step (n : Int) (X : Nat → Nat × Nat) : ((List.range 64).map fun j => (condsP (isU n X j) [false], lfM isM ((isU n X j).at [false]), condsP (isU n X j) [true, false], lfM isM ((isU n X j).at [true, false]), condsP (isU n X j) [true, true], endOf Try.prog Try.f121.results.toList ((isU n X j).at [true, true]))) =
    (List.range 64).map fun j => ([!!zC (X j)], (true, isR, (isT (j + 1)).map AV.bare, isH n X, []), [!zC (X j), !!oC (X j)], (true, isR, (isT (j + 1)).map AV.bare, isH n X, []), [!zC (X j), !oC (X j)], some (some ([.b true false], []), isH n X, [])) := by kernel_rfl
theorem is_end (n : Int) (X : Nat → Nat × Nat) : endOf Try.prog Try.f121.results.toList (isU n X 64) = some (some ([.b false (isWaveB n (reX X))], []), isH n X, []) := by kernel_rfl
theorem is_go (n : Int) (X : Nat → Nat × Nat) : ∀ (m j : Nat), j + m = 64 → ∀ L, toLp L = isR → ∃ t H, Ends Try.prog L (isT j) (isH n X) t H ∧ ∃ b, resV Try.prog t H Try.f121.results.toList = some ([.b b (maskF X m j && isWaveB n X)], [])
  | 0, j, hj, L, hL => by
    have : j = 64 := by omega
    subst this
    have hU : cupto Try.prog tabX atLoop 100 L (isT 64) (isH n X) = isU n X 64 := by unfold isU; rw [← hL, cupto_toLp]
    obtain ⟨t, e1, e2⟩ := endOf_ends (T := tabX) (stop := atLoop) (n := 100) (todo := L) (t0 := isT 64) (H0 := isH n X) tabX_sound (is_end n X) (by rw [hU]) rfl
    refine ⟨t, _, e1, false, ?_⟩
    rw [e2, isWaveB_re]
    rfl
  | m + 1, j, hj, L, hL => by
    have hU : cupto Try.prog tabX atLoop 100 L (isT j) (isH n X) = isU n X j := by unfold isU; rw [← hL, cupto_toLp]
    have h := map_mem (is_step n X) (x := j) (by simp; omega)
    simp only [Prod.mk.injEq] at h
    obtain ⟨c1, l1, c2, l2, c3, l3⟩ := h
    have ih := is_go n X m (j + 1) (by omega) isR isR_eq
    have next : ∀ p : List Bool, allT (condsP (isU n X j) p) = true → lfM isM ((isU n X j).at p) = (true, isR, (isT (j + 1)).map AV.bare, isH n X, []) → Reach Try.prog L (isT j) (isH n X) isR (isT (j + 1)) (isH n X) := fun p hc hl => by
      simp only [lfM, Prod.mk.injEq] at hl
      obtain ⟨a1, a2, a3, a4, a5⟩ := hl
      have hs := isStop_at a1 hc
      rw [← hU] at hs
      have hr := cupto_reach tabX_sound hs (by rw [hU, a5]; rfl)
      rw [hU, a2, a4] at hr
      exact (hr.weak (blur_eqv isM _)).weak (eqv_of_bare a3)
    cases hz : zC (X j) with
    | true =>
      obtain ⟨t, H, e1, b, e2⟩ := ih
      refine ⟨t, H, (next [false] (by rw [c1, hz]; rfl) l1).ends e1, b, ?_⟩
      rw [e2, maskF, hz]; rfl
    | false => cases ho : oC (X j) with
      | true =>
        obtain ⟨t, H, e1, b, e2⟩ := ih
        refine ⟨t, H, (next [true, false] (by rw [c2, hz, ho]; rfl) l2).ends e1, b, ?_⟩
        rw [e2, maskF, hz, ho]; rfl
      | false =>
        obtain ⟨t, e1, e2⟩ := endOf_ends (T := tabX) (stop := atLoop) (n := 100) (todo := L) (t0 := isT j) (H0 := isH n X) tabX_sound l3 (by rw [hU]; exact sel_of_conds _ _ (by rw [c3, hz, ho]; rfl)) rfl
        refine ⟨t, _, e1, true, ?_⟩
        rw [e2, maskF, hz, ho]; rfl
theorem specIs_ok (n : Int) (X : Nat → Nat × Nat) (H : List AB) : CallOK Try.prog 121 [wv n X] H (.b false (isMaskB n X)) H := by
  have h := is0_ok n X
  simp only [lfM, Prod.mk.injEq] at h
  obtain ⟨a1, a2, a3, a4, a5⟩ := h
  have hr := one_reach (stop := atLoop) (n := 100) (todo := [.code isC]) (t0 := wv n X :: undefs 21) (H0 := []) (r := is0 n X) tabX_sound rfl a1 (by rw [a5]; rfl)
  rw [a2, a4] at hr
  have hr := (hr.weak (blur_eqv isM _)).weak (eqv_of_bare (t' := isT 0) a3)
  obtain ⟨t, H', e1, b, e2⟩ := is_go n X 64 0 rfl isL rfl
  have hb : Try.f121.body = some isC := rfl
  have hcall := call_of_ends (args := [wv n X]) (m := []) Try.func121 hb (hr.ends e1) e2 rfl
  have hcall : CallOK Try.prog 121 [wv n X] [] (.b b (isMaskB n X)) H' := hcall
  exact (hcall.lift rfl (by simp [belowL, wv_low]) H rfl).weaken fun σ x r => by cases r; exact .b _

/-! ### impl.IsMask -/
def idxF (X : Nat → Nat × Nat) : Nat → Nat → Int
  | 0, _ => -1
  | m + 1, j => cond (cond (!zC (X j)) (!oC (X j)) false) (Int.ofNat j) (idxF X m (Nat.succ j))
theorem idxF_neg (X : Nat → Nat × Nat) : ∀ m j, (!decide (0 ≤ idxF X m j)) = maskF X m j
  | 0, j => by simp [idxF, maskF]
  | m + 1, j => by
    rw [idxF, maskF, ← idxF_neg X m (j + 1)]
    cases zC (X j) <;> cases oC (X j) <;> simp
theorem implIs_run (n : Int) (X : Nat → Nat × Nat) : joinR 0 (tabX 29 [wvT false n X] [] [] fun v H nd => .ret v H nd) = some (.b false (cond (isWaveB n (reX X)) (!leQ false 0 (idxF X 64 0)) false), []) := by kernel_rfl
theorem wvT_below (l : Bool) (n : Int) (X : Nat → Nat × Nat) : below 0 (wvT l n X) = true := by
  have := wv_low n X
  simpa [wv, wvT, waveL, below, belowL] using this
theorem implIs_ok (n : Int) (X : Nat → Nat × Nat) (H : List AB) : CallOK Try.prog 29 [wv n X] H (.b false (isMaskB n X)) H := by
  have h := (call_of_join tabX_sound (implIs_run n X) rfl (by simp [belowL, wvT_below]) H).deep (args' := [wv n X]) rfl
  refine h.weaken fun σ x r => ?_
  have e : cond (isWaveB n (reX X)) (!leQ false 0 (idxF X 64 0)) false = isMaskB n X := by
    rw [leQ_eq, idxF_neg, isWaveB_re]
    unfold isMaskB
    cases isWaveB n X <;> simp
  rwa [e] at r
end Go.Ax
