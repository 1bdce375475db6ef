/- spec.l07Is and l07Code: contracts. -/
import Derived.Test.YtdcjjibekhcplaaEam
namespace Go.Ax
open Go Go.Proofs

/-- A row of a bool or number of a side and a list, read only. -/
def readT (g : Int → List Int → AV) : Table := fun _ args H nd K =>
  match args with
  | [.i _ .i64 n, a] => match intsAt H a with
    | some (xs, q) => K (g n xs) H (q ++ nd)
    | none => .fail
  | _ => .fail
theorem readT_at {f : FuncId} {g : Int → List Int → AV} (hg : ∀ n xs, below 0 (g n xs) = true) (h : ∀ n xs, xs.length ≤ 5000 → CallOK Try.prog f [.i false .i64 n, .sl false 0 0 xs.length 1] (lb xs) (g n xs) (lb xs)) : SoundAt Try.prog f (readT g) := fun args H nd K => by
  unfold readT
  split
  case h_2 => exact .inl rfl
  rename_i l n a
  split
  case h_2 => exact .inl rfl
  rename_i xs q hi
  refine .inr ⟨_, _, _, rfl, fun hn => ?_⟩
  rw [allT_append, Bool.and_eq_true] at hn
  obtain ⟨l2, id, r, rfl, hgb, h5⟩ := intsAt_spec hi hn.1
  exact ⟨hn.2, (call_readA (pre := [.i false .i64 n]) (post := []) (h n xs h5) rfl rfl (hg n xs) hgb).bare rfl⟩
noncomputable def isMapT : Table := readT fun n xs => .b false (isMapZ n xs)
theorem isMap_at : SoundAt Try.prog 178 isMapT := readT_at (fun _ _ => rfl) isMap_ok
/-! ### f184 -/
noncomputable def miC : Code := Try.f184.body.getD .skip
noncomputable def mi0 (n : Int) (xs : List Int) : Res := cupto Try.prog tab0 atLoop 100 [.code miC] (.i false .i64 n :: .sl false 0 0 xs.length 1 :: undefs 27) (lb xs)
noncomputable def miL : List Item := ((mi0 0 []).at [false, false]).todo
noncomputable def miR : List Item := toLp miL
theorem miR_eq : toLp miR = miR := by kernel_rfl
def miTl (n : Int) (xs : List Int) (k : Int) : List AV := tmpsOf 29 [(0, .i false .i64 n), (1, .sl false 0 0 xs.length 1), (5, .i false .i64 k)]
def miT (n : Int) (xs : List Int) (i : Nat) : List AV := miTl n xs (Int.ofNat i)
def miM : List Bool := maskOf 29 [(0, .any), (1, .any), (5, .any)]
noncomputable def miU (n : Int) (xs : List Int) (i : Nat) : Res := jupto Try.prog tab0 atLoop 100 miR (miT n xs i) (lb xs)
theorem mi0_ok (n : Int) (xs : List Int) : (condsP (mi0 n xs) [false, false], lfM miM ((mi0 n xs).at [false, false])) = ([!!sdQ n, !!eqQ false xs.length (wrapQ false .i64 (n * n))], (true, miL, (miT n xs 0).map AV.bare, lb xs, [])) := by kernel_rfl
theorem mi_step (n : Int) (xs : List Int) (i : Nat) : ((condsP (miU n xs i) [true, false], lfM miM ((miU n xs i).at [true, false])), (condsP (miU n xs i) [false], endOf Try.prog Try.f184.results.toList ((miU n xs i).at [false])), (condsP (miU n xs i) [true, true], endOf Try.prog Try.f184.results.toList ((miU n xs i).at [true, true]))) =
    (([ltQ false (Int.ofNat i) xs.length, !!inJ (-100000) 100000 xs i], (true, miR, (miTl n xs (wrapQ false .i64 (Int.ofNat i + 1))).map AV.bare, lb xs, idxJ xs i)),
     ([!ltQ false (Int.ofNat i) xs.length], some (some ([.b true true], []), lb xs, [])),
     ([ltQ false (Int.ofNat i) xs.length, !inJ (-100000) 100000 xs i], some (some ([.b true false], []), lb xs, idxJ xs i))) := by kernel_rfl
theorem mi_go (n : Int) (xs : List Int) (hx : xs.length ≤ 5000) : ∃ t, Ends Try.prog miL (miT n xs 0) (lb xs) t (lb xs) ∧ resV Try.prog t (lb xs) Try.f184.results.toList = some ([scanV (fun _ => .b true false) (.b true true) (fun i => !inJ (-100000) 100000 xs i) xs.length 0], []) := by
  have hs := fun i => mi_step n xs i
  simp only [Prod.mk.injEq] at hs
  exact scan_go (P := Try.prog) (R := miR) (S := miT n xs) (H := lb xs) (rs := Try.f184.results.toList) (len := xs.length) (b := fun i => !inJ (-100000) 100000 xs i) (bad := fun _ => .b true false) (good := .b true true) miR_eq
    (fun i hi hb L hL => by
      obtain ⟨⟨c1, l1⟩, _, _⟩ := hs i
      have := way_reach (P := Try.prog) (T := tab0) (stop := atLoop) (n := 100) (L := L) (R := miR) (p := [true, false]) (t0 := miT n xs i) (H0 := lb xs) tab0_sound (hL.trans miR_eq.symm) (by
        show allT (condsP (miU n xs i) [true, false]) = true
        rw [c1, ltQ_true hi, hb]; rfl) l1 (idxJ_ok hi)
      have hN : miTl n xs (wrapQ false .i64 (Int.ofNat i + 1)) = miT n xs (i + 1) := by unfold miT; rw [ofNat_next (by omega)]
      rwa [hN] at this)
    (fun i hi hb L hL => by
      obtain ⟨_, _, ⟨c1, l1⟩⟩ := hs i
      exact way_ends (P := Try.prog) (T := tab0) (stop := atLoop) (n := 100) (L := L) (R := miR) (p := [true, true]) (t0 := miT n xs i) (H0 := lb xs) tab0_sound (hL.trans miR_eq.symm) (by
        show allT (condsP (miU n xs i) [true, true]) = true
        rw [c1, ltQ_true hi, hb]; rfl) l1 (idxJ_ok hi))
    (fun L hL => by
      obtain ⟨_, ⟨c1, l1⟩, _⟩ := hs xs.length
      exact way_ends (P := Try.prog) (T := tab0) (stop := atLoop) (n := 100) (L := L) (R := miR) (p := [false]) (t0 := miT n xs xs.length) (H0 := lb xs) tab0_sound (hL.trans miR_eq.symm) (by
        show allT (condsP (miU n xs xs.length) [false]) = true
        rw [c1, ltQ_same]; rfl) l1 rfl)
    xs.length 0 (by omega) miL rfl
theorem mi_bad (n : Int) (xs : List Int) : (condsP (mi0 n xs) [true], endOf Try.prog Try.f184.results.toList ((mi0 n xs).at [true]), condsP (mi0 n xs) [false, true], endOf Try.prog Try.f184.results.toList ((mi0 n xs).at [false, true])) =
    ([!sdQ n], some (some ([.b true false], []), lb xs, []), [!!sdQ n, !eqQ false xs.length (wrapQ false .i64 (n * n))], some (some ([.b true false], []), lb xs, [])) := by kernel_rfl
theorem isMap2_ok (n : Int) (xs : List Int) (hx : xs.length ≤ 5000) : CallOK Try.prog 184 [.i false .i64 n, .sl false 0 0 xs.length 1] (lb xs) (.b false (isMapZ n xs)) (lb xs) := by
  have hb := mi_bad n xs
  simp only [Prod.mk.injEq] at hb
  obtain ⟨b1, b2, b3, b4⟩ := hb
  have hbody : Try.f184.body = some miC := rfl
  have bad : ∀ {p : List Bool}, allT (condsP (mi0 n xs) p) = true → endOf Try.prog Try.f184.results.toList ((mi0 n xs).at p) = some (some ([.b true false], []), lb xs, []) → isMapZ n xs = false → CallOK Try.prog 184 [.i false .i64 n, .sl false 0 0 xs.length 1] (lb xs) (.b false (isMapZ n xs)) (lb xs) := fun {p} hc he hz => by
    obtain ⟨t, e1, e2⟩ := endOf_ends (stop := atLoop) (n := 100) tab0_sound he (sel_of_conds _ p hc) rfl
    have := call_of_ends (args := [.i false .i64 n, .sl false 0 0 xs.length 1]) (m := []) Try.func184 hbody e1 e2 rfl
    refine this.weaken fun σ x r => ?_
    rw [hz]
    cases r; exact .b _
  cases hs : sideB n with
  | false => exact bad (p := [true]) (by rw [b1, sdQ_eq, hs]; rfl) b2 (by simp [isMapZ, hs])
  | true =>
    by_cases hl : (xs.length : Int) = n * n
    · have h0 := mi0_ok n xs
      simp only [Prod.mk.injEq] at h0
      have e1 : ((xs.length : Int) == n * n) = true := by simpa using hl
      have hr := cway_reach (P := Try.prog) (T := tab0) (stop := atLoop) (n := 100) (L := [.code miC]) (p := [false, false]) (t0 := .i false .i64 n :: .sl false 0 0 xs.length 1 :: undefs 27) (H0 := lb xs) (t' := miT n xs 0) (H' := lb xs) (M := miM) (nd := []) (todo' := miL) tab0_sound (by
        show allT (condsP (mi0 n xs) [false, false]) = true
        rw [h0.1, sdQ_eq, hs, side_wrap hs, eqQ_eq, e1]; rfl) h0.2 rfl
      obtain ⟨t, e3, e4⟩ := mi_go n xs hx
      have := call_of_ends (args := [.i false .i64 n, .sl false 0 0 xs.length 1]) (m := []) Try.func184 hbody (hr.ends e3) e4 rfl
      refine this.weaken fun σ x r => ?_
      have e : isMapZ n xs = allN (fun j => !(fun i => !inJ (-100000) 100000 xs i) j) xs.length 0 := by
        simp [isMapZ, hs, hl, allI]
      rw [e]
      exact scanV_bool _ _ _ r
    · have e1 : ((xs.length : Int) == n * n) = false := by simpa using hl
      exact bad (p := [false, true]) (by rw [b3, sdQ_eq, hs, side_wrap hs, eqQ_eq, e1]; rfl) b4 (by simp [isMapZ, hl])
theorem isMap2_at : SoundAt Try.prog 184 isMapT := readT_at (fun _ _ => rfl) isMap2_ok
noncomputable def tabKz : Table := tabOf (cdeep Try.prog [(273, idxZT), (178, isMapT), (184, isMapT)] [172] 2000 6)
theorem tabKz_sound : SoundT Try.prog tabKz := cdeep_sound (allAt_mem (P := Try.prog) (l := [(273, idxZT), (178, isMapT), (184, isMapT)]) ⟨idx_at, isMap_at, isMap2_at, trivial⟩) 6
theorem u172 (n : Int) (xs : List Int) : resU tabKz 172 [.i false .i64 n, .sl false 0 0 xs.length 1] (lb xs) = .ite (!isMapZ n xs) (.ret (.i true .i64 1) (lb xs) (szQ xs)) (.ite (leQ false 0 (firstN (fun i => !inJ 0 63 xs i) xs.length 0)) (.ret (.i true .i64 5) (lb xs) (szQ xs ++ szQ xs)) (.ret (.i true .i64 0) (lb xs) (szQ xs ++ szQ xs))) := by kernel_rfl
theorem wcd_ok (n : Int) (xs : List Int) (hx : xs.length ≤ 5000) : CallOK Try.prog 172 [.i false .i64 n, .sl false 0 0 xs.length 1] (lb xs) (.i false .i64 (wcZ n xs)) (lb xs) := by
  have h := u172 n xs
  rw [first_all] at h
  have hq : allT (szQ xs ++ szQ xs) = true := by rw [allT_append, szQ_ok hx]; rfl
  unfold wcZ
  cases hm : isMapZ n xs with
  | false =>
    rw [hm] at h
    exact (call_of_resU tabKz_sound (by rw [h]; rfl) (szQ_ok hx)).weaken fun σ x r => by cases r; exact .i _ _
  | true =>
    rw [hm] at h
    cases ha : allI 0 63 xs with
    | false =>
      rw [ha] at h
      exact (call_of_resU tabKz_sound (by rw [h]; rfl) hq).weaken fun σ x r => by cases r; exact .i _ _
    | true =>
      rw [ha] at h
      exact (call_of_resU tabKz_sound (by rw [h]; rfl) hq).weaken fun σ x r => by cases r; exact .i _ _

/-! ### f176 -/
noncomputable def wdC : Code := Try.f176.body.getD .skip
noncomputable def wd0 (n : Int) (xs : List Int) : Res := cupto Try.prog tabKz atLoop 100 [.code wdC] (.i false .i64 n :: .sl false 0 0 xs.length 1 :: undefs 20) (lb xs)
noncomputable def wdL : List Item := ((wd0 0 []).at [false]).todo
noncomputable def wdR : List Item := toLp wdL
theorem wdR_eq : toLp wdR = wdR := by kernel_rfl
def wdTl (n : Int) (xs : List Int) (k : Int) : List AV := tmpsOf 22 [(0, .i false .i64 n), (1, .sl false 0 0 xs.length 1), (5, .i false .i64 k)]
def wdT (n : Int) (xs : List Int) (i : Nat) : List AV := wdTl n xs (Int.ofNat i)
def wdM : List Bool := maskOf 22 [(0, .any), (1, .any), (5, .any)]
noncomputable def wdU (n : Int) (xs : List Int) (i : Nat) : Res := jupto Try.prog tab0 atLoop 100 wdR (wdT n xs i) (lb xs)
theorem wd0_ok (n : Int) (xs : List Int) : (condsP (wd0 n xs) [false], lfM wdM ((wd0 n xs).at [false])) = ([!!isMapZ n xs], (true, wdL, (wdT n xs 0).map AV.bare, lb xs, szQ xs)) := by kernel_rfl
theorem wd_step (n : Int) (xs : List Int) (i : Nat) : ((condsP (wdU n xs i) [true, false], lfM wdM ((wdU n xs i).at [true, false])), (condsP (wdU n xs i) [false], endOf Try.prog Try.f176.results.toList ((wdU n xs i).at [false])), (condsP (wdU n xs i) [true, true], endOf Try.prog Try.f176.results.toList ((wdU n xs i).at [true, true]))) =
    (([ltQ false (Int.ofNat i) xs.length, !!inJ (0) 63 xs i], (true, wdR, (wdTl n xs (wrapQ false .i64 (Int.ofNat i + 1))).map AV.bare, lb xs, idxJ xs i)),
     ([!ltQ false (Int.ofNat i) xs.length], some (some ([.i true .i64 0], []), lb xs, [])),
     ([ltQ false (Int.ofNat i) xs.length, !inJ (0) 63 xs i], some (some ([.i true .i64 5], []), lb xs, idxJ xs i))) := by kernel_rfl
theorem wd_go (n : Int) (xs : List Int) (hx : xs.length ≤ 5000) : ∃ t, Ends Try.prog wdL (wdT n xs 0) (lb xs) t (lb xs) ∧ resV Try.prog t (lb xs) Try.f176.results.toList = some ([scanV (fun _ => .i true .i64 5) (.i true .i64 0) (fun i => !inJ (0) 63 xs i) xs.length 0], []) := by
  have hs := fun i => wd_step n xs i
  simp only [Prod.mk.injEq] at hs
  exact scan_go (P := Try.prog) (R := wdR) (S := wdT n xs) (H := lb xs) (rs := Try.f176.results.toList) (len := xs.length) (b := fun i => !inJ (0) 63 xs i) (bad := fun _ => .i true .i64 5) (good := .i true .i64 0) wdR_eq
    (fun i hi hb L hL => by
      obtain ⟨⟨c1, l1⟩, _, _⟩ := hs i
      have := way_reach (P := Try.prog) (T := tab0) (stop := atLoop) (n := 100) (L := L) (R := wdR) (p := [true, false]) (t0 := wdT n xs i) (H0 := lb xs) tab0_sound (hL.trans wdR_eq.symm) (by
        show allT (condsP (wdU n xs i) [true, false]) = true
        rw [c1, ltQ_true hi, hb]; rfl) l1 (idxJ_ok hi)
      have hN : wdTl n xs (wrapQ false .i64 (Int.ofNat i + 1)) = wdT n xs (i + 1) := by unfold wdT; rw [ofNat_next (by omega)]
      rwa [hN] at this)
    (fun i hi hb L hL => by
      obtain ⟨_, _, ⟨c1, l1⟩⟩ := hs i
      exact way_ends (P := Try.prog) (T := tab0) (stop := atLoop) (n := 100) (L := L) (R := wdR) (p := [true, true]) (t0 := wdT n xs i) (H0 := lb xs) tab0_sound (hL.trans wdR_eq.symm) (by
        show allT (condsP (wdU n xs i) [true, true]) = true
        rw [c1, ltQ_true hi, hb]; rfl) l1 (idxJ_ok hi))
    (fun L hL => by
      obtain ⟨_, ⟨c1, l1⟩, _⟩ := hs xs.length
      exact way_ends (P := Try.prog) (T := tab0) (stop := atLoop) (n := 100) (L := L) (R := wdR) (p := [false]) (t0 := wdT n xs xs.length) (H0 := lb xs) tab0_sound (hL.trans wdR_eq.symm) (by
        show allT (condsP (wdU n xs xs.length) [false]) = true
        rw [c1, ltQ_same]; rfl) l1 rfl)
    xs.length 0 (by omega) wdL rfl
theorem wd_bad (n : Int) (xs : List Int) : (condsP (wd0 n xs) [true], endOf Try.prog Try.f176.results.toList ((wd0 n xs).at [true])) = ([!isMapZ n xs], some (some ([.i true .i64 1], []), lb xs, szQ xs)) := by kernel_rfl
theorem scanV_two {a z : Int} {l l' : Bool} (b : Nat → Bool) : ∀ m i {σ : List (Nat × Nat)} {x : Value}, Rel σ (scanV (fun _ => .i l .i64 a) (.i l' .i64 z) b m i) x → Rel σ (.i false .i64 (cond (allN (fun j => !b j) m i) z a)) x
  | 0, i, σ, x, r => by cases r; exact .i _ _
  | m + 1, i, σ, x, r => by
    unfold scanV at r
    unfold allN
    cases hb : b i with
    | true => rw [hb] at r; cases r; exact .i _ _
    | false => rw [hb] at r; exact scanV_two b m (i + 1) r
theorem wd_ok (n : Int) (xs : List Int) (hx : xs.length ≤ 5000) : CallOK Try.prog 176 [.i false .i64 n, .sl false 0 0 xs.length 1] (lb xs) (.i false .i64 (wcZ n xs)) (lb xs) := by
  have hb := wd_bad n xs
  simp only [Prod.mk.injEq] at hb
  have hbody : Try.f176.body = some wdC := rfl
  unfold wcZ
  cases hm : isMapZ n xs with
  | false =>
    obtain ⟨t, e1, e2⟩ := endOf_ends (stop := atLoop) (n := 100) tabKz_sound hb.2 (sel_of_conds (wd0 n xs) [true] (by rw [hb.1, hm]; rfl)) (szQ_ok hx)
    have := call_of_ends (args := [.i false .i64 n, .sl false 0 0 xs.length 1]) (m := []) Try.func176 hbody e1 e2 rfl
    exact this.weaken fun σ x r => by cases r; exact .i _ _
  | true =>
    have h0 := wd0_ok n xs
    simp only [Prod.mk.injEq] at h0
    have hr := cway_reach (P := Try.prog) (T := tabKz) (stop := atLoop) (n := 100) (L := [.code wdC]) (p := [false]) (t0 := .i false .i64 n :: .sl false 0 0 xs.length 1 :: undefs 20) (H0 := lb xs) (t' := wdT n xs 0) (H' := lb xs) (M := wdM) (nd := szQ xs) (todo' := wdL) tabKz_sound (by
      show allT (condsP (wd0 n xs) [false]) = true
      rw [h0.1, hm]; rfl) h0.2 (szQ_ok hx)
    obtain ⟨t, e3, e4⟩ := wd_go n xs hx
    have := call_of_ends (args := [.i false .i64 n, .sl false 0 0 xs.length 1]) (m := []) Try.func176 hbody (hr.ends e3) e4 rfl
    refine this.weaken fun σ x r => ?_
    have r2 := scanV_two _ _ _ r
    simp only [Bool.not_not] at r2
    have e : allN (fun j => inJ 0 63 xs j) xs.length 0 = allI 0 63 xs := rfl
    rw [e] at r2
    cases ha : allI 0 63 xs with
    | false => rw [ha] at r2; exact r2
    | true => rw [ha] at r2; exact r2
noncomputable def codeT : Table := readT fun n xs => .i false .i64 (wcZ n xs)
theorem wcd_at : SoundAt Try.prog 172 codeT := readT_at (fun _ _ => rfl) wcd_ok
theorem wd_at : SoundAt Try.prog 176 codeT := readT_at (fun _ _ => rfl) wd_ok
end Go.Ax
