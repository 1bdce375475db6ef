/- slices.IndexFunc and ContainsFunc of whole numbers. -/
import Derived.Test.YtdcjjibekhcplaaEak
import Derived.Test.YtdcjjibekhcplaaEal
namespace Go.Ax
open Go Go.Proofs

noncomputable def jxC : Code := Try.f273.body.getD .skip
noncomputable def jx0 (g : FuncId) (xs : List Int) : Res := jupto Try.prog tab0 atLoop 100 [.code jxC] (.sl false 0 0 xs.length 1 :: .fn g [] [] :: undefs 17) (lb xs)
noncomputable def jxL : List Item := (jx0 253 []).todo
noncomputable def jxR : List Item := toLp jxL
theorem jxR_eq : toLp jxR = jxR := by kernel_rfl
def jxT (g : FuncId) (xs : List Int) (i : Nat) : List AV := [.sl false 0 0 xs.length 1, .fn g [] [], .any, .any, .any, .any, .any, .i false .i64 xs.length, .i false .i64 (Int.ofNat i)] ++ List.replicate 10 .any
def jxN (g : FuncId) (xs : List Int) (i : Nat) : List AV := [.sl false 0 0 xs.length 1, .fn g [] [], .any, .any, .any, .any, .any, .i false .i64 xs.length, .i false .i64 (wrapQ false .i64 (Int.ofNat i + 1))] ++ List.replicate 10 .any
noncomputable def jxU (g : FuncId) (xs : List Int) (i : Nat) : Res := jupto Try.prog tab0 atLoop 100 jxR (jxT g xs i) (lb xs)
theorem jx0_ok (g : FuncId) (xs : List Int) : (condsP (jx0 g xs) [], lfM ixM ((jx0 g xs).at [])) = ([], (true, jxL, (jxT g xs 0).map AV.bare, lb xs, [])) := by kernel_rfl
def inQ (lo hi x : Int) : Bool := cond (leQ false lo x) (leQ false x hi) false
def inJ (lo hi : Int) (xs : List Int) (i : Nat) : Bool := inQ lo hi (xs.getD (0 + (Int.ofNat i).toNat * 1) 0)
def idxJ (xs : List Int) (i : Nat) : List Bool := [decide (0 + (Int.ofNat i).toNat * 1 < (Cells.ints IntKind.i64 xs).len), decide (0 ≤ Int.ofNat i) && decide (Int.ofNat i < ↑xs.length)]
theorem idxJ_ok {xs : List Int} {i : Nat} (h : i < xs.length) : allT (idxJ xs i) = true := by simp [idxJ, allT, Cells.len]; omega
noncomputable def jxS (g : FuncId) (xs : List Int) (i : Nat) := ((condsP (jxU g xs i) [true, false], lfM ixM ((jxU g xs i).at [true, false])), (condsP (jxU g xs i) [false], endOf Try.prog Try.f273.results.toList ((jxU g xs i).at [false])), (condsP (jxU g xs i) [true, true], endOf Try.prog Try.f273.results.toList ((jxU g xs i).at [true, true])))
noncomputable def jxW (g : FuncId) (lo hi : Int) (xs : List Int) (i : Nat) : (List Bool × (Bool × List Item × List AV × List AB × List Bool)) × (List Bool × Option (Option (List AV × List Bool) × List AB × List Bool)) × (List Bool × Option (Option (List AV × List Bool) × List AB × List Bool)) :=
    (([ltQ false (Int.ofNat i) xs.length, !!inJ lo hi xs i], (true, jxR, (jxN g xs i).map AV.bare, lb xs, idxJ xs i)),
     ([!ltQ false (Int.ofNat i) xs.length], some (some ([.i true .i64 (-1)], []), lb xs, [])),
     ([ltQ false (Int.ofNat i) xs.length, !inJ lo hi xs i], some (some ([.i false .i64 (Int.ofNat i)], []), lb xs, idxJ xs i)))
def JxOK (g : FuncId) (lo hi : Int) : Prop := ∀ xs i, jxS g xs i = jxW g lo hi xs i
theorem jx_253 : JxOK 253 0 63 := fun xs i => by kernel_rfl
theorem jx_255 : JxOK 255 (-100000) 100000 := fun xs i => by kernel_rfl
theorem jx_256 : JxOK 256 (-100000) 100000 := fun xs i => by kernel_rfl
theorem indexJ_ok {g : FuncId} {lo hi : Int} (hg : JxOK g lo hi) (xs : List Int) (hx : xs.length ≤ 5000) : CallOK Try.prog 273 [.sl false 0 0 xs.length 1, .fn g [] []] (lb xs) (.i false .i64 (firstN (fun i => !inJ lo hi xs i) xs.length 0)) (lb xs) := by
  have h0 := jx0_ok g xs
  simp only [Prod.mk.injEq] at h0
  have hr := way_reach (P := Try.prog) (T := tab0) (stop := atLoop) (n := 100) (L := [.code jxC]) (R := [.code jxC]) (p := []) (t0 := .sl false 0 0 xs.length 1 :: .fn g [] [] :: undefs 17) (H0 := lb xs) (t' := jxT g xs 0) (H' := lb xs) (M := ixM) (nd := []) (todo' := jxL) tab0_sound rfl (by show allT (condsP (jx0 g xs) []) = true; rw [h0.1]; rfl) h0.2 rfl
  have hs := fun i => hg xs i
  simp only [jxS, jxW, Prod.mk.injEq] at hs
  obtain ⟨t, e1, e2⟩ := scan_go (P := Try.prog) (R := jxR) (S := jxT g xs) (H := lb xs) (rs := Try.f273.results.toList) (len := xs.length) (b := fun i => !inJ lo hi xs i) (bad := fun i => .i false .i64 (Int.ofNat i)) (good := .i true .i64 (-1)) jxR_eq
    (fun i hi hb L hL => by
      obtain ⟨⟨c1, l1⟩, _, _⟩ := hs i
      have := way_reach (P := Try.prog) (T := tab0) (stop := atLoop) (n := 100) (L := L) (R := jxR) (p := [true, false]) (t0 := jxT g xs i) (H0 := lb xs) tab0_sound (hL.trans jxR_eq.symm) (by
        show allT (condsP (jxU g xs i) [true, false]) = true
        rw [c1, ltQ_true hi, hb]; rfl) l1 (idxJ_ok hi)
      have hN : jxN g xs i = jxT g xs (i + 1) := by unfold jxN jxT; rw [ofNat_next (by omega)]
      rwa [hN] at this)
    (fun i hi hb L hL => by
      obtain ⟨_, _, ⟨c1, l1⟩⟩ := hs i
      exact way_ends (P := Try.prog) (T := tab0) (stop := atLoop) (n := 100) (L := L) (R := jxR) (p := [true, true]) (t0 := jxT g xs i) (H0 := lb xs) tab0_sound (hL.trans jxR_eq.symm) (by
        show allT (condsP (jxU g xs i) [true, true]) = true
        rw [c1, ltQ_true hi, hb]; rfl) l1 (idxJ_ok hi))
    (fun L hL => by
      obtain ⟨_, ⟨c1, l1⟩, _⟩ := hs xs.length
      exact way_ends (P := Try.prog) (T := tab0) (stop := atLoop) (n := 100) (L := L) (R := jxR) (p := [false]) (t0 := jxT g xs xs.length) (H0 := lb xs) tab0_sound (hL.trans jxR_eq.symm) (by
        show allT (condsP (jxU g xs xs.length) [false]) = true
        rw [c1, ltQ_same]; rfl) l1 rfl)
    xs.length 0 (by omega) jxL rfl
  have hb : Try.f273.body = some jxC := rfl
  have := call_of_ends (args := [.sl false 0 0 xs.length 1, .fn g [] []]) (m := []) Try.func273 hb (hr.ends e1) e2 rfl
  exact this.weaken fun σ x r => scanV_idx _ _ _ r
end Go.Ax

/- Height maps and wrapped maps: what the code says. -/
namespace Go.Ax
open Go Go.Proofs

theorem call_readA {P : Program} {f : FuncId} {xs : List Int} {v : AV} {pre post : List AV} (h : CallOK P f (pre ++ .sl false 0 0 xs.length 1 :: post) (lb xs) v (lb xs)) (hp : belowL 0 pre = true) (hq : belowL 0 post = true) (hv : below 0 v = true) {H : List AB} {id : Nat} {r l : Bool} (hg : getB H id = .cells r (.ints .i64 xs)) :
    CallOK P f (pre ++ .sl l id 0 xs.length 1 :: post) H v H := by
  have hpl : (pre ++ .sl false 0 0 xs.length 1 :: post).all (plainV (lb xs).length) = true := by
    rw [List.all_append, List.all_cons, plain_lowL hp, plain_lowL hq]; rfl
  have k := h.pick (fun i => by match i with
    | 0 => rfl
    | i + 1 => rfl) hpl [id] rfl H (fun i hi => by
      have : i = 0 := by simp [lb] at hi; exact hi
      subst this
      refine ⟨getB_lt hg, fun σ τ z o hb => ?_⟩
      have e : ([id] : List Nat).getD 0 0 = id := rfl
      rw [e, hg] at hb
      exact ro_ints hb)
  have e1 : (H ++ ((lb xs).drop (lb xs).length).map (mapB (pickI (lb xs).length H.length [id]))) = H := by simp [lb]
  rw [e1, mapV_low _ hv] at k
  refine k.bare ?_
  have e2 : ∀ g (A B : List AV), mapL g (A ++ B) = mapL g A ++ mapL g B := fun g A B => by
    induction A with
    | nil => rfl
    | cons a A ih => simp [mapL, ih]
  rw [e2, mapL_low _ hp]
  have e3 : mapL (pickI (lb xs).length H.length [id]) (.sl false 0 0 xs.length 1 :: post) = .sl false id 0 xs.length 1 :: post := by
    show mapV _ _ :: mapL _ post = _
    rw [mapL_low _ hq]
    rfl
  rw [e3]
  simp [AV.bare]
/-- Bounds that a predicate names. -/
def boundsOf (g : FuncId) : Option (Int × Int) := match Nat.beq g 253 with
  | true => some (0, 63)
  | false => match Nat.beq g 255 || Nat.beq g 256 with
    | true => some (-100000, 100000)
    | false => none
theorem boundsOf_ok {g : FuncId} {lo hi : Int} (h : boundsOf g = some (lo, hi)) : JxOK g lo hi := by
  unfold boundsOf at h
  split at h
  · rename_i e
    have e := Nat.eq_of_beq_eq_true e
    subst e; cases h
    exact jx_253
  · split at h <;> cases h
    rename_i e
    rw [Bool.or_eq_true] at e
    rcases e with e | e
    · have e := Nat.eq_of_beq_eq_true e
      subst e
      exact jx_255
    · have e := Nat.eq_of_beq_eq_true e
      subst e
      exact jx_256
def idxZT : Table := fun _ args H nd K =>
  match args with
  | [a, .fn g [] []] => match intsAt H a, boundsOf g with
    | some (xs, q), some (lo, hi) => K (.i false .i64 (firstN (fun i => !inJ lo hi xs i) xs.length 0)) H (q ++ nd)
    | _, _ => .fail
  | _ => .fail
theorem idx_at : SoundAt Try.prog 273 idxZT := fun args H nd K => by
  unfold idxZT
  split
  case h_2 => exact .inl rfl
  rename_i a g
  split
  case h_2 => exact .inl rfl
  rename_i xs q lo hi h1 h2
  refine .inr ⟨_, _, _, rfl, fun hn => ?_⟩
  rw [allT_append, Bool.and_eq_true] at hn
  obtain ⟨l, id, r, rfl, hg, h5⟩ := intsAt_spec h1 hn.1
  exact ⟨hn.2, call_readA (pre := []) (post := [.fn g [] []]) (indexJ_ok (boundsOf_ok h2) xs h5) rfl rfl rfl hg⟩
noncomputable def tabJ : Table := tabOf (cdeep Try.prog [(273, idxZT)] [178, 172, 175] 2000 6)
theorem tabJ_sound : SoundT Try.prog tabJ := cdeep_sound (allAt_mem (P := Try.prog) (l := [(273, idxZT)]) ⟨idx_at, trivial⟩) 6
noncomputable def resU (T : Table) (f : FuncId) (args : List AV) (H : List AB) : Res := T f args H [] fun v H nd => .ret v H nd
end Go.Ax

/- Height maps and wrapped maps: the contracts. -/
namespace Go.Ax
open Go Go.Proofs

def sdQ (n : Int) : Bool := cond (eqQ false n 1) true (cond (eqQ false n 2) true (cond (eqQ false n 4) true (eqQ false n 8)))
theorem sdQ_eq (n : Int) : sdQ n = sideB n := by
  simp only [sdQ, sideB, eqQ_eq]
  cases n == 1 <;> cases n == 2 <;> cases n == 4 <;> cases n == 8 <;> rfl
/-- Whether all of a list lie between two numbers. -/
def allI (lo hi : Int) (xs : List Int) : Bool := allN (inJ lo hi xs) xs.length 0
theorem inJ_eq (lo hi : Int) (xs : List Int) (i : Nat) : inJ lo hi xs i = true ↔ lo ≤ xs.getD i 0 ∧ xs.getD i 0 ≤ hi := by
  unfold inJ inQ
  rw [leQ_eq, leQ_eq]
  have e : 0 + (Int.ofNat i).toNat * 1 = i := by simp
  rw [e]
  by_cases h : lo ≤ xs.getD i 0 <;> simp
theorem allI_iff {lo hi : Int} {xs : List Int} : allI lo hi xs = true ↔ ∀ i, i < xs.length → lo ≤ xs.getD i 0 ∧ xs.getD i 0 ≤ hi := by
  unfold allI
  rw [allN_iff]
  simp only [Nat.zero_add, inJ_eq]
theorem first_all (lo hi : Int) (xs : List Int) : leQ false 0 (firstN (fun i => !inJ lo hi xs i) xs.length 0) = !allI lo hi xs := by
  have h := firstN_neg (fun i => !inJ lo hi xs i) xs.length 0
  simp only [Bool.not_not] at h
  rw [leQ_eq]
  unfold allI
  rw [← h, Bool.not_not]
/-- Whether a number and a list are a height map. -/
def isMapZ (n : Int) (xs : List Int) : Bool := sideB n && (decide ((xs.length : Int) = n * n) && allI (-100000) 100000 xs)
def wcZ (n : Int) (xs : List Int) : Int := match isMapZ n xs, allI 0 63 xs with
  | false, _ => 1
  | true, false => 5
  | true, true => 0
theorem side_wrap {n : Int} (h : sideB n = true) : wrapQ false .i64 (n * n) = n * n := by
  rcases sideB_iff.1 h with rfl | rfl | rfl | rfl <;> rfl
def szQ (xs : List Int) : List Bool := [true, decide (xs.length = xs.length), decide (xs.length ≤ 5000)]
theorem szQ_ok {xs : List Int} (h : xs.length ≤ 5000) : allT (szQ xs) = true := by simp [szQ, allT, h]
theorem u178 (n : Int) (xs : List Int) : resU tabJ 178 [.i false .i64 n, .sl false 0 0 xs.length 1] (lb xs) =
    .ite (sdQ n) (.ite (eqQ false xs.length (wrapQ false .i64 (n * n))) (.ret (.b false (!leQ false 0 (firstN (fun i => !inJ (-100000) 100000 xs i) xs.length 0))) (lb xs) (szQ xs)) (.ret (.b true false) (lb xs) [])) (.ret (.b true false) (lb xs) []) := by kernel_rfl
theorem call_of_resU {T : Table} (hT : SoundT Try.prog T) {f : FuncId} {args : List AV} {H H' : List AB} {v : AV} {nd : List Bool} (h : (resU T f args H).sel = .ret v H' nd) (hn : allT nd = true) : CallOK Try.prog f args H v H' := call_of_sel hT h hn
theorem isMap_ok (n : Int) (xs : List Int) (hx : xs.length ≤ 5000) : CallOK Try.prog 178 [.i false .i64 n, .sl false 0 0 xs.length 1] (lb xs) (.b false (isMapZ n xs)) (lb xs) := by
  have h := u178 n xs
  cases hs : sideB n with
  | false =>
    rw [sdQ_eq, hs] at h
    have := call_of_resU tabJ_sound (by rw [h]; rfl) rfl
    refine this.weaken fun σ x r => ?_
    have e : isMapZ n xs = false := by simp [isMapZ, hs]
    rw [e]
    cases r; exact .b _
  | true =>
    rw [sdQ_eq, hs, side_wrap hs, eqQ_eq] at h
    by_cases hl : (xs.length : Int) = n * n
    · have e1 : ((xs.length : Int) == n * n) = true := by simpa using hl
      rw [e1, first_all, Bool.not_not] at h
      have := call_of_resU tabJ_sound (by rw [h]; rfl) (szQ_ok hx)
      have e : isMapZ n xs = allI (-100000) 100000 xs := by simp [isMapZ, hs, hl]
      rw [e]
      exact this
    · have e1 : ((xs.length : Int) == n * n) = false := by simpa using hl
      rw [e1] at h
      have := call_of_resU tabJ_sound (by rw [h]; rfl) rfl
      refine this.weaken fun σ x r => ?_
      have e : isMapZ n xs = false := by simp [isMapZ, hl]
      rw [e]
      cases r; exact .b _
end Go.Ax
