/- Halftones of both sides: the same. -/
import Derived.Test.YtdcjjibekhcplaaGreatBbf
namespace Go.Ax
open Go Go.Proofs Ieee

theorem fsub_absorb {x y : Nat} (h : feq .f32 (fsub .f32 (fsub .f32 x y) (fsub .f32 x y)) 0 = true) : ∃ a, fint x = some a := by
  rcases read_form x with ⟨s, m, r, e, _⟩ | ⟨s, e⟩ | ⟨s, t, e⟩
  · exact ⟨_, fint_of e⟩
  · exfalso
    have key : fsub .f32 x y = qnan .f32 ∨ fsub .f32 x y = single.word s single.infRung := by
      unfold fsub Format.sub
      rw [show FloatKind.f32.format = single from rfl, e]
      cases single.read y with
      | number t n j => exact .inr rfl
      | infinity t =>
        by_cases hst : s = !t
        · subst hst
          right
          simp [Datum.opposite, Datum.sum, Format.write]
        · left
          simp [Datum.opposite, Datum.sum, hst]
      | nan t n => exact .inl rfl
    rcases key with k | k
    · rw [k, qnan_not] at h; cases h
    · rw [k, inf_not] at h; cases h
  · exfalso
    have key : fsub .f32 x y = qnan .f32 := by
      unfold fsub Format.sub
      rw [show FloatKind.f32.format = single from rfl, e]; rfl
    rw [key, qnan_not] at h; cases h
theorem htR_fin {t v : Nat} (h : finB (htR t v) = true) : finB v = true := by
  unfold htR at h
  cases ho : fge .f32 v t with
  | false => rw [ho] at h; exact h
  | true => rw [ho] at h; exact finB_iff.2 (fsub_absorb h)
theorem hu_all (B0 : AB) (t : Nat) (S : Nat → Nat) (Y : Nat → Nat × Nat) {n : Int} (hn : n ∈ ([1, 2, 4, 8] : List Int)) {k : Nat} (hk : k < n.toNat * n.toNat) : huL B0 t S Y n k = huQ B0 t S Y n k := by
  simp only [List.mem_cons, List.not_mem_nil, or_false] at hn
  rcases hn with rfl | rfl | rfl | rfl
  · exact list_map_eq (hu_1 B0 t S Y) (List.mem_range.2 hk)
  · exact list_map_eq (hu_2 B0 t S Y) (List.mem_range.2 hk)
  · exact list_map_eq (hu_4 B0 t S Y) (List.mem_range.2 hk)
  · exact list_map_eq (hu_8 B0 t S Y) (List.mem_range.2 hk)
theorem hiY_zero {n t : Nat} {X : Nat → Nat} : ∀ k j, k ≤ j → hiY n t X k j = (0, 0)
  | 0, _, _ => rfl
  | k + 1, j, h => by
    have hb : Nat.beq j k = false := by
      cases hb : Nat.beq j k with
      | false => rfl
      | true => have := Nat.eq_of_beq_eq_true hb; omega
    simp only [hiY, htY, hb]
    exact hiY_zero k j (by omega)
theorem hqW_eq {o : Bool} {n : Int} {k : Nat} {Y : Nat → Nat × Nat} (h : Y k = (0, 0)) : hqW o n k Y = wcells n (htY o k Y) := by
  unfold hqW wcells waveL
  congr 3
  apply List.map_congr_left
  intro j _
  cases hb : Nat.beq j k with
  | false => simp [cx, htY, hb]
  | true =>
    have := Nat.eq_of_beq_eq_true hb
    subst this
    simp only [cx, htY, hb, h]
    cases o <;> rfl
section
variable (B0 : AB) (t : Nat) (X : Nat → Nat)
noncomputable def gd (n t : Nat) (X : Nat → Nat) (k : Nat) : Bool := finB (htR t (hiS n t X k k))
noncomputable def hqG (n : Int) (k : Nat) : List AB := hqH B0 (hiS n.toNat t X k) (wcells n (hiY n.toNat t X k))
theorem hq_cell {n : Int} (hn : n ∈ ([1, 2, 4, 8] : List Int)) {k : Nat} (hk : k < n.toNat * n.toNat) {L : List Item} (hL : toLp L = hqR) (hg : gd n.toNat t X k = true) : Reach Tryz.prog L (hqT n t k) (hqG B0 t X n k) hqR (hqT n t (k + 1)) (hqG B0 t X n (k + 1)) := by
  have h := hu_all B0 t (hiS n.toNat t X k) (hiY n.toNat t X k) hn hk
  simp only [huL, huQ, Prod.mk.injEq] at h
  obtain ⟨_, _, c1, c2⟩ := h
  rw [hqW_eq (hiY_zero k k (Nat.le_refl _))] at c2
  unfold gd at hg
  exact way_reach (P := Tryz.prog) (T := tabPc) (stop := atLoop) (n := 400) (L := L) (R := hqR) (p := [false, false]) (t0 := hqT n t k) (H0 := hqG B0 t X n k) tabPc_sound (hL.trans hqR_eq.symm) (by
    show allT (condsP (hqU n t k (hqG B0 t X n k)) [false, false]) = true
    unfold hqG
    rw [c1, hg, htR_fin hg]; rfl) (M := hqM) (t' := hqT n t (k + 1)) c2 rfl
theorem hq_bad {n : Int} (hn : n ∈ ([1, 2, 4, 8] : List Int)) {k : Nat} (hk : k < n.toNat * n.toNat) {L : List Item} (hL : toLp L = hqR) (hg : gd n.toNat t X k = false) :
    ∃ u H', Ends Tryz.prog L (hqT n t k) (hqG B0 t X n k) u H' ∧ resV Tryz.prog u H' Tryz.f122.results.toList = some ([.agg (.i true .i64 0 :: List.replicate 64 (.c true .f32 0 0)), .i true .i64 3], []) := by
  have h := hu_all B0 t (hiS n.toNat t X k) (hiY n.toNat t X k) hn hk
  simp only [huL, huQ, Prod.mk.injEq] at h
  obtain ⟨⟨a1, a2⟩, ⟨b1, b2⟩, _⟩ := h
  unfold gd at hg
  have key : ∀ {p conds : List Bool} {x : Option (Option (List AV × List Bool) × List Bool)}, condsP (hqU n t k (hqH B0 (hiS n.toNat t X k) (wcells n (hiY n.toNat t X k)))) p = conds → allT conds = true → endV Tryz.prog Tryz.f122.results.toList ((hqU n t k (hqH B0 (hiS n.toNat t X k) (wcells n (hiY n.toNat t X k)))).at p) = some (some ([.agg (.i true .i64 0 :: List.replicate 64 (.c true .f32 0 0)), .i true .i64 3], []), []) →
      ∃ u H', Ends Tryz.prog L (hqT n t k) (hqG B0 t X n k) u H' ∧ resV Tryz.prog u H' Tryz.f122.results.toList = some ([.agg (.i true .i64 0 :: List.replicate 64 (.c true .f32 0 0)), .i true .i64 3], []) := fun {p conds x} hc ht he => by
    unfold endV at he
    split at he <;> cases he
    rename_i hx
    obtain ⟨u, e1, e2⟩ := way_ends (P := Tryz.prog) (T := tabPc) (stop := atLoop) (n := 400) (L := L) (R := hqR) (p := p) (t0 := hqT n t k) (H0 := hqG B0 t X n k) tabPc_sound (hL.trans hqR_eq.symm) (by
      show allT (condsP (hqU n t k (hqH B0 (hiS n.toNat t X k) (wcells n (hiY n.toNat t X k)))) p) = true
      rw [hc]; exact ht) hx rfl
    exact ⟨u, _, e1, e2⟩
  cases hf : finB (hiS n.toNat t X k k) with
  | false => exact key (x := none) a1 (by rw [hf]; rfl) a2
  | true => exact key (x := none) b1 (by rw [hf, hg]; rfl) b2
theorem hq_cells {n : Int} (hn : n ∈ ([1, 2, 4, 8] : List Int)) {L : List Item} (hL : toLp L = hqR) : ∀ k, k ≤ n.toNat * n.toNat → (∀ j, j < k → gd n.toNat t X j = true) → ∃ L', toLp L' = hqR ∧ Reach Tryz.prog L (hqT n t 0) (hqG B0 t X n 0) L' (hqT n t k) (hqG B0 t X n k)
  | 0, _, _ => ⟨L, hL, Reach.refl _ _ _⟩
  | k + 1, hk, hg => by
    obtain ⟨L', h1, h2⟩ := hq_cells hn hL k (by omega) fun j hj => hg j (by omega)
    exact ⟨hqR, hqR_eq, h2.trans (hq_cell B0 t X hn (by omega) h1 (hg k (by omega)))⟩
end
theorem gd_cases (g : Nat → Bool) : ∀ N, (∀ j, j < N → g j = true) ∨ ∃ k, k < N ∧ (∀ j, j < k → g j = true) ∧ g k = false
  | 0 => .inl fun j h => by omega
  | N + 1 => by
    rcases gd_cases g N with h | ⟨k, h1, h2, h3⟩
    · cases hg : g N with
      | true =>
        refine .inl fun j hj => ?_
        rcases Nat.lt_or_eq_of_le (Nat.le_of_lt_succ hj) with h' | rfl
        · exact h j h'
        · exact hg
      | false => exact .inr ⟨N, by omega, h, hg⟩
    · exact .inr ⟨k, by omega, h2, h3⟩
theorem hiC_good {n t : Nat} {X : Nat → Nat} : ∀ k, (∀ j, j < k → gd n t X j = true) → hiC n t X 0 k = 0
  | 0, _ => rfl
  | k + 1, h => by
    have h1 := h k (by omega)
    unfold gd at h1
    simp only [hiC, htC, h1]
    exact hiC_good k fun j hj => h j (by omega)
theorem hiC_bad {n t : Nat} {X : Nat → Nat} {k0 : Nat} (h0 : gd n t X k0 = false) : ∀ k, k0 < k → hiC n t X 0 k = 3
  | 0, h => by omega
  | k + 1, h => by
    unfold gd at h0
    rcases Nat.lt_or_eq_of_le (Nat.le_of_lt_succ h) with h' | rfl
    · simp only [hiC, htC]
      cases finB (htR t (hiS n t X k k)) with
      | true => exact hiC_bad (by unfold gd; exact h0) k h'
      | false => rfl
    · simp only [hiC, htC, h0]; rfl
theorem sf_call {n : Int} {X : Nat → Nat} {t : Nat} {u : List AV} {H' : List AB} {a : List AV} {l : Bool} {k : Int} (he : Ends Tryz.prog [.code sfC] (pvT true n X :: .f false .f32 t :: undefs 93) [] u H') (hr : resV Tryz.prog u H' Tryz.f122.results.toList = some ([.agg a, .i l .i64 k], [])) (ha : belowL 0 a = true) (H : List AB) :
    CallOK Tryz.prog 122 [pv n X, .f false .f32 t] H (.tup [.agg a, .i l .i64 k]) H := by
  have h := call_of_ends (args := [pvT true n X, .f false .f32 t]) (m := []) Tryz.func122 (rfl : Tryz.f122.body = some sfC) he hr rfl
  exact (h.lift (by show below 0 (.tup [.agg a, .i l .i64 k]) = true; simp [below, belowL, ha]) (by simp [belowL, below, pvT_low]) H rfl).deep (args' := [pv n X, .f false .f32 t]) rfl
theorem n122 (n : Int) (X : Nat → Nat) (t : Nat) : joinR 0 (tabPn 122 [pvT false n X, .f false .f32 t] [] [] fun v H nd => .ret v H nd) = some (zeroV 1, [!sideB n]) := by kernel_rfl
theorem hs_ok (n : Int) (X : Nat → Nat) (t : Nat) (H : List AB) : CallOK Tryz.prog 122 [pv n X, .f false .f32 t] H (htV n X t) H := by
  cases hs : sideB n with
  | false =>
    have hK : htK n X t = 1 := by unfold htK pBad; rw [noSide_pic hs]; rfl
    refine ((call_of_join tabPn_sound (n122 n X t) (by simp [allT, hs]) (by simp [belowL, below, pvT_low]) H).deep (args' := [pv n X, .f false .f32 t]) rfl).weaken fun σ x r => ?_
    exact hf_zero (l := true) hK rfl r
  | true =>
    obtain ⟨hm, hd⟩ := side_mem hs
    have h0 := sf0_ok _ n hd X t
    simp only [Prod.mk.injEq] at h0
    obtain ⟨⟨a1, a2⟩, ⟨b1, b2⟩, c1, c2⟩ := h0
    have hP : pBad n (reP X) t = pBad n X t := by unfold pBad; rw [isPicB_re]
    rw [hP] at a1 b1 c1
    cases hb : pBad n X t with
    | true =>
      obtain ⟨u, H', e1, e2⟩ := endV_ends (stop := atReg 5) (n := 400) (L := [.code sfC]) (p := [true]) (t0 := pvT true n X :: .f false .f32 t :: undefs 93) (H0 := []) tabPc_sound (by
        show allT (condsP (sf0 n X t) [true]) = true
        rw [a1, hb]; rfl) a2 rfl
      exact (sf_call e1 e2 zeros_low H).weaken fun σ x r => hf_zero (by unfold htK; rw [hb]; rfl) rfl r
    | false =>
      cases hl : fle .f32 t 0 with
      | true =>
        obtain ⟨u, H', e1, e2⟩ := endV_ends (stop := atReg 5) (n := 400) (L := [.code sfC]) (p := [false, true]) (t0 := pvT true n X :: .f false .f32 t :: undefs 93) (H0 := []) tabPc_sound (by
          show allT (condsP (sf0 n X t) [false, true]) = true
          rw [b1, hb, hl]; rfl) b2 rfl
        exact (sf_call e1 e2 zeros_low H).weaken fun σ x r => hf_zero (by unfold htK; rw [hb, hl]; rfl) rfl r
      | false =>
        have hK : htK n X t = hiC n.toNat t X 0 (n.toNat * n.toNat) := by unfold htK; rw [hb, hl]; rfl
        have r1 := way_reach (P := Tryz.prog) (T := tabPc) (stop := atReg 5) (n := 400) (L := [.code sfC]) (R := [.code sfC]) (p := [false, false]) (t0 := pvT true n X :: .f false .f32 t :: undefs 93) (H0 := []) tabPc_sound rfl (by
          show allT (condsP (sf0 n X t) [false, false]) = true
          rw [c1, hb, hl]; rfl) (M := sfM2) (t' := sfT2 t) (todo' := sfL) (H' := sfH2 n X) (nd := []) c2 rfl
        rw [sfL_eq] at r1
        obtain ⟨o1, o2, o3⟩ := sf_ops
        have r2 := boxes2_way (P := Tryz.prog) (T := tabPc) (ops := sfOps) tabPc_sound (by kernel_rfl) 11 10 7 [8] (Nat.le_of_ble_eq_true o1) (by decide) (by decide) (by decide) o2 o3 (id := 5) (k := sfK) (t := sfT2 t) (t' := sfT5 n t) (H := sfH2 n X) (H' := hqH (hfB n X) X (wzero n)) (M := sfM5) (nd := []) (by
          intro e he
          simp only [List.mem_cons, List.not_mem_nil, or_false] at he
          rcases he with rfl | rfl <;> exact ⟨by kernel_rfl, by kernel_rfl⟩) (by
          have : ∀ (l : List Nat), belowL 2 (l.map (fx X)) = true := fun l => by
            induction l with
            | nil => rfl
            | cons j l ih => simp [belowL, below, fx, ih]
          have h0 : lowB 2 (wzero 0) = true := by kernel_rfl
          simp only [List.length_cons, List.length_nil, sfH2, lowH, h0, Bool.and_true]
          simp [lowB, hfB, belowL, below, this]) (B1 := wzero n) ⟨rfl, by simp [lowB, wzero, belowL, below]⟩ (R := sf5 n X t) rfl (sf5_ok _ n hd X t) (sf6_ok _ n hd X t) rfl
        have h3 := hq0_ok n t (hqH (hfB n X) X (wzero n))
        simp only [Prod.mk.injEq] at h3
        have r3 := way_reach (P := Tryz.prog) (T := tabPc) (stop := atLoop) (n := 400) (L := sfK) (R := sfK) (p := []) (t0 := sfT5 n t) (H0 := hqH (hfB n X) X (wzero n)) tabPc_sound rfl (by
          show allT (condsP (hq0 n t _) []) = true
          rw [h3.1]; rfl) (M := hqM) (t' := hqT n t 0) (todo' := hqL) (nd := []) h3.2 rfl
        have r4 := ((r1.trans r2).trans r3).post (H' := hqG (hfB n X) t X n 0) (by
          unfold hqG hqH
          refine HEq.cons ⟨rfl, rfl, fun _ _ _ h => h⟩ (HEq.cons ⟨rfl, rfl, fun _ _ _ h => h⟩ (HEq.cons (blk_bare (by rfl)) (HEq.refl _))))
        rcases gd_cases (gd n.toNat t X) (n.toNat * n.toNat) with hg | ⟨k, hk, hg, hbad⟩
        · obtain ⟨L', hL', r5⟩ := hq_cells (hfB n X) t X hm (L := hqL) rfl _ (Nat.le_refl _) hg
          have he := hqE_ok _ n hd (hfB n X) t (hiS n.toNat t X (n.toNat * n.toNat)) (hiY n.toNat t X (n.toNat * n.toNat))
          simp only [Prod.mk.injEq] at he
          obtain ⟨he1, he2⟩ := he
          unfold endV at he2
          split at he2 <;> cases he2
          rename_i hx
          obtain ⟨u, e1, e2⟩ := way_ends (P := Tryz.prog) (T := tabPc) (stop := atCut 99) (n := 400) (L := L') (R := hqR) (p := []) (t0 := hqT n t (n.toNat * n.toNat)) (H0 := hqG (hfB n X) t X n (n.toNat * n.toNat)) tabPc_sound (hL'.trans hqR_eq.symm) (by
            show allT (condsP (hqE n t _ _) []) = true
            exact (congrArg allT he1).trans rfl) hx rfl
          have hz : htK n X t = 0 := by rw [hK]; exact hiC_good _ hg
          refine (sf_call ((r4.trans r5).ends e1) e2 (waveL_low _ _) H).weaken fun σ x q => ?_
          have eq0 : eqQ false (htK n X t) 0 = true := by rw [hz]; rfl
          have eW : htW n X t = hiY n.toNat t X (n.toNat * n.toNat) := funext fun j => by unfold htW; rw [eq0]
          unfold htV
          rw [eW, eq0, hz]
          exact tup2_weak (c := .i true .i64 0) (c' := .i false .i64 0) rfl rfl q
        · obtain ⟨L', hL', r5⟩ := hq_cells (hfB n X) t X hm (L := hqL) rfl k (by omega) hg
          obtain ⟨u, H', e1, e2⟩ := hq_bad (hfB n X) t X hm hk hL' hbad
          have hz : htK n X t = 3 := by rw [hK]; exact hiC_bad hbad _ hk
          exact (sf_call ((r4.trans r5).ends e1) e2 zeros_low H).weaken fun σ x q => hf_zero hz rfl q
end Go.Ax

/- Halftones without signed zeros: calls. -/
namespace Go.Ax
open Go Go.Proofs

structure HG2 where
  k : Int → (Nat → Nat) → Nat → Int
  w : Int → (Nat → Nat) → Nat → Nat → Nat × Nat
noncomputable def hG2 : HG2 := ⟨htK, htW⟩
def htVG (G : HG2) (n : Int) (X : Nat → Nat) (t : Nat) : AV := .tup [wv (cond (eqQ false (G.k n X t) 0) n 0) (G.w n X t), .i false .i64 (G.k n X t)]
noncomputable def gHt (G : HG2) : List AV → Option (AV × List Bool)
  | [.agg l, .f _ .f32 t] => match ofP l with
    | some (n, X) => some (htVG G n X t, [])
    | none => none
  | _ => none
theorem gHt_at (f : FuncId) (hf : f = 121 ∨ f = 122) : SoundAt Tryz.prog f (pureT (gHt hG2)) := fun args H nd K => by
  refine pureT_sound (fun args v n h hn H => ?_) args H nd K
  unfold gHt at h
  split at h <;> (try (cases h; done))
  split at h <;> cases h
  rename_i l l1 t _ n0 X0 hl
  have k : CallOK Tryz.prog f [pv n0 X0, .f false .f32 t] H (htVG hG2 n0 X0 t) H := by
    rcases hf with rfl | rfl
    · exact ht_ok n0 X0 t H
    · exact hs_ok n0 X0 t H
  exact k.deep (by simp only [List.map_cons, ofP_spec hl]; rfl)
noncomputable def rowsHh (G : HG2) : List (FuncId × Table) := [(121, pureT (gHt G)), (122, pureT (gHt G))]
theorem rowsHh_at : ∀ p ∈ rowsHh hG2, SoundAt Tryz.prog p.1 p.2 := fun p hp => by
  simp only [rowsHh, List.mem_cons, List.not_mem_nil, or_false] at hp
  rcases hp with rfl | rfl
  · exact gHt_at 121 (.inl rfl)
  · exact gHt_at 122 (.inr rfl)
noncomputable def tabHh (G : HG2) : Table := tabOf (jdeep Tryz.prog (rowsHh G) [] 4000 10)
theorem tabHh_sound : SoundT Tryz.prog (tabHh hG2) := jdeep_sound rowsHh_at 10
def haV (G : HG2) (n : Int) (X : Nat → Nat) (t : Nat) : AV := .tup [wv (cond (eqQ false (G.k n X t) 0) n 0) (fun j => (plusF (G.w n X t j).1, plusF (G.w n X t j).2)), .i false .i64 (G.k n X t)]
theorem p61 (G : HG2) (n : Int) (X : Nat → Nat) (t : Nat) : joinR 0 (tabHh G 61 [pvT false n X, .f false .f32 t] [] [] fun v H nd => .ret v H nd) = some (haV G n (reP X) t, []) := by kernel_rfl
theorem p62 (G : HG2) (n : Int) (X : Nat → Nat) (t : Nat) : joinR 0 (tabHh G 62 [pvT false n X, .f false .f32 t] [] [] fun v H nd => .ret v H nd) = some (haV G n (reP X) t, []) := by kernel_rfl
theorem ht_re (n : Int) (X : Nat → Nat) (t : Nat) : htK n (reP X) t = htK n X t ∧ htW n (reP X) t = htW n X t := by
  have hP : pBad n (reP X) t = pBad n X t := by unfold pBad; rw [isPicB_re]
  cases hs : sideB n with
  | false =>
    have hb : pBad n X t = true := by unfold pBad; rw [noSide_pic hs]; rfl
    have e : htK n (reP X) t = htK n X t := by unfold htK; rw [hP, hb]; rfl
    refine ⟨e, funext fun j => ?_⟩
    have e1 : htK n X t = 1 := by unfold htK; rw [hb]; rfl
    unfold htW
    rw [e, e1]; rfl
  | true =>
    obtain ⟨_, hN⟩ := side_N hs
    have e : htK n (reP X) t = htK n X t := by unfold htK; rw [hP, hiC_re _ hN]
    refine ⟨e, funext fun j => ?_⟩
    unfold htW
    rw [e, hiY_re _ hN]
noncomputable def haR (n : Int) (X : Nat → Nat) (t : Nat) : AV := haV hG2 n X t
theorem half_ok (f : FuncId) (hf : f = 61 ∨ f = 62) (n : Int) (X : Nat → Nat) (t : Nat) (H : List AB) : CallOK Tryz.prog f [pv n X, .f false .f32 t] H (haR n X t) H := by
  have e : haV hG2 n (reP X) t = haR n X t := by
    obtain ⟨e1, e2⟩ := ht_re n X t
    unfold haR haV
    show AV.tup [wv (cond (eqQ false (htK n (reP X) t) 0) n 0) (fun j => (plusF (htW n (reP X) t j).1, plusF (htW n (reP X) t j).2)), .i false .i64 (htK n (reP X) t)] = _
    rw [e1, e2]; rfl
  have hlow : belowL 0 [pvT false n X, .f false .f32 t] = true := by simp [belowL, below, pvT_low]
  rcases hf with rfl | rfl
  · have k := (call_of_join (args := [pvT false n X, .f false .f32 t]) tabHh_sound (p61 hG2 n X t) rfl hlow H).deep (args' := [pv n X, .f false .f32 t]) rfl
    rwa [e] at k
  · have k := (call_of_join (args := [pvT false n X, .f false .f32 t]) tabHh_sound (p62 hG2 n X t) rfl hlow H).deep (args' := [pv n X, .f false .f32 t]) rfl
    rwa [e] at k
end Go.Ax

/- Floats of one value do alike. -/
namespace Go.Ax
open Go Ieee

theorem signed_zero (s : Bool) (k : Nat) : signed s 0 k = 0 := by rw [signed_eq]; cases s <;> simp
theorem read_uniq {y z : Nat} {c : Int} (hy : fint y = some c) (hz : fint z = some c) : ∃ s t m r, single.read y = .number s m (-149 + (r : Nat)) ∧ single.read z = .number t m (-149 + (r : Nat)) ∧ (m ≠ 0 → s = t) := by
  obtain ⟨s, m, r, e1, h1, m1, l1, r1⟩ := fint_form hy
  obtain ⟨t, n, q, e2, h2, n1, l2, q1⟩ := fint_form hz
  have hmag : m * 2 ^ r = n * 2 ^ q := by
    rw [h2, signed_eq, signed_eq] at h1
    have p1 : (0 : Int) ≤ (m : Int) * 2 ^ r := Int.mul_nonneg (by omega) (Int.le_of_lt (pow_pos' _))
    have p2 : (0 : Int) ≤ (n : Int) * 2 ^ q := Int.mul_nonneg (by omega) (Int.le_of_lt (pow_pos' _))
    have : (m : Int) * 2 ^ r = (n : Int) * 2 ^ q := by cases s <;> cases t <;> simp at h1 <;> omega
    exact_mod_cast this
  have hk : r * 8388608 + m = q * 8388608 + n := by
    have v1 := valU_canon m1 l1
    have v2 := valU_canon n1 l2
    have hinj : ∀ a b : Nat, a < b → valU a < valU b := fun a b hab => by
      have hs : valU a < valU (a + 1) := by
        unfold valU
        by_cases c1 : a + 1 < 8388608
        · rw [if_pos (by omega), if_pos c1]; omega
        · rw [if_neg c1]
          by_cases c2 : a < 8388608
          · rw [if_pos c2]
            have : a = 8388607 := by omega
            subst this
            decide
          · rw [if_neg c2]
            have hp : 0 < 2 ^ (a / 8388608 - 1) := Nat.two_pow_pos _
            rcases Nat.lt_or_ge (a % 8388608 + 1) 8388608 with h3 | h3
            · have e1 : (a + 1) / 8388608 = a / 8388608 := by omega
              have e2 : (a + 1) % 8388608 = a % 8388608 + 1 := by omega
              rw [e1, e2]
              exact Nat.mul_lt_mul_of_pos_right (by omega) hp
            · have e1 : (a + 1) / 8388608 - 1 = (a / 8388608 - 1) + 1 := by omega
              have e2 : (a + 1) % 8388608 = 0 := by omega
              rw [e1, e2, Nat.add_zero, Nat.pow_succ, ← Nat.mul_assoc, Nat.mul_right_comm]
              exact Nat.mul_lt_mul_of_pos_right (by omega) hp
      exact Nat.lt_of_lt_of_le hs (valU_mono hab)
    rcases Nat.lt_trichotomy (r * 8388608 + m) (q * 8388608 + n) with h | h | h
    · have := hinj _ _ h; rw [v1, v2, hmag] at this; omega
    · exact h
    · have := hinj _ _ h; rw [v1, v2, hmag] at this; omega
  have hrq : r = q := by
    rcases Nat.lt_trichotomy r q with h | h | h
    · have h3 : 8388608 ≤ n := by rcases l2 with h | h <;> omega
      omega
    · exact h
    · have h3 : 8388608 ≤ m := by rcases l1 with h | h <;> omega
      omega
  subst hrq
  have hmn : m = n := by omega
  subst hmn
  refine ⟨s, t, m, r, e1, e2, fun hm => ?_⟩
  rw [h2, signed_eq, signed_eq] at h1
  have p1 : (0 : Int) < (m : Int) * 2 ^ r := Int.mul_pos (by omega) (pow_pos' _)
  cases s <;> cases t <;> simp at h1 <;> first | rfl | omega
theorem sum_same {s u u' : Bool} {m r q : Nat} (hm : m ≠ 0) : ((Datum.number s m (-149 + (r : Nat))).sum (.number u 0 (-149 + (q : Nat)))).map single.write = ((Datum.number s m (-149 + (r : Nat))).sum (.number u' 0 (-149 + (q : Nat)))).map single.write := by
  simp only [Datum.sum, signed_zero, Int.add_zero]
  have hT : ∀ k, signed s m k ≠ 0 := fun k => by
    rw [signed_eq]
    have p1 : (0 : Int) < (m : Int) * 2 ^ k := Int.mul_pos (by omega) (pow_pos' _)
    generalize (m : Int) * 2 ^ k = z at p1 ⊢
    cases s <;> simp <;> omega
  rw [if_neg (hT _), if_neg (hT _)]
theorem fadd_same {t y z : Nat} {a c : Int} (ht : fint t = some a) (ha : 0 < a) (hy : fint y = some c) (hz : fint z = some c) : fadd .f32 t y = fadd .f32 t z := by
  obtain ⟨s, m, r, e, ha', _⟩ := form_nonneg ht (by omega)
  have hm : m ≠ 0 := by rintro rfl; simp at ha'; omega
  obtain ⟨u, u', n, q, e1, e2, hs⟩ := read_uniq hy hz
  unfold fadd Format.add
  rw [show FloatKind.f32.format = single from rfl, e, e1, e2]
  by_cases hn : n = 0
  · subst hn
    rw [sum_same (u := u) (u' := u') hm]
  · rw [hs hn]
theorem fsub_same {t y z : Nat} {a c : Int} (ht : fint t = some a) (ha : 0 < a) (hy : fint y = some c) (hz : fint z = some c) : fsub .f32 t y = fsub .f32 t z := by
  obtain ⟨s, m, r, e, ha', _⟩ := form_nonneg ht (by omega)
  have hm : m ≠ 0 := by rintro rfl; simp at ha'; omega
  obtain ⟨u, u', n, q, e1, e2, hs⟩ := read_uniq hy hz
  unfold fsub Format.sub
  rw [show FloatKind.f32.format = single from rfl, e, e1, e2]
  by_cases hn : n = 0
  · subst hn
    show (((Datum.number s m (-149 + (r : Nat))).sum (.number (!u) 0 (-149 + (q : Nat)))).map single.write).getD _ = (((Datum.number s m (-149 + (r : Nat))).sum (.number (!u') 0 (-149 + (q : Nat)))).map single.write).getD _
    rw [sum_same (u := !u) (u' := !u') hm]
  · rw [hs hn]
end Go.Ax

/- Contrasts: calls. -/
namespace Go.Ax
open Go Go.Proofs

theorem fminA_fint {x y : Nat} {a b : Int} (hx : fint x = some a) (hy : fint y = some b) : fminA .f32 x y = if a < b then x else if b < a then y else if (FloatKind.f32.decode x).neg then x else y := by
  unfold fminA
  rw [show FloatKind.f32.format = Ieee.single from rfl, order_fint hx hy]
  simp only [compare, compareOfLessAndEq]
  by_cases h1 : a < b
  · simp [h1]
  · by_cases h2 : a = b
    · subst h2; simp
    · have : b < a := by omega
      simp [h1, h2, this]
theorem bot_rel {n : Int} {X : Nat → Nat} (h : isPicB n X = true) : ∀ k, k < 64 → ∃ v : Int, fint (botI X k) = some v ∧ fint (botS X k) = some v
  | 0, hk => by
    obtain ⟨a, ha, _⟩ := pic_fint h hk
    exact ⟨a, ha, ha⟩
  | k + 1, hk => by
    obtain ⟨v, e1, e2⟩ := bot_rel h k (by omega)
    obtain ⟨b, hb, _⟩ := pic_fint h hk
    have eI : botI X (k + 1) = if v < b then botI X k else if b < v then X (k + 1) else if (FloatKind.f32.decode (botI X k)).neg then botI X k else X (k + 1) := by rw [botI, fminA_fint e1 hb]
    have eS : botS X (k + 1) = cond (decide (b < v)) (X (k + 1)) (botS X k) := by rw [botS, flt_fint hb e2]
    by_cases h1 : b < v
    · rw [eI, eS, if_neg (by omega), if_pos h1, decide_eq_true h1]
      exact ⟨b, hb, hb⟩
    · have hS : botS X (k + 1) = botS X k := by rw [eS, decide_eq_false h1]; rfl
      rw [eI, hS]
      by_cases h2 : v < b
      · rw [if_pos h2]; exact ⟨v, e1, e2⟩
      · have hbv : b = v := by omega
        subst hbv
        rw [if_neg h2, if_neg h1]
        refine ⟨b, ?_, e2⟩
        split
        · exact e1
        · exact hb
noncomputable def conF (n : Int) (X : Nat → Nat) : Nat := cond (eqQ false (tcC (isPicB n X) (n.toNat * n.toNat) X) 0) (cond (finB (fadd .f32 (topI X (n.toNat * n.toNat - 1)) (botI X (n.toNat * n.toNat - 1)))) (conS (topI X (n.toNat * n.toNat - 1)) (botI X (n.toNat * n.toNat - 1))) 0) 0
noncomputable def conK (n : Int) (X : Nat → Nat) : Int := cond (eqQ false (tcC (isPicB n X) (n.toNat * n.toNat) X) 0) (cond (finB (fadd .f32 (topI X (n.toNat * n.toNat - 1)) (botI X (n.toNat * n.toNat - 1)))) 0 3) (tcC (isPicB n X) (n.toNat * n.toNat) X)
noncomputable def conT (n : Int) (X : Nat → Nat) : AV := .tup [.f false .f32 (conF n X), .i false .i64 (conK n X)]
theorem conR_eq (n : Int) (X : Nat → Nat) : conR n X = conT n X := by
  unfold conR conT conF conK
  cases eqQ false (tcC (isPicB n X) (n.toNat * n.toNat) X) 0 with
  | false => rfl
  | true => cases finB (fadd .f32 (topI X (n.toNat * n.toNat - 1)) (botI X (n.toNat * n.toNat - 1))) <;> rfl
noncomputable def gConT : List AV → Option (AV × List Bool)
  | [.agg l] => match ofP l with
    | some (n, X) => some (conT n X, [])
    | none => none
  | _ => none
theorem conT_at : SoundAt Tryz.prog 106 (pureT gConT) := fun args H nd K => by
  refine pureT_sound (fun args v n h hn H => ?_) args H nd K
  unfold gConT at h
  split at h <;> (try (cases h; done))
  split at h <;> cases h
  rename_i n0 X0 hl
  have k := con_ok n0 X0 H
  rw [conR_eq] at k
  exact k.deep (by simp [ofP_spec hl])
noncomputable def rowsCo : List (FuncId × Table) := [(106, pureT gConT)]
theorem rowsCo_at : ∀ p ∈ rowsCo, SoundAt Tryz.prog p.1 p.2 := fun p hp => by
  simp only [rowsCo, List.mem_cons, List.not_mem_nil, or_false] at hp
  subst hp
  exact conT_at
noncomputable def tabCo : Table := tabOf (jdeep Tryz.prog rowsCo [] 4000 10)
theorem tabCo_sound : SoundT Tryz.prog tabCo := jdeep_sound rowsCo_at 10
theorem p46 (n : Int) (X : Nat → Nat) : joinR 0 (tabCo 46 [pvT false n X] [] [] fun v H nd => .ret v H nd) = some (.tup [.f false .f32 (plusF (conF n (reP X))), .i false .i64 (conK n (reP X))], []) := by kernel_rfl
noncomputable def ctrR (n : Int) (X : Nat → Nat) : AV := .tup [.f false .f32 (plusF (conF n X)), .i false .i64 (conK n X)]
theorem reP_bot {X : Nat → Nat} : ∀ k, k < 64 → botI (reP X) k = botI X k
  | 0, h => reP_eq h
  | k + 1, h => by rw [botI, botI, reP_bot k (by omega), reP_eq h]
theorem con_re (n : Int) (X : Nat → Nat) : conF n (reP X) = conF n X ∧ conK n (reP X) = conK n X := by
  cases hs : sideB n with
  | false =>
    have e : isPicB n X = false := noSide_pic hs
    unfold conF conK
    rw [isPicB_re, e]
    exact ⟨rfl, rfl⟩
  | true =>
    obtain ⟨h1, h2⟩ := side_N hs
    unfold conF conK tcC
    rw [isPicB_re, reP_top _ (by omega), reP_bot _ (by omega)]
    exact ⟨rfl, rfl⟩
theorem ctr_ok (f : FuncId) (hf : f = 46 ∨ f = 47) (n : Int) (X : Nat → Nat) (H : List AB) : CallOK Tryz.prog f [pv n X] H (ctrR n X) H := by
  have hlow : ∀ l, belowL 0 [pvT l n X] = true := fun l => by simp [belowL, pvT_low]
  rcases hf with rfl | rfl
  · have k := (call_of_join (args := [pvT false n X]) tabCo_sound (p46 n X) rfl (hlow _) H).deep (args' := [pv n X]) rfl
    rw [(con_re n X).1, (con_re n X).2] at k
    exact k
  · cases hs : sideB n with
    | false =>
      have e : ctrR n X = .tup [.f false .f32 0, .i false .i64 1] := by
        have : isPicB n X = false := noSide_pic hs
        unfold ctrR conF conK tcC
        rw [this]
        show AV.tup [.f false .f32 (plusF 0), .i false .i64 1] = _
        rw [plus_zero]
      rw [e]
      exact ((call_of_join (args := [pvT false n X]) tabPn_sound (n47 n X) (by simp [allT, hs]) (hlow _) H).deep (args' := [pv n X]) rfl).weaken fun σ x r => tup_bare (by rfl) r
    | true =>
      have hd := side_cases hs
      obtain ⟨h1, h2⟩ := side_N hs
      have k := (call_of_join (args := [pvT true n X]) tabPc_sound (p47 _ n hd X) rfl (hlow _) H).deep (args' := [pv n X]) rfl
      unfold gN at k
      rw [isPicB_re] at k
      unfold ctrR conF conK tcC
      cases hg : isPicB n X with
      | false => rw [hg] at k; exact k
      | true =>
        rw [hg] at k
        obtain ⟨v, v0, e1, e2, e3, _⟩ := top_of hg
        obtain ⟨b, b1, b2⟩ := bot_rel hg (n.toNat * n.toNat - 1) (by omega)
        have ef : feq .f32 (topS X (n.toNat * n.toNat - 1)) 0 = feq .f32 (topI X (n.toNat * n.toNat - 1)) 0 := by rw [feq_zero_fint e1, feq_zero_fint e2]
        rw [ef] at k
        cases hz : feq .f32 (topI X (n.toNat * n.toNat - 1)) 0 with
        | true => rw [hz] at k; exact k
        | false =>
          have hv : v ≠ 0 := by rw [feq_zero_fint e1] at hz; simpa using hz
          rw [hz, ← e3 hv] at k
          have ea := fadd_same e1 (by omega) b1 b2
          have es := fsub_same e1 (by omega) b1 b2
          unfold conS at k ⊢
          rw [← ea, ← es] at k
          cases hf : finB (fadd .f32 (topI X (n.toNat * n.toNat - 1)) (botI X (n.toNat * n.toNat - 1))) <;> rw [hf] at k <;> exact k
end Go.Ax

/- math.Floor of a number. -/
namespace Go.Ax
open Go Go.Proofs

def floorF (x : Nat) : Nat := FloatKind.f64.encode ((FloatKind.f64.decode x).integral .down)
theorem floor_run {y : Nat} (hx : (FloatKind.f64.decode y).isNaN = false) (w : World) : (callFunc 211 #[.float .f64 y]).run Tryz.prog w = .ok (.value (.float .f64 (floorF y))) w := by
  have hg : Tryz.prog.funcs[211]? = some Tryz.f211 := Tryz.func211
  have hname : Tryz.f211.name = "math.archFloor" := rfl
  have horig : Tryz.f211.origin = "" := rfl
  have e1 : Extern.findNext Tryz.f211 = none := by
    unfold Extern.findNext
    simp only [hname, horig]
    have a : Extern.allNextRows.lookup "math.archFloor" = none := by kernel_rfl
    have b : Extern.allNextRows.lookup "" = none := by kernel_rfl
    rw [a, b]; rfl
  have e2 : Extern.find Tryz.f211 = some (Extern.MathFloor.toIntegral "math.archFloor" .down) := by
    unfold Extern.find
    simp only [hname, horig]
    have a : Extern.allGenericRows.lookup "math.archFloor" = none := Option.isNone_iff_eq_none.1 (by kernel_rfl)
    have b : Extern.allTypedRows.lookup "math.archFloor" = none := Option.isNone_iff_eq_none.1 (by kernel_rfl)
    have c : Extern.allRows.lookup "math.archFloor" = some (Extern.MathFloor.toIntegral "math.archFloor" .down) := by kernel_rfl
    rw [a, b, c]; rfl
  have hrun := run_callFunc_extern hg (by rw [hname]; rfl) rfl e1 e2 #[.float .f64 y] w
  have hdef : Extern.MathFloor.toIntegral "math.archFloor" .down #[.float .f64 y] = pure (.float .f64 (floorF y)) := by
    have key : ∀ d, FloatKind.f64.decode y = d → d.isNaN = false → Extern.MathFloor.toIntegral "math.archFloor" .down #[.float .f64 y] = pure (.float .f64 (FloatKind.f64.encode (d.integral .down))) := fun d hd hn => by
      conv => lhs; whnf
      rw [hd]
      cases d with
      | nan s t => cases hn
      | infinity s => rfl
      | number s m i => rfl
    exact key _ rfl hx
  rw [hdef] at hrun
  exact hrun
theorem op_ok {P : Program} {T : Table} {ops : Array Oper} {k : Nat} {o : Oper} {t t' : List AV} {H H' : List AB} {nd : List Bool} (hT : SoundT P T) (ho : ops[k]? = some o) (hg : o.guard = none) (h : stepOp P T o t H [] (fun t H nd => .stop [] t H nd) = .stop [] t' H' nd) (hn : allT nd = true) : OpOK P ops k t H t' H' := by
  rcases stepOp_sound (H := H) hT o t [] (fun t H nd => .stop [] t H nd) with h1 | ⟨t1, H1, nd1, h1, h2⟩
  · rw [h] at h1; cases h1
  · rw [h] at h1
    cases h1
    intro σ w a Q next s r q
    simp only [wpOp, ho]
    rw [if_pos (by simp [Region.wanted, hg])]
    exact .inl ((h2 hn).2 σ w a Q next s r q)
noncomputable def flC : Code := Tryz.f189.body.getD .skip
noncomputable def flZ (x : Nat) : Res := jupto Tryz.prog tabCo (atReg 1) 50 [.code flC] (.f false .f64 x :: undefs 6) []
noncomputable def flLp : List Item := (flZ 0).todo
noncomputable def flOps : Array Oper := match flLp with
  | .code (.region _ ops _) :: _ => ops
  | _ => #[]
noncomputable def flK : List Item := flLp.drop 1
theorem flLp_eq : flLp = .code (.region 1 flOps false) :: flK := by kernel_rfl
def flT (x : Nat) : List AV := tmpsOf 7 [(0, .f false .f64 x)]
def flM : List Bool := maskOf 7 [(0, .f false .f64 0)]
theorem flZ_ok (x : Nat) : (condsP (flZ x) [], lfM flM ((flZ x).at [])) = ([], (true, flLp, (flT x).map AV.bare, [], [])) := by kernel_rfl
theorem flN : flOps.size = 3 := by kernel_rfl
noncomputable def flO (k : Nat) (h : k < 3) : Oper := flOps[k]'(by rw [flN]; exact h)
theorem flO_at (k : Nat) (h : k < 3) : flOps[k]? = some (flO k h) := Array.getElem?_eq_getElem _
def flS (a b c : AV) (x : Nat) : List AV := [.f false .f64 x, .any, a, b, c, .any, .any]
noncomputable def flOp : Op := (flO 1 (by decide)).op
noncomputable def flCall : Option (FuncId × List AV) := match flOp with
  | .call c => aCall c (evA (flS .any (.f false .f64 0) .any 0))
  | _ => none
theorem fl_step0 (x : Nat) : stepOp Tryz.prog tabCo (flO 0 (by decide)) (flT x) [] [] (fun t H nd => .stop [] t H nd) = .stop [] (flS .any (.f false .f64 x) .any x) [] [] := by kernel_rfl
theorem fl_step2 (x y : Nat) : stepOp Tryz.prog tabCo (flO 2 (by decide)) (flS .any (.f false .f64 x) (.f false .f64 y) x) [] [] (fun t H nd => .stop [] t H nd) = .stop [] (flS (.f false .f64 y) (.f false .f64 x) (.f false .f64 y) x) [] [] := by kernel_rfl
theorem fl_op1 (x : Nat) : (match flOp with | .call c => aCall c (evA (flS .any (.f false .f64 x) .any x)) | _ => none) = some (211, [.f false .f64 x]) := by kernel_rfl
theorem fl_dst1 : (flO 1 (by decide)).dst = some 4 := by kernel_rfl
theorem fl_guards : (flO 0 (by decide)).guard = none ∧ (flO 1 (by decide)).guard = none ∧ (flO 2 (by decide)).guard = none := ⟨by kernel_rfl, by kernel_rfl, by kernel_rfl⟩
theorem fl_okd : (flO 1 (by decide)).op.operands.all okOpd = true := by kernel_rfl
theorem fl_call {x : Nat} (hx : (FloatKind.f64.decode x).isNaN = false) : OpOK Tryz.prog flOps 1 (flS .any (.f false .f64 x) .any x) [] (flS .any (.f false .f64 x) (.f false .f64 (floorF x)) x) [] := by
  intro σ w a Q next s r q
  simp only [wpOp, flO_at 1 (by decide)]
  rw [if_pos (by simp [Region.wanted, fl_guards.2.1])]
  refine .inl ?_
  have h1 := fl_op1 x
  cases hop : (flO 1 (by decide)).op
  case call c =>
    have h2 : aCall c (evA (flS .any (.f false .f64 x) .any x)) = some (211, [.f false .f64 x]) := by
      unfold flOp at h1
      rw [hop] at h1
      exact h1
    obtain ⟨rargs, hra, hrun⟩ := call_run (w := w) (P := Tryz.prog) hop h2 (opds_ok fl_okd r)
    obtain ⟨rx, hrx, hrel⟩ := relL_one hra
    have hra' : rargs = #[rx] := by rw [← Array.toArray_toList (xs := rargs), hrx]
    subst hra'
    cases hrel with | f hf =>
    rename_i y
    have hy : y = x := by
      rcases hf with h | ⟨h, _⟩
      · exact h
      · rw [hx] at h; cases h
    subst hy
    show (flO 1 (by decide)).upon Tryz.prog a next Q ((execOp a.eval (flO 1 (by decide))).run Tryz.prog w)
    rw [hrun, floor_run hx]
    have e : flS .any (.f false .f64 y) (.f false .f64 (floorF y)) y = putT (flS .any (.f false .f64 y) .any y) (flO 1 (by decide)).dst (.f false .f64 (floorF y)) := by rw [fl_dst1]; rfl
    rw [e] at q
    exact q _ w σ (r.put (.f FR.rfl')) (put_defers _ _ _) s (Fr.refl _ _ _)
  all_goals (unfold flOp at h1; rw [hop] at h1; cases h1)
theorem fl_region {x : Nat} (hx : (FloatKind.f64.decode x).isNaN = false) : RegionOK Tryz.prog 1 flOps false (flT x) [] (flS (.f false .f64 (floorF x)) (.f false .f64 x) (.f false .f64 (floorF x)) x) [] := fun σ w a Q s r q => by
  have c : Chain Tryz.prog flOps 0 (flT x) [] flOps.size (flS (.f false .f64 (floorF x)) (.f false .f64 x) (.f false .f64 (floorF x)) x) [] := by
    rw [flN]
    exact .cons (op_ok tabCo_sound (flO_at 0 (by decide)) fl_guards.1 (fl_step0 x) rfl) (.cons (fl_call hx) (.cons (op_ok tabCo_sound (flO_at 2 (by decide)) fl_guards.2.2 (fl_step2 x (floorF x)) rfl) .nil))
  refine wp_region ?_
  have := c.wpOps s r q
  rwa [Nat.sub_zero, ← List.range_eq_range'] at this
noncomputable def flE (x y : Nat) : Res := jupto Tryz.prog tabCo (atCut 99) 50 flK (flS (.f false .f64 y) (.f false .f64 x) (.f false .f64 y) x) []
theorem flE_ok (x y : Nat) : (condsP (flE x y) [], endV Tryz.prog Tryz.f189.results.toList ((flE x y).at [])) = ([], some (some ([.f false .f64 y], []), [])) := by kernel_rfl
theorem floor_ok {x : Nat} (hx : (FloatKind.f64.decode x).isNaN = false) (H : List AB) : CallOK Tryz.prog 189 [.f false .f64 x] H (.f false .f64 (floorF x)) H := by
  have hz := flZ_ok x
  simp only [Prod.mk.injEq] at hz
  have r1 := way_reach (P := Tryz.prog) (T := tabCo) (stop := atReg 1) (n := 50) (L := [.code flC]) (R := [.code flC]) (p := []) (t0 := .f false .f64 x :: undefs 6) (H0 := []) tabCo_sound rfl (by
    show allT (condsP (flZ x) []) = true
    rw [hz.1]; rfl) hz.2 rfl
  rw [flLp_eq] at r1
  have r2 := r1.trans (region_reach (k := flK) (fl_region hx))
  have he := flE_ok x (floorF x)
  simp only [Prod.mk.injEq] at he
  obtain ⟨t, H', e1, e2⟩ := endV_ends (stop := atCut 99) (n := 50) (L := flK) (p := []) tabCo_sound (by
    show allT (condsP (flE x (floorF x)) []) = true
    rw [he.1]; rfl) he.2 rfl
  have k := call_of_ends (args := [.f false .f64 x]) (m := []) Tryz.func189 (rfl : Tryz.f189.body = some flC) (r2.ends e1) e2 rfl
  exact k.lift rfl rfl H rfl
end Go.Ax

/- Steps of levels. -/
namespace Go.Ax
open Go Go.Proofs

def gFloor : List AV → Option (AV × List Bool)
  | [.f _ .f64 x] => some (.f false .f64 (floorF x), [!(FloatKind.f64.decode x).isNaN])
  | _ => none
theorem floor_at : SoundAt Tryz.prog 189 (pureT gFloor) := fun args H nd K => by
  refine pureT_sound (fun args v n h hn H => ?_) args H nd K
  unfold gFloor at h
  split at h <;> cases h
  exact (floor_ok (by simpa [allT] using hn) H).bare rfl
noncomputable def rowsFl : List (FuncId × Table) := [(189, pureT gFloor)]
theorem rowsFl_at : ∀ p ∈ rowsFl, SoundAt Tryz.prog p.1 p.2 := fun p hp => by
  simp only [rowsFl, List.mem_cons, List.not_mem_nil, or_false] at hp
  subst hp
  exact floor_at
noncomputable def tabFl : Table := tabOf (jdeep Tryz.prog rowsFl [] 4000 10)
theorem tabFl_sound : SoundT Tryz.prog tabFl := jdeep_sound rowsFl_at 10
end Go.Ax

/- Whole parts of floats that are not less than 0. -/
namespace Go.Ax
open Go Ieee

theorem low_eq (n s : Nat) : n / (1 <<< min s (n.log2 + 2)) = n / 2 ^ s := by
  rw [Nat.shiftLeft_eq, Nat.one_mul]
  rcases Nat.le_total s (n.log2 + 2) with hs | hs
  · rw [Nat.min_eq_left hs]
  · rw [Nat.min_eq_right hs]
    have h1 : n < 2 ^ (n.log2 + 1) := Nat.lt_log2_self
    have h2 : 2 ^ (n.log2 + 1) ≤ 2 ^ (n.log2 + 2) := Nat.pow_le_pow_right (by decide) (by omega)
    have h3 : 2 ^ (n.log2 + 2) ≤ 2 ^ s := Nat.pow_le_pow_right (by decide) hs
    rw [Nat.div_eq_of_lt (by omega), Nat.div_eq_of_lt (by omega)]
theorem cut_zero_low (g : Bool) (n s : Nat) : Toward.zero.cut g n s = n / 2 ^ s := by
  unfold Toward.cut
  show n / (1 <<< min s (n.log2 + 2)) + 0 = _
  rw [low_eq, Nat.add_zero]
theorem cut_down_low (n s : Nat) : Toward.down.cut false n s = n / 2 ^ s := by
  unfold Toward.cut
  show n / (1 <<< min s (n.log2 + 2)) + 0 = _
  rw [low_eq, Nat.add_zero]
/-- The whole part of m * 2 ^ i. -/
def whole (m : Nat) (i : Int) : Nat := m * 2 ^ i.toNat / 2 ^ (-i).toNat
theorem toInt_whole (m : Nat) (i : Int) : (Datum.number false m i).toInt .zero = some (whole m i : Int) := by
  unfold Datum.toInt Datum.integral
  simp only [cut_zero_low, Nat.shiftLeft_eq, Option.some.injEq]
  rw [signed_eq]
  simp [whole]
theorem down_whole (m : Nat) (i : Int) : (Datum.number false m i).integral .down = .number false (whole m i) 0 := by
  unfold Datum.integral
  simp only [cut_down_low, Nat.shiftLeft_eq]
  rfl
/-- The same number at a lower place has the same whole part. -/
theorem whole_shift (m s : Nat) (i : Int) : whole (m * 2 ^ s) (i - s) = whole m i := by
  unfold whole
  rcases Int.lt_or_le i 0 with h | h
  · have e1 : (i - (s : Int)).toNat = 0 := by omega
    have e2 : i.toNat = 0 := by omega
    have e3 : (-(i - (s : Int))).toNat = s + (-i).toNat := by omega
    rw [e1, e2, e3, Nat.pow_zero, Nat.mul_one, Nat.mul_one, Nat.pow_add, ← Nat.div_div_eq_div_mul, Nat.mul_div_cancel _ (Nat.two_pow_pos _)]
  · have e2 : (-i).toNat = 0 := by omega
    rw [e2, Nat.pow_zero, Nat.div_one]
    rcases Nat.le_total s i.toNat with hs | hs
    · have e1 : (i - (s : Int)).toNat = i.toNat - s := by omega
      have e3 : (-(i - (s : Int))).toNat = 0 := by omega
      rw [e1, e3, Nat.pow_zero, Nat.div_one, Nat.mul_assoc, ← Nat.pow_add]
      congr 2; omega
    · have e1 : (i - (s : Int)).toNat = 0 := by omega
      have e3 : (-(i - (s : Int))).toNat = s - i.toNat := by omega
      rw [e1, e3, Nat.pow_zero, Nat.mul_one]
      have e4 : m * 2 ^ s = m * 2 ^ i.toNat * 2 ^ (s - i.toNat) := by rw [Nat.mul_assoc, ← Nat.pow_add]; congr 2; omega
      rw [e4, Nat.mul_div_cancel _ (Nat.two_pow_pos _)]
/-- A number of at most 24 digits, written as a float64 and read again. -/
theorem wide_read {m : Nat} {i : Int} (hm : m ≠ 0) (h1 : m < 16777216) (hi : -149 ≤ i) (hi2 : i ≤ 200) : ∃ s : Nat, double.read (double.write (.number false m i)) = .number false (m * 2 ^ s) (i - s) := by
  have l0 := Nat.log2_self_le hm
  have l1 : m < 2 ^ (m.log2 + 1) := Nat.lt_log2_self
  have l24 : m.log2 < 24 := by
    have : 2 ^ m.log2 < 2 ^ 24 := Nat.lt_of_le_of_lt l0 h1
    exact (Nat.pow_lt_pow_iff_right (by decide : 1 < 2)).1 this
  have hl : double.leastPlace = -1074 := by decide
  have hf : double.fractionBits = 52 := rfl
  obtain ⟨r, hr⟩ : ∃ r : Nat, i = -1074 + (r : Int) + ((52 - m.log2 : Nat) : Int) := ⟨(i + 1074 - ((52 - m.log2 : Nat) : Int)).toNat, by omega⟩
  have a0 : 2 ^ double.fractionBits ≤ m * 2 ^ (52 - m.log2) := by
    have : 2 ^ m.log2 * 2 ^ (52 - m.log2) ≤ m * 2 ^ (52 - m.log2) := Nat.mul_le_mul_right _ l0
    rw [← Nat.pow_add, show m.log2 + (52 - m.log2) = 52 by omega] at this
    exact this
  have a1 : m * 2 ^ (52 - m.log2) < 2 ^ (double.fractionBits + 1) := by
    have : m * 2 ^ (52 - m.log2) < 2 ^ (m.log2 + 1) * 2 ^ (52 - m.log2) := Nat.mul_lt_mul_of_pos_right l1 (Nat.two_pow_pos _)
    rw [← Nat.pow_add, show m.log2 + 1 + (52 - m.log2) = 53 by omega] at this
    exact this
  have hb : double.binade = 4503599627370496 := rfl
  have hinf : double.infRung = 9218868437227405312 := rfl
  have hr2 : r ≤ 1300 := by omega
  have hrb : r * double.binade + m * 2 ^ (52 - m.log2) < double.infRung := by
    rw [hf] at a1
    have e53 : (2 : Nat) ^ (52 + 1) = 9007199254740992 := by decide
    rw [e53] at a1
    rw [hb, hinf]
    have : r * 4503599627370496 ≤ 1300 * 4503599627370496 := Nat.mul_le_mul_right _ hr2
    have e : (1300 : Nat) * 4503599627370496 = 5854679515581644800 := by decide
    omega
  refine ⟨52 - m.log2, ?_⟩
  show double.read (double.nearest false m i) = _
  rw [nearest_up double false m (52 - m.log2) r i a0 a1 (by rw [hl]; exact hr) (Nat.le_of_lt hrb), read_canon double false _ r a1 (.inr a0) hrb, hl]
  congr 1
  omega
end Go.Ax

/- A level in steps: the quotient, and half a step more. -/
namespace Go.Ax
open Go Ieee

theorem near_fint {k : Nat} (h : k < 16777216) : fint (FloatKind.f32.nearest (k : Int)) = some ((k : Int) * 2 ^ 149) := by
  have e : FloatKind.f32.nearest (k : Int) = single.nearest (decide ((k : Int) < 0)) k (-149 + ((149 : Nat) : Int)) := rfl
  have hd : decide ((k : Int) < 0) = false := decide_eq_false (by omega)
  rw [e, hd]
  have hrep : Rep (k * 2 ^ 149) := by
    have := rep_small (v := (k : Int)) (by omega)
    rwa [Int.natAbs_mul, Int.natAbs_pow] at this
  rw [nearest_rep false k 149 hrep, signed_eq]
  simp
theorem fdiv_or {x t : Nat} {a b : Int} (hx : fint x = some a) (ht : fint t = some b) (h0 : 0 ≤ a) (hb : 0 < b) : (∃ v : Nat, fint (fdiv .f32 x t) = some (v : Int)) ∨ fdiv .f32 x t = single.word false 2139095040 := by
  obtain ⟨s, m, r, e1, ha, h1, h2, h3, hs⟩ := form_nonneg hx h0
  obtain ⟨u, n, q, e2, hb', n1, n2, n3, hu⟩ := form_nonneg ht (by omega)
  have hn : n ≠ 0 := by
    rintro rfl
    simp at hb'; omega
  have hu0 : u = false := by
    cases u with
    | false => rfl
    | true =>
      exfalso
      rw [signed_eq] at hu
      have h4 : (0 : Int) ≤ (n : Int) * 2 ^ q := Int.mul_nonneg (by omega) (Int.le_of_lt (pow_pos' _))
      simp at hu
      omega
  subst hu0
  unfold fdiv Format.div
  rw [show FloatKind.f32.format = single from rfl, e1, e2]
  show (∃ v : Nat, fint (((Datum.quotient (23 + 2) (.number s m (-149 + (r : Nat))) (.number false n (-149 + (q : Nat)))).map single.write).getD (qnan .f32)) = some (v : Int)) ∨ ((Datum.quotient (23 + 2) (.number s m (-149 + (r : Nat))) (.number false n (-149 + (q : Nat)))).map single.write).getD (qnan .f32) = _
  simp only [Datum.quotient, if_neg hn, Option.map_some, Option.getD_some]
  have fin : ∀ (g : Bool) (mag : Nat) (place : Int), (mag ≠ 0 → g = false) → (∃ v : Nat, fint (single.nearest g mag place) = some (v : Int)) ∨ single.nearest g mag place = single.word false 2139095040 := fun g mag place hg => by
    by_cases hz : mag = 0
    · subst hz
      refine .inl ⟨0, ?_⟩
      unfold Format.nearest
      rw [if_pos rfl]
      cases g <;> decide +kernel
    · rw [hg hz, nearest_rung false place hz]
      rcases Nat.lt_or_ge (rung mag place) 2139095040 with h | h
      · rw [Nat.min_eq_left (Nat.le_of_lt h), fint_word false h]
        exact .inl ⟨_, rfl⟩
      · rw [Nat.min_eq_right h]
        exact .inr rfl
  refine fin _ _ _ fun hmag => ?_
  cases s with
  | false => rfl
  | true =>
    exfalso
    apply hmag
    rw [signed_eq] at hs
    have hm : m = 0 := by
      rcases Nat.eq_zero_or_pos m with h | h
      · exact h
      · exfalso
        have h4 : (0 : Int) < (m : Int) * 2 ^ r := Int.mul_pos (by omega) (pow_pos' _)
        simp at hs
        omega
    subst hm
    rw [Nat.zero_shiftLeft, Nat.zero_div, Nat.zero_mod]
    rfl
theorem inf_read : single.read (single.word false 2139095040) = .infinity false := by decide +kernel
theorem fge_inf {y : Nat} {c : Int} (hy : fint y = some c) : fge .f32 (single.word false 2139095040) y = true := by
  obtain ⟨s, m, r, e, _⟩ := fint_form hy
  unfold fge Format.order
  rw [show FloatKind.f32.format = single from rfl, inf_read, e]
  simp [Datum.order]
theorem fge_fint {x y : Nat} {a b : Int} (hx : fint x = some a) (hy : fint y = some b) : fge .f32 x y = decide (b ≤ a) := by
  unfold fge
  rw [show FloatKind.f32.format = single from rfl, order_fint hx hy]
  rw [Bool.eq_iff_iff]
  simp [compare, compareOfLessAndEq]
  by_cases h1 : a < b
  · simp [h1]
  · by_cases h2 : a = b
    · subst h2; simp
    · have : b ≤ a := by omega
      simp [h1, h2, this]
theorem half_fint : fint 1056964608 = some (2 ^ 148) := by decide +kernel
/-- Normal form of a small number of halves. -/
theorem halves_form {K : Nat} (h0 : K ≠ 0) (h : K < 16777216) : ∃ M R : Nat, M * 2 ^ R = K * 2 ^ 148 ∧ M < 16777216 ∧ (R = 0 ∨ 8388608 ≤ M) ∧ R ≤ 253 := by
  have l0 := Nat.log2_self_le h0
  have l1 : K < 2 ^ (K.log2 + 1) := Nat.lt_log2_self
  have l24 : K.log2 < 24 := by
    have : 2 ^ K.log2 < 2 ^ 24 := Nat.lt_of_le_of_lt l0 h
    exact (Nat.pow_lt_pow_iff_right (by decide : 1 < 2)).1 this
  refine ⟨K * 2 ^ (23 - K.log2), 148 - (23 - K.log2), ?_, ?_, .inr ?_, by omega⟩
  · rw [Nat.mul_assoc, ← Nat.pow_add]
    congr 2
    omega
  · have : K * 2 ^ (23 - K.log2) < 2 ^ (K.log2 + 1) * 2 ^ (23 - K.log2) := Nat.mul_lt_mul_of_pos_right l1 (Nat.two_pow_pos _)
    rw [← Nat.pow_add, show K.log2 + 1 + (23 - K.log2) = 24 by omega] at this
    exact this
  · have : 2 ^ K.log2 * 2 ^ (23 - K.log2) ≤ K * 2 ^ (23 - K.log2) := Nat.mul_le_mul_right _ l0
    rw [← Nat.pow_add, show K.log2 + (23 - K.log2) = 23 by omega] at this
    exact this
theorem step_core {x q : Nat} {a b : Int} {k : Nat} (hx : fint x = some a) (h0 : 0 ≤ a) (hq : fint q = some b) (hb : 0 < b) (hk : k < 1000) (hlt : fge .f32 (fdiv .f32 x q) (FloatKind.f32.nearest (k : Int)) = false) :
    ∃ M r : Nat, M ≠ 0 ∧ M < 16777216 ∧ r ≤ 253 ∧ single.read (fadd .f32 (fdiv .f32 x q) 1056964608) = .number false M (-149 + (r : Nat)) ∧ M * 2 ^ r ≤ (2 * k + 1) * 2 ^ 148 := by
  have hn := near_fint (k := k) (by omega)
  rcases fdiv_or hx hq h0 hb with ⟨v, hv⟩ | hinf
  · rw [fge_fint hv hn] at hlt
    have hvk : (v : Int) < (k : Int) * 2 ^ 149 := Int.not_le.1 (of_decide_eq_false hlt)
    obtain ⟨s, m, r, e1, hm1, _, _, _, hs⟩ := form_nonneg hv (by omega)
    obtain ⟨u, n, p, e2, hn1, _, _, _, hu⟩ := form_nonneg half_fint (by decide)
    obtain ⟨Mc, R, c1, c2, c3, c4⟩ := halves_form (K := 2 * k + 1) (by omega) (by omega)
    have hcc : ((Mc : Int) * 2 ^ R) = (k : Int) * 2 ^ 149 + 2 ^ 148 := by
      have e : ((Mc * 2 ^ R : Nat) : Int) = (((2 * k + 1) * 2 ^ 148 : Nat) : Int) := by rw [c1]
      rw [Int.natCast_mul, Int.natCast_mul, Int.natCast_pow, Int.natCast_pow, Int.natCast_add, Int.natCast_mul] at e
      have e0 : ((2 : Nat) : Int) = 2 := rfl
      have e1 : ((1 : Nat) : Int) = 1 := rfl
      rw [e0, e1] at e
      rw [e]
      have e149 : (2 : Int) ^ 149 = 2 * 2 ^ 148 := by decide +kernel
      rw [e149, Int.add_mul, Int.one_mul, Int.mul_comm 2 (k : Int), Int.mul_assoc]
    have hpos : (0 : Int) < 2 ^ 148 := pow_pos' 148
    obtain ⟨z, z1, w, w1, w2, w3⟩ := sum_le (s := s) (t := u) (m := m) (n := n) (r := r) (q := p) (M := Mc) (R := R) (by omega) (by omega) c2 c3 c4
    have hadd : fint (fadd .f32 (fdiv .f32 x q) 1056964608) = some (w : Int) := by
      unfold fadd Format.add
      rw [show FloatKind.f32.format = single from rfl, e1, e2, z1]
      exact w1
    have hw : w ≠ 0 := fun h => by have := w3 h; omega
    obtain ⟨t, M, rr, f1, f2, f3, _, f5, f6⟩ := form_nonneg hadd (by omega)
    have hM : M ≠ 0 := by rintro rfl; simp at f2; omega
    have ht : t = false := by
      cases t with
      | false => rfl
      | true =>
        exfalso
        rw [signed_eq] at f6
        have : (0 : Int) < (M : Int) * 2 ^ rr := Int.mul_pos (by omega) (pow_pos' _)
        simp at f6
        omega
    subst ht
    refine ⟨M, rr, hM, f3, f5, f1, ?_⟩
    rw [← c1]
    have e : ((M * 2 ^ rr : Nat) : Int) = (w : Int) := by rw [f2]; push_cast; rfl
    omega
  · rw [hinf, fge_inf hn] at hlt
    cases hlt
end Go.Ax

/- Steps of levels: impl's and spec's are the same. -/
namespace Go.Ax
open Go Go.Proofs

theorem whole_units (M r : Nat) : whole M (-149 + (r : Nat)) = M * 2 ^ r / 2 ^ 149 := by
  unfold whole
  rcases Nat.lt_or_ge r 149 with h | h
  · have e1 : (-149 + (r : Int)).toNat = 0 := by omega
    have e2 : (-(-149 + (r : Int))).toNat = 149 - r := by omega
    rw [e1, e2, Nat.pow_zero, Nat.mul_one]
    have e3 : (2 : Nat) ^ 149 = 2 ^ (149 - r) * 2 ^ r := by rw [← Nat.pow_add]; congr 1; omega
    rw [e3, Nat.mul_div_mul_right _ _ (Nat.two_pow_pos r)]
  · have e1 : (-149 + (r : Int)).toNat = r - 149 := by omega
    have e2 : (-(-149 + (r : Int))).toNat = 0 := by omega
    rw [e1, e2, Nat.pow_zero, Nat.div_one]
    have e3 : M * 2 ^ r = M * 2 ^ (r - 149) * 2 ^ 149 := by rw [Nat.mul_assoc, ← Nat.pow_add]; congr 2; omega
    rw [e3, Nat.mul_div_cancel _ (Nat.two_pow_pos 149)]
theorem whole_step {M r k : Nat} (h : M * 2 ^ r ≤ (2 * k + 1) * 2 ^ 148) : whole M (-149 + (r : Nat)) ≤ k := by
  rw [whole_units]
  have h1 : M * 2 ^ r / 2 ^ 149 ≤ (2 * k + 1) * 2 ^ 148 / 2 ^ 149 := Nat.div_le_div_right h
  have e : (2 : Nat) ^ 149 = 2 * 2 ^ 148 := by decide +kernel
  rw [e, Nat.mul_div_mul_right _ _ (Nat.two_pow_pos 148)] at h1
  rw [e]
  omega
def halfUp (x q : Nat) : Nat := fadd .f32 (fdiv .f32 x q) 1056964608
def stepV (x q : Nat) (m : Int) : Int := cond (fge .f32 (fdiv .f32 x q) (FloatKind.f32.nearest (m - 1))) (m - 1) (f2i .f32 (halfUp x q))
noncomputable def stepOK (x q : Nat) (m : Int) : Bool := (finB x && !flt .f32 x 0) && ((finB q && fgt .f32 q 0) && (decide (2 ≤ m) && decide (m ≤ 256)))
theorem stepOK_iff {x q : Nat} {m : Int} (h : stepOK x q m = true) : ∃ a b : Int, fint x = some a ∧ 0 ≤ a ∧ fint q = some b ∧ 0 < b ∧ 2 ≤ m ∧ m ≤ 256 := by
  unfold stepOK at h
  simp only [Bool.and_eq_true, decide_eq_true_eq, Bool.not_eq_true'] at h
  obtain ⟨⟨h1, h2⟩, ⟨h3, h4⟩, h5, h6⟩ := h
  obtain ⟨a, ha⟩ := finB_iff.1 h1
  obtain ⟨b, hb⟩ := finB_iff.1 h3
  rw [flt_fint ha fint_zero] at h2
  rw [fgt_fint hb fint_zero] at h4
  exact ⟨a, b, ha, by simpa using h2, hb, of_decide_eq_true h4, h5, h6⟩
/-- Where the quotient lies below the last step. -/
theorem step_facts {x q : Nat} {m : Int} (h : stepOK x q m = true) (hl : fge .f32 (fdiv .f32 x q) (FloatKind.f32.nearest (m - 1)) = false) :
    ∃ (w : Nat) (g : Nat), w ≤ (m - 1).toNat ∧ f2i .f32 (halfUp x q) = (w : Int) ∧ f2iOK .f32 (halfUp x q) .i64 = true ∧ g = fcvt .f32 .f64 (halfUp x q) ∧ fcvtOK .f32 .f64 (halfUp x q) = true ∧ (FloatKind.f64.decode g).isNaN = false ∧ f2i .f64 (floorF g) = (w : Int) ∧ f2iOK .f64 (floorF g) .i64 = true := by
  obtain ⟨a, b, ha, a0, hb, b0, hm, hm2⟩ := stepOK_iff h
  have ek : (((m - 1).toNat : Nat) : Int) = m - 1 := by omega
  rw [← ek] at hl
  obtain ⟨M, r, hM, M1, r1, hr, hle⟩ := step_core ha a0 hb b0 (by omega) hl
  have hw := whole_step hle
  have hd : FloatKind.f32.decode (halfUp x q) = .number false M (-149 + (r : Nat)) := hr
  have hok : ∀ w : Nat, w ≤ 255 → (decide (IntKind.i64.min ≤ (w : Int)) && decide ((w : Int) ≤ IntKind.i64.max)) = true := fun w hw => by
    have e1 : IntKind.i64.min = -9223372036854775808 := rfl
    have e2 : IntKind.i64.max = 9223372036854775807 := rfl
    rw [e1, e2]
    simp
    omega
  have t1 : (FloatKind.f32.decode (halfUp x q)).toInt .zero = some ((whole M (-149 + (r : Nat)) : Nat) : Int) := by rw [hd, toInt_whole]
  obtain ⟨s, hs⟩ := wide_read hM M1 (i := -149 + (r : Nat)) (by omega) (by omega)
  have hg : fcvt .f32 .f64 (halfUp x q) = Ieee.double.write (.number false M (-149 + (r : Nat))) := by
    unfold fcvt
    rw [if_neg (by decide), hd]
    rfl
  have hgd : FloatKind.f64.decode (fcvt .f32 .f64 (halfUp x q)) = .number false (M * 2 ^ s) (-149 + (r : Int) - s) := by
    rw [hg]; exact hs
  have hfl : floorF (fcvt .f32 .f64 (halfUp x q)) = Ieee.double.write (.number false (whole M (-149 + (r : Nat))) 0) := by
    unfold floorF
    rw [hgd, down_whole, whole_shift]
    rfl
  have t2 : (FloatKind.f64.decode (floorF (fcvt .f32 .f64 (halfUp x q)))).toInt .zero = some ((whole M (-149 + (r : Nat)) : Nat) : Int) := by
    rw [hfl]
    generalize whole M (-149 + (r : Nat)) = k at hw
    by_cases hk : k = 0
    · subst hk
      decide +kernel
    · obtain ⟨s', hs'⟩ := wide_read hk (by omega) (i := 0) (by omega) (by omega)
      show (Ieee.double.read (Ieee.double.write (.number false k 0))).toInt .zero = _
      rw [hs', toInt_whole, whole_shift]
      simp [whole]
  refine ⟨whole M (-149 + (r : Nat)), _, hw, ?_, ?_, rfl, ?_, ?_, ?_, ?_⟩
  · unfold f2i; rw [t1]; rfl
  · unfold f2iOK; rw [t1]; exact hok _ (by omega)
  · unfold fcvtOK
    rw [if_neg (by decide), hd]
    show (!(Ieee.double.read (Ieee.double.write (.number false M (-149 + (r : Nat))))).isInfinity) = true
    rw [hs]; rfl
  · rw [hgd]; rfl
  · unfold f2i; rw [t2]; rfl
  · unfold f2iOK; rw [t2]; exact hok _ (by omega)
theorem stepV_range {x q : Nat} {m : Int} (h : stepOK x q m = true) : 0 ≤ stepV x q m ∧ stepV x q m < m := by
  obtain ⟨a, b, ha, a0, hb, b0, hm, hm2⟩ := stepOK_iff h
  unfold stepV
  cases hl : fge .f32 (fdiv .f32 x q) (FloatKind.f32.nearest (m - 1)) with
  | true => simp only [cond_true]; omega
  | false =>
    obtain ⟨w, g, h1, h2, _⟩ := step_facts h hl
    simp only [cond_false]
    rw [h2]
    omega
theorem s116 (x q : Nat) (m : Int) : joinR 0 (tabFl 116 [.f false .f32 x, .f false .f32 q, .i false .i64 m] [] [] fun v H nd => .ret v H nd) =
    some (.i false .i64 (cond (fge .f32 (fdiv .f32 x q) (FloatKind.f32.nearest (wr (m - 1)))) (wr (m - 1)) (f2i .f64 (floorF (fcvt .f32 .f64 (halfUp x q))))), [cond (!fge .f32 (fdiv .f32 x q) (FloatKind.f32.nearest (wr (m - 1)))) (andT [f2iOK .f64 (floorF (fcvt .f32 .f64 (halfUp x q))) .i64, !(FloatKind.f64.decode (fcvt .f32 .f64 (halfUp x q))).isNaN, fcvtOK .f32 .f64 (halfUp x q)]) true]) := by kernel_rfl
theorem s118 (x q : Nat) (m : Int) : joinR 0 (tabFl 118 [.f false .f32 x, .f false .f32 q, .i false .i64 m] [] [] fun v H nd => .ret v H nd) =
    some (.i false .i64 (cond (fge .f32 (fdiv .f32 x q) (FloatKind.f32.nearest (wr (m - 1)))) (wr (m - 1)) (f2i .f32 (halfUp x q))), [cond (!fge .f32 (fdiv .f32 x q) (FloatKind.f32.nearest (wr (m - 1)))) (andT [f2iOK .f32 (halfUp x q) .i64]) true]) := by kernel_rfl
theorem step_ok (f : FuncId) (hf : f = 116 ∨ f = 118) {x q : Nat} {m : Int} (h : stepOK x q m = true) (H : List AB) : CallOK Tryz.prog f [.f false .f32 x, .f false .f32 q, .i false .i64 m] H (.i false .i64 (stepV x q m)) H := by
  obtain ⟨a, b, ha, a0, hb, b0, hm, hm2⟩ := stepOK_iff h
  have ew : wr (m - 1) = m - 1 := w64_id (by omega)
  cases hl : fge .f32 (fdiv .f32 x q) (FloatKind.f32.nearest (m - 1)) with
  | true =>
    have ev : stepV x q m = m - 1 := by unfold stepV; rw [hl]; rfl
    rw [ev]
    rcases hf with rfl | rfl
    · have k := call_of_join tabFl_sound (s116 x q m) (by rw [ew, hl]; rfl) rfl H
      rw [ew, hl] at k
      exact k
    · have k := call_of_join tabFl_sound (s118 x q m) (by rw [ew, hl]; rfl) rfl H
      rw [ew, hl] at k
      exact k
  | false =>
    obtain ⟨w, g, h1, h2, h3, rfl, h5, h6, h7, h8⟩ := step_facts h hl
    have ev : stepV x q m = (w : Int) := by unfold stepV; rw [hl]; exact h2
    rw [ev]
    rcases hf with rfl | rfl
    · have k := call_of_join tabFl_sound (s116 x q m) (by rw [ew, hl, h8, h6, h5]; rfl) rfl H
      rw [ew, hl, h7] at k
      exact k
    · have k := call_of_join tabFl_sound (s118 x q m) (by rw [ew, hl, h3]; rfl) rfl H
      rw [ew, hl, h2] at k
      exact k
end Go.Ax

/- Pictures in steps: what is to be evaluated. -/
namespace Go.Ax
open Go Go.Proofs

noncomputable def gStep : List AV → Option (AV × List Bool)
  | [.f _ .f32 x, .f _ .f32 q, .i _ .i64 m] => some (.i false .i64 (stepV x q m), [stepOK x q m])
  | _ => none
theorem step_at (f : FuncId) (hf : f = 116 ∨ f = 118) : SoundAt Tryz.prog f (pureT gStep) := fun args H nd K => by
  refine pureT_sound (fun args v n h hn H => ?_) args H nd K
  unfold gStep at h
  split at h <;> cases h
  exact (step_ok f hf (by simpa [allT] using hn) H).bare rfl
noncomputable def rowsSt : List (FuncId × Table) := (116, pureT gStep) :: (118, pureT gStep) :: rowsPc
theorem rowsSt_at : ∀ p ∈ rowsSt, SoundAt Tryz.prog p.1 p.2 := fun p hp => by
  simp only [rowsSt, List.mem_cons] at hp
  rcases hp with rfl | rfl | hp
  · exact step_at 116 (.inl rfl)
  · exact step_at 118 (.inr rfl)
  · exact rowsPc_at p hp
noncomputable def tabSt : Table := tabOf (jdeep Tryz.prog rowsSt [115] 4000 10)
theorem tabSt_sound : SoundT Tryz.prog tabSt := jdeep_sound rowsSt_at 10
noncomputable def jS (f : FuncId) (args : List AV) : Option (AV × List Bool) := joinR 0 (tabSt f args [] [] fun v H nd => .ret v H nd)
end Go.Ax
