/- SumOfPicture, of both sides: contract and row. -/
import Derived.Test.YtdcjjibekhcplaaDav
namespace Go.Ax
open Go Go.Proofs

theorem badP_eq {c : Nat} {r : Res} {nd : List Bool} (h : badP c r = some nd) : ∃ l m H, r = .ret (nmV l 0 m (Int.ofNat c)) H nd := by
  unfold badP at h
  split at h <;> (try (cases h; done))
  split at h <;> (try (cases h; done))
  split at h <;> cases h
  rename_i hb
  rw [Bool.and_eq_true, eqL_eq, beq_iff_eq] at hb
  obtain ⟨h1, rfl⟩ := hb
  have h1 := Nat.eq_of_beq_eq_true h1
  subst h1
  exact ⟨_, _, _, rfl⟩
theorem chainP_cases (c : Nat) : ∀ (n : Nat) (r : Res) (L : List (List Bool)), chainP c n r = some L → (allT (condsP r (List.replicate n false)) = true ∧ r.sel = (r.at (List.replicate n false)).sel) ∨ (allT (condsP r (List.replicate n false)) = false ∧ ∃ x nd, badP c x = some nd ∧ nd ∈ L ∧ r.sel = x.sel)
  | 0, r, _, _ => .inl ⟨by cases r <;> rfl, by cases r <;> rfl⟩
  | n + 1, .ite b x y, L, h => by
    unfold chainP at h
    split at h <;> cases h
    rename_i nd L' h1 h2
    rw [List.replicate_succ]
    simp only [condsP, allT, Res.at, Res.sel]
    cases b with
    | true => exact .inr ⟨rfl, x, nd, h1, by simp, rfl⟩
    | false =>
      rcases chainP_cases c n y L' h2 with ⟨h1, h2⟩ | ⟨h1, x', nd', h2, h3, h4⟩
      · exact .inl ⟨by simp [h1], h2⟩
      · exact .inr ⟨by simp [h1], x', nd', h2, by simp [h3], h4⟩
  | n + 1, .ret _ _ _, _, h => by cases h
  | n + 1, .stop _ _ _ _, _, h => by cases h
  | n + 1, .fail, _, h => by cases h
noncomputable def smOK (n k : Int) (X : Nat → Nat) : Bool := isPicB n X && (inK (n * n) k && finB (smS X k.toNat (n.toNat * n.toNat)))
noncomputable def smC (n k : Int) (X : Nat → Nat) : Int := cond (isPicB n X) (cond (inK (n * n) k) (cond (finB (smS X k.toNat (n.toNat * n.toNat))) 0 3) 2) 1
noncomputable def smR (n k : Int) (X : Nat → Nat) : AV := .tup [.f false .f32 (cond (smOK n k X) (plusF (smS X k.toNat (n.toNat * n.toNat))) 0), .i false .i64 (smC n k X)]
theorem nm_weak {l m : Bool} {x y : Nat} {a b : Int} (hx : x = y) (ha : a = b) {σ : List (Nat × Nat)} {v : Value} (r : Rel σ (.tup [.f l .f32 x, .i m .i64 a]) v) : Rel σ (.tup [.f false .f32 y, .i false .i64 b]) v := by
  subst hx; subst ha
  cases r with | tup hr =>
  generalize hal : Array.toList _ = al at hr
  cases hr with | cons r1 hr => cases hr with | cons r2 hr => cases hr with | nil =>
  refine .tup ?_
  rw [hal]
  refine .cons ?_ (.cons (by cases r2; exact .i _ _) .nil)
  cases r1 with | f h => exact .f h
theorem pvT_below0 (l : Bool) (n : Int) (X : Nat → Nat) : below 0 (pvT l n X) = true := by
  have : ∀ l : List Nat, belowL 0 (l.map (fx X)) = true := fun l => by
    induction l with
    | nil => rfl
    | cons j l ih => simp [belowL, fx, below, ih]
  simp [pvT, below, belowL, this]
theorem pvT_args (n k : Int) (X : Nat → Nat) : belowL 0 [pvT true n X, .i false .i64 k] = true := by simp [belowL, pvT_below0, below]
theorem fin_chain {X : Nat → Nat} {k N : Nat} (hN : 0 < N) : allT ((List.range N).map fun m => !!finB (smS X k (m + 1))) = finB (smS X k N) := by
  rw [Bool.eq_iff_iff, allT_map]
  constructor
  · intro h
    have := h (N - 1) (by rw [List.mem_range]; omega)
    rw [Bool.not_not] at this
    rwa [show N - 1 + 1 = N by omega] at this
  · intro h m hm
    rw [List.mem_range] at hm
    rw [Bool.not_not]
    exact acc_prefix (by omega) h
theorem rep_ok {b : Bool} (h : b = true) (n : Nat) : allT (List.replicate n b) = true := by subst h; exact allT_rep n
theorem in64_of {k : Int} {N : Nat} (h : inK (Int.ofNat N) k = true) (h64 : N ≤ 64) : in64 k = true := by
  rw [inK_iff] at h
  rw [in64_iff]
  simp only [Int.ofNat_eq_natCast] at h
  omega
theorem ret_call {f : FuncId} {n k : Int} {X : Nat → Nat} {v : AV} {H' : List AB} {nd : List Bool} (hs : (rPs f n k X).sel = .ret v H' nd) (hn : allT nd = true) (hv : below 0 v = true) (H : List AB) : CallOK Try.prog f [pvT true n X, .i false .i64 k] H v H :=
  (call_of_sel (f := f) (args := [pvT true n X, .i false .i64 k]) (H := []) tabPs_sound hs hn).lift hv (pvT_args n k X) H rfl
theorem bad_ret {f : FuncId} {n k : Int} {X : Nat → Nat} {x : Res} {nd : List Bool} {c : Nat} (hs : (rPs f n k X).sel = x.sel) (hb : badP c x = some nd) (hn : allT nd = true) (H : List AB) : CallOK Try.prog f [pvT true n X, .i false .i64 k] H (.tup [.f false .f32 0, .i false .i64 (Int.ofNat c)]) H := by
  obtain ⟨l, m, H', h⟩ := badP_eq hb
  subst h
  exact (ret_call hs hn rfl H).weaken fun σ v r => nm_weak rfl rfl r
theorem ps_call {N : Nat} {n : Int} (h : PsRun N n) (hN : N = n.toNat * n.toNat) (h2 : Int.ofNat N = n * n) (h64 : N ≤ 64) (k : Int) (X : Nat → Nat) (H : List AB) : CallOK Try.prog 73 [pvT true n X, .i false .i64 k] H (smR n k X) H := by
  have h0 := h k X
  simp only [Prod.mk.injEq] at h0
  obtain ⟨⟨c1, b1⟩, ⟨c2, b2⟩, ⟨c3, l3⟩⟩ := h0
  rw [isPicB_re] at c1 c2 c3
  unfold smR smOK smC
  rw [← h2, ← hN]
  cases hp : isPicB n X with
  | false => exact bad_ret (c := 1) (sel_of_conds _ [true] (by rw [c1, hp]; rfl)) b1 rfl H
  | true =>
    cases hk : inK (Int.ofNat N) k with
    | false => exact bad_ret (c := 2) (sel_of_conds _ [false, true] (by rw [c2, hp, hk]; rfl)) b2 rfl H
    | true =>
      have hs := sel_of_conds (rPs 73 n k X) [false, false] (by rw [c3, hp, hk]; rfl)
      generalize hl : (rPs 73 n k X).at [false, false] = r at l3 hs
      unfold leafP at l3
      split at l3 <;> cases l3
      refine (ret_call hs (rep_ok (by rw [in64_of hk h64]; rfl) N) rfl H).weaken fun σ v r => nm_weak ?_ ?_ r
      · cases finB (smS X k.toNat N) <;> simp [plus_zero]
      · cases finB (smS X k.toNat N) <;> rfl
theorem sps_call {N : Nat} {n : Int} (h : SpsRun N n) (hN : N = n.toNat * n.toNat) (h2 : Int.ofNat N = n * n) (h64 : N ≤ 64) (hpos : 0 < N) (k : Int) (X : Nat → Nat) (H : List AB) : CallOK Try.prog 74 [pvT true n X, .i false .i64 k] H (smR n k X) H := by
  have h0 := h k X
  simp only [Prod.mk.injEq] at h0
  obtain ⟨⟨c1, b1⟩, ⟨c2, b2⟩, ⟨c3, l3⟩, ch⟩ := h0
  rw [isPicB_re] at c1 c2 c3
  unfold smR smOK smC
  rw [← h2, ← hN]
  cases hp : isPicB n X with
  | false => exact bad_ret (c := 1) (sel_of_conds _ [true] (by rw [c1, hp]; rfl)) b1 rfl H
  | true =>
    cases hk : inK (Int.ofNat N) k with
    | false => exact bad_ret (c := 2) (sel_of_conds _ [false, true] (by rw [c2, hp, hk]; rfl)) b2 rfl H
    | true =>
      have h64' := in64_of hk h64
      have hfc := fin_chain (X := X) (k := k.toNat) hpos
      cases hf : finB (smS X k.toNat N) with
      | true =>
        have hs := sel_of_conds (rPs 74 n k X) (false :: false :: List.replicate N false) (by rw [c3, hp, hk]; simp only [allT, Bool.not_true, Bool.not_false, Bool.true_and]; rw [hfc]; exact hf)
        generalize hl : (rPs 74 n k X).at (false :: false :: List.replicate N false) = r at l3 hs
        unfold leafP at l3
        split at l3 <;> cases l3
        exact (ret_call hs (by rw [allT_append, allT_rep, h64']; rfl) rfl H).weaken fun σ v r => nm_weak rfl rfl r
      | false =>
        -- the shape of the first two tests
        have hshape : ∃ b y b' y' r, rPs 74 n k X = .ite b y (.ite b' y' r) := by
          cases hr : rPs 74 n k X with
          | ite b y z =>
            rw [hr] at c2
            cases z with
            | ite b' y' r => exact ⟨b, y, b', y', r, rfl⟩
            | _ => simp [condsP] at c2
          | _ => rw [hr] at c1; cases c1
        obtain ⟨b, y, b', y', r, hr⟩ := hshape
        rw [hr] at c3 ch
        simp only [condsP, List.cons.injEq] at c3
        obtain ⟨cb, cb', c3⟩ := c3
        have hb : b = false := by rw [hp] at cb; simpa using cb
        have hb' : b' = false := by rw [hk] at cb'; simpa using cb'
        have hat : (Res.ite b y (.ite b' y' r)).at [false, false] = r := by cases r <;> rfl
        rw [hat] at ch
        rcases chainP_cases 3 N r _ ch with ⟨h1, _⟩ | ⟨_, x', nd, h2', h3, h4⟩
        · rw [c3, hfc, hf] at h1; cases h1
        · obtain ⟨m, _, rfl⟩ := List.mem_map.1 h3
          exact bad_ret (c := 3) (by rw [hr, hb, hb']; exact h4) h2' (by rw [allT_append, allT_rep, h64']; rfl) H
theorem side4 {n : Int} (h : n ∈ ([8, 4, 2, 1] : List Int)) : n = 8 ∨ n = 4 ∨ n = 2 ∨ n = 1 := by simpa using h
theorem sm_ok (f : FuncId) (hf : f = 73 ∨ f = 74) (n k : Int) (hn : n ∈ ([8, 4, 2, 1] : List Int)) (X : Nat → Nat) (H : List AB) : CallOK Try.prog f [pv n X, .i false .i64 k] H (smR n k X) H := by
  refine CallOK.deep (args := [pvT true n X, .i false .i64 k]) ?_ rfl
  rcases hf with rfl | rfl
  · rcases side4 hn with rfl | rfl | rfl | rfl
    · exact ps_call ps8 rfl rfl (by omega) k X H
    · exact ps_call ps4 rfl rfl (by omega) k X H
    · exact ps_call ps2 rfl rfl (by omega) k X H
    · exact ps_call ps1 rfl rfl (by omega) k X H
  · rcases side4 hn with rfl | rfl | rfl | rfl
    · exact sps_call sps8 rfl rfl (by omega) (by omega) k X H
    · exact sps_call sps4 rfl rfl (by omega) (by omega) k X H
    · exact sps_call sps2 rfl rfl (by omega) (by omega) k X H
    · exact sps_call sps1 rfl rfl (by omega) (by omega) k X H
noncomputable def gSm : List AV → Option (AV × List Bool)
  | [.agg l, .i _ .i64 k] => match ofP l with
    | some (n, X) => some (smR n k X, [decide (n ∈ ([8, 4, 2, 1] : List Int))])
    | none => none
  | _ => none
theorem sm_at (f : FuncId) (hf : f = 73 ∨ f = 74) : SoundAt Try.prog f (pureT gSm) := fun args H nd K => by
  refine pureT_sound (fun args v n h hn H => ?_) args H nd K
  unfold gSm at h
  split at h <;> (try (cases h; done))
  split at h <;> cases h
  rename_i hl
  simp only [allT, Bool.and_true, decide_eq_true_eq] at hn
  exact (sm_ok f hf _ _ hn _ H).deep (by simp only [List.map_cons, ofP_spec hl]; rfl)
end Go.Ax
