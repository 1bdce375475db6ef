/- IsBalanced: contracts and row. -/
import Derived.Test.YtdcjjibekhcplaaCau
namespace Go.Ax
open Go Go.Proofs

def nsB : List Nat := [1, 2, 3, 4, 5, 6, 7, 8, 11, 19, 23, 31]
theorem bal_all : ∀ n ∈ nsB, BalRun n := fun n hn => by
  simp only [nsB, List.mem_cons, List.not_mem_nil, or_false] at hn
  rcases hn with rfl | rfl | rfl | rfl | rfl | rfl | rfl | rfl | rfl | rfl | rfl | rfl
  · exact bal1
  · exact bal2
  · exact bal3
  · exact bal4
  · exact bal5
  · exact bal6
  · exact bal7
  · exact bal8
  · exact bal11
  · exact bal19
  · exact bal23
  · exact bal31
theorem sbal_all : ∀ n ∈ nsB, SBalRun n := fun n hn => by
  simp only [nsB, List.mem_cons, List.not_mem_nil, or_false] at hn
  rcases hn with rfl | rfl | rfl | rfl | rfl | rfl | rfl | rfl | rfl | rfl | rfl | rfl
  · exact sbal1
  · exact sbal2
  · exact sbal3
  · exact sbal4
  · exact sbal5
  · exact sbal6
  · exact sbal7
  · exact sbal8
  · exact sbal11
  · exact sbal19
  · exact sbal23
  · exact sbal31
noncomputable def rBal0 (f : FuncId) : Res := tabB f [.sl true 0 0 0 0] (cellsL 0 fun _ => 0) [] fun v H nd => .ret v H nd
theorem bal0 (f : FuncId) (hf : f = 57 ∨ f = 58) : (condsP (rBal0 f) [false], balV ((rBal0 f).at [false])) = ([true], some (false, 2, [])) := by
  rcases hf with rfl | rfl <;> kernel_rfl

/-! ### Sums of small whole numbers -/
def suI (v : Nat → Int) : Nat → Int
  | 0 => 0
  | m + 1 => suI v m + v m
theorem acc_isI {t : Nat → Nat} {v : Nat → Int} {B : Nat} : ∀ (m : Nat), (∀ j, j < m → isI (t j) (v j) ∧ (v j).natAbs ≤ B) → m * B < 16777216 → isI (accF t m) (suI v m) ∧ (suI v m).natAbs ≤ m * B
  | 0, _, _ => ⟨isI_zero, by simp [suI]⟩
  | m + 1, h, hb => by
    have hb' : m * B + B < 16777216 := by rw [Nat.succ_mul] at hb; exact hb
    obtain ⟨h1, h2⟩ := acc_isI (t := t) (v := v) (B := B) m (fun j hj => h j (by omega)) (by omega)
    obtain ⟨h3, h4⟩ := h m (by omega)
    have h5 : (suI v m + v m).natAbs ≤ m * B + B := by omega
    refine ⟨isI_add h1 h3 (by omega), ?_⟩
    rw [Nat.succ_mul]; exact h5
theorem isI_one : isI 1065353216 1 := by
  have : fint 1065353216 = some (2 ^ 149) := by decide +kernel
  unfold isI; rw [this]; rfl
theorem isI_neg1 : isI 3212836864 (-1) := by
  have : fint 3212836864 = some (-2 ^ 149) := by decide +kernel
  unfold isI; rw [this]; rfl
theorem pm_isI {x : Nat} (h : pmB x = false) : ∃ v : Int, isI x v ∧ (v = 1 ∨ v = -1) := by
  unfold pmB at h
  cases h1 : feq .f32 x 1065353216 with
  | true => exact ⟨1, feq_fin' h1 isI_one, .inl rfl⟩
  | false =>
    cases h2 : feq .f32 x 3212836864 with
    | true => exact ⟨-1, feq_fin' h2 isI_neg1, .inr rfl⟩
    | false => rw [h1, h2] at h; cases h
theorem isI_fin {x : Nat} {v : Int} (h : isI x v) : finB x = true := fint_finB h
noncomputable def pmAll (n : Nat) (x : Nat → Nat) : Bool := allN (fun i => !pmB (x i)) n 0
noncomputable def feA (n : Nat) (x : Nat → Nat) : Bool := allN (fun k => feq .f32 (cS n x (k + 2)) (cS n x 1)) (n - 2) 0
theorem pmAll_iff {n : Nat} {x : Nat → Nat} : pmAll n x = true ↔ ∀ j, j < n → pmB (x j) = false := by
  unfold pmAll
  rw [allN_iff]
  simp
theorem pm_sum {n : Nat} {x : Nat → Nat} (hn : n ≤ 31) (hp : pmAll n x = true) (k m : Nat) (hm : m ≤ n) : ∃ v : Int, isI (accF (coT n x x k) m) v := by
  rw [pmAll_iff] at hp
  have hv : ∀ j, ∃ v : Int, j < n → isI (x j) v ∧ (v = 1 ∨ v = -1) := fun j => by
    by_cases hj : j < n
    · obtain ⟨v, h⟩ := pm_isI (hp j hj)
      exact ⟨v, fun _ => h⟩
    · exact ⟨0, fun h => absurd h hj⟩
  let v : Nat → Int := fun j => Classical.choose (hv j)
  have hv' : ∀ j, j < n → isI (x j) (v j) ∧ (v j = 1 ∨ v j = -1) := fun j => Classical.choose_spec (hv j)
  refine ⟨_, (acc_isI (v := fun j => v j * v ((j + k) % n)) (B := 1) m (fun j hj => ?_) (by omega)).1⟩
  have hj' : j < n := by omega
  obtain ⟨a1, a2⟩ := hv' j hj'
  obtain ⟨b1, b2⟩ := hv' ((j + k) % n) (Nat.mod_lt _ (by omega))
  have hc : (v j * v ((j + k) % n)).natAbs ≤ 1 := by
    rcases a2 with e | e <;> rcases b2 with e' | e' <;> rw [e, e'] <;> decide
  exact ⟨isI_mul a1 b1 (by rcases a2 with e | e <;> rw [e] <;> decide) (by rcases b2 with e | e <;> rw [e] <;> decide) (by omega), hc⟩
theorem pm_fin {n : Nat} {x : Nat → Nat} (hp : pmAll n x = true) : finL (xL n x) = true := by
  unfold xL
  rw [finL_map]
  intro k hk
  obtain ⟨v, h, _⟩ := pm_isI (pmAll_iff.1 hp k hk)
  exact isI_fin h
noncomputable def balBx (n : Nat) (x : Nat → Nat) : Bool := pmAll n x && feA n x
theorem JB_true (b : Nat → Bool) : ∀ m j, JB b m j = true
  | 0, _ => rfl
  | m + 1, j => by
    unfold JB
    rw [JB_true b m]
    cases b j <;> rfl
theorem balN_true (n : Nat) (x : Nat → Nat) : allT (balN n x) = true := by
  match n with
  | 0 => rfl
  | 1 => rfl
  | m + 2 =>
    show allT (cond (neB (m + 2) x 0) true true :: cond (!neB (m + 2) x 0) (JB (neB (m + 2) x) m 1) true :: List.replicate (m + 2) true) = true
    rw [JB_true]
    simp only [allT, Bool.and_eq_true]
    refine ⟨by cases neB (m + 2) x 0 <;> rfl, by cases neB (m + 2) x 0 <;> rfl, allT_rep _⟩
theorem allN_shift (p : Nat → Bool) (m i : Nat) : allN p m (i + 1) = allN (fun k => p (k + 1)) m i := by
  rw [Bool.eq_iff_iff, allN_iff, allN_iff]
  constructor
  · intro h j hj
    have := h j hj
    rwa [show i + 1 + j = i + j + 1 by omega] at this
  · intro h j hj
    have := h j hj
    rwa [show i + 1 + j = i + j + 1 by omega]
theorem ne_eq {n : Nat} {x : Nat → Nat} (hn : n ≤ 31) (hp : pmAll n x = true) : (!leQ false 0 (firstN (neB n x) (n - 1) 0)) = feA n x := by
  rw [leQ_eq, firstN_neg]
  match n with
  | 0 => rfl
  | 1 => rfl
  | m + 2 =>
    show allN (fun j => !neB (m + 2) x j) (m + 1) 0 = allN (fun k => feq .f32 (cS (m + 2) x (k + 2)) (cS (m + 2) x 1)) m 0
    rw [allN]
    obtain ⟨v, hv⟩ := pm_sum hn hp 1 (m + 2) (Nat.le_refl _)
    have e : (!neB (m + 2) x 0) = true := by
      unfold neB
      rw [Bool.not_not]
      show feq .f32 (cS (m + 2) x 1) (cS (m + 2) x 1) = true
      unfold cS
      rw [isI_feq hv hv]
      simp
    rw [e, Bool.true_and, allN_shift]
    congr 1
    funext k
    unfold neB
    rw [Bool.not_not]

/-! ### The contracts -/
theorem bal_call {f : FuncId} {args : List AV} {H0 : List AB} {r : Res} {b : Bool} {c : Int} {nd : List Bool} (hs : (tabB f args H0 [] fun v H nd => .ret v H nd).sel = r.sel) (h : balV r = some (b, c, nd)) (hn : allT nd = true) (hro : ∀ i, (getB H0 i).rw = false) :
    CallOK Try.prog f args H0 (.tup [.b false b, .i false .i64 c]) H0 := by
  unfold balV at h
  split at h <;> (try (cases h; done))
  rename_i v H nd'
  split at h <;> cases h
  have k := call_of_sel tabB_sound hs hn
  refine (k.same hro rfl).weaken fun σ x r => ?_
  cases r with | tup hr =>
  generalize hal : Array.toList _ = al at hr
  cases hr with | cons r1 hr => cases hr with | cons r2 hr => cases hr with | nil =>
  refine .tup ?_
  rw [hal]
  exact .cons (by cases r1; exact .b _) (.cons (by cases r2; exact .i _ _) .nil)
theorem bal_impl (n : Nat) (hn : n ∈ nsB) (x : Nat → Nat) : CallOK Try.prog 57 [.sl true 0 0 n 1] (cellsL n x) (.tup [.b false (balBx n x), .i false .i64 (cond (finL (xL n x)) 0 1)]) (cellsL n x) := by
  have hn31 : n ≤ 31 := by
    simp only [nsB, List.mem_cons, List.not_mem_nil, or_false] at hn
    omega
  have h := bal_all n hn x
  simp only [Prod.mk.injEq] at h
  obtain ⟨c1, v1, v2, v3⟩ := h
  obtain ⟨b, u, w, hr, hb, hc2⟩ := conds_ite c1
  simp only [Bool.false_eq_true, if_false] at hb hc2
  cases hf : finL (xL n x) with
  | false =>
    have hp : pmAll n x = false := by
      cases hp : pmAll n x with
      | false => rfl
      | true => rw [pm_fin hp] at hf; cases hf
    rw [hf] at hb
    have : b = true := by simpa using hb.symm
    subst this
    have e : (rBal 57 n x).at [true] = u := by rw [hr]; cases u <;> rfl
    rw [e] at v3
    have := bal_call (f := 57) (args := [.sl true 0 0 n 1]) (H0 := cellsL n x) (r := u) (by show (rBal 57 n x).sel = u.sel; rw [hr]; rfl) v3 rfl (cellsL_ro n x)
    unfold balBx
    rw [hp]
    exact this
  | true =>
    cases hp : pmAll n x with
    | false =>
      have c2 : condsP (rBal 57 n x) [false, true] = [!!finL (xL n x), !!leQ false 0 (firstN (fun i => pmB (x i)) n 0)] := conds_flip c1
      have := bal_call (f := 57) (args := [.sl true 0 0 n 1]) (H0 := cellsL n x) (sel_of_conds _ [false, true] (by
        show allT (condsP (rBal 57 n x) [false, true]) = true
        rw [c2, hf, leQ_eq, firstN_neg]
        show allT [!!true, !pmAll n x] = true
        rw [hp]; rfl)) v2 rfl (cellsL_ro n x)
      unfold balBx
      rw [hp]
      exact this
    | true =>
      have := bal_call (f := 57) (args := [.sl true 0 0 n 1]) (H0 := cellsL n x) (sel_of_conds _ [false, false] (by
        show allT (condsP (rBal 57 n x) [false, false]) = true
        rw [c1, hf, leQ_eq, firstN_neg]
        show allT [!!true, pmAll n x] = true
        rw [hp]; rfl)) v1 (balN_true n x) (cellsL_ro n x)
      rw [ne_eq hn31 hp] at this
      unfold balBx
      rw [hp]
      exact this
theorem chainL : ∀ (ks : List Bool) (r : Res), offL ks r = true → (allT (condsP r (List.replicate ks.length false)) = true ∧ r.sel = (r.at (List.replicate ks.length false)).sel) ∨
    ∃ i, i < ks.length ∧ (condsP r (List.replicate ks.length false))[i]? = some false ∧ (∀ j, j < i → (condsP r (List.replicate ks.length false))[j]? = some true) ∧ (ks[i]? = some true → ∃ z nd, balV z = some (false, 0, nd) ∧ allT nd = true ∧ r.sel = z.sel)
  | [], r, _ => .inl ⟨by cases r <;> rfl, by cases r <;> rfl⟩
  | k :: ks, .ite b x y, h => by
    simp only [offL, Bool.and_eq_true] at h
    rw [List.length_cons, List.replicate_succ]
    simp only [condsP]
    cases b with
    | true =>
      refine .inr ⟨0, by simp, by simp, by simp, fun hk => ?_⟩
      have hk : k = true := by simpa using hk
      subst hk
      have h1 := h.1
      simp only at h1
      split at h1 <;> (try (cases h1; done))
      rename_i v H nd
      split at h1 <;> (try (cases h1; done))
      rename_i l l' m
      rw [Bool.and_eq_true] at h1
      obtain ⟨h1, h2⟩ := h1
      rw [eqL_eq, beq_iff_eq] at h1
      subst h1
      exact ⟨.ret (.tup [.b l false, .i l' .i64 0]) H nd, nd, rfl, h2, rfl⟩
    | false =>
      rcases chainL ks y h.2 with ⟨h1, h2⟩ | ⟨i, h1, h2, h3, h4⟩
      · exact .inl ⟨by simp only [allT, Bool.not_false, Bool.true_and]; exact h1, by simp only [Res.sel, Res.at]; exact h2⟩
      · refine .inr ⟨i + 1, by omega, by simpa using h2, fun j hj => ?_, fun hk => ?_⟩
        · match j with
          | 0 => simp
          | j + 1 => simpa using h3 j (by omega)
        · obtain ⟨z, nd, a, b, c⟩ := h4 (by simpa using hk)
          exact ⟨z, nd, a, b, c⟩
  | _ :: _, .ret _ _ _, h => by cases h
  | _ :: _, .stop _ _ _ _, h => by cases h
  | _ :: _, .fail, h => by cases h
theorem balQ_len (n : Nat) : (balK n).length = n + n * n + (n - 2) := by simp [balK]; omega
theorem bal_spec (n : Nat) (hn : n ∈ nsB) (x : Nat → Nat) : CallOK Try.prog 58 [.sl true 0 0 n 1] (cellsL n x) (.tup [.b false (balBx n x), .i false .i64 (cond (finL (xL n x)) 0 1)]) (cellsL n x) := by
  have hn31 : n ≤ 31 ∧ 0 < n := by
    simp only [nsB, List.mem_cons, List.not_mem_nil, or_false] at hn
    omega
  have h := sbal_all n hn x
  simp only [Prod.mk.injEq] at h
  obtain ⟨c1, v1, o1, v3⟩ := h
  rw [List.replicate_succ] at c1 v1
  obtain ⟨b, u, w, hr, hb, hc2⟩ := conds_ite c1
  simp only [Bool.false_eq_true, if_false] at hb hc2
  cases hf : finL (xL n x) with
  | false =>
    have hp : pmAll n x = false := by
      cases hp : pmAll n x with
      | false => rfl
      | true => rw [pm_fin hp] at hf; cases hf
    rw [hf] at hb
    have : b = true := by simpa using hb.symm
    subst this
    have e : (rBal 58 n x).at [true] = u := by rw [hr]; cases u <;> rfl
    rw [e] at v3
    have := bal_call (f := 58) (args := [.sl true 0 0 n 1]) (H0 := cellsL n x) (r := u) (by show (rBal 58 n x).sel = u.sel; rw [hr]; rfl) v3 rfl (cellsL_ro n x)
    unfold balBx
    rw [hp]
    exact this
  | true =>
    rw [hf] at hb
    have : b = false := by simpa using hb.symm
    subst this
    rw [hr] at v1 o1
    have e : (Res.ite false u w).at [false] = w := by cases w <;> rfl
    rw [e] at o1
    rw [show (Res.ite false u w).at (false :: List.replicate (n + n * n + (n - 2)) false) = w.at (List.replicate (n + n * n + (n - 2)) false) from rfl] at v1
    have hsel : ∀ {z : Res}, w.sel = z.sel → (rBal 58 n x).sel = z.sel := fun {z} hz => by rw [hr]; exact hz
    have hcase := chainL (balK n) w o1
    rw [balQ_len, hc2] at hcase
    have bad : (∃ z nd, balV z = some (false, 0, nd) ∧ allT nd = true ∧ w.sel = z.sel) → balBx n x = false → CallOK Try.prog 58 [.sl true 0 0 n 1] (cellsL n x) (.tup [.b false (balBx n x), .i false .i64 (cond true 0 1)]) (cellsL n x) := fun ⟨z, nd, a1, a2, a3⟩ hB => by
      rw [hB]
      exact bal_call (f := 58) (args := [.sl true 0 0 n 1]) (H0 := cellsL n x) (hsel a3) a1 a2 (cellsL_ro n x)
    rcases hcase with ⟨h1, h2⟩ | ⟨i, h1, h2, h3, h4⟩
    · unfold balQ at h1
      rw [allT_append, allT_append, Bool.and_eq_true, Bool.and_eq_true, allT_map, allT_map] at h1
      obtain ⟨g1, _, g3⟩ := h1
      have hB : balBx n x = true := by
        unfold balBx
        rw [Bool.and_eq_true, pmAll_iff]
        refine ⟨fun j hj => by simpa using g1 j (List.mem_range.2 hj), ?_⟩
        unfold feA
        rw [allN_iff]
        intro j hj
        have := g3 j (List.mem_range.2 hj)
        rw [Bool.not_not] at this
        simpa using this
      generalize hz : w.at (List.replicate (n + n * n + (n - 2)) false) = z at v1 h2
      cases hv : balV z with
      | none => rw [hv] at v1; cases v1
      | some t =>
        obtain ⟨b', c', nd⟩ := t
        rw [hv] at v1
        simp only [Option.map_some, Option.some.injEq, Prod.mk.injEq] at v1
        obtain ⟨rfl, rfl, hnd⟩ := v1
        rw [hB]
        exact bal_call (f := 58) (args := [.sl true 0 0 n 1]) (H0 := cellsL n x) (hsel h2) hv hnd (cellsL_ro n x)
    · have l1 : ((List.range n).map fun i => !pmB (x i)).length = n := by simp
      have l2 : (testL n (coT n x x)).length = n * n := by simp [testL]
      have k1 : ∀ j, j < n → (balQ n x)[j]? = some (!pmB (x j)) := fun j hj => by
        unfold balQ
        rw [List.getElem?_append_left (by omega), List.getElem?_map, List.getElem?_range hj]; rfl
      by_cases c1 : i < n
      · refine bad (h4 ?_) ?_
        · unfold balK
          rw [List.getElem?_append_left (by simpa using c1), List.getElem?_replicate, if_pos c1]
        · rw [k1 i c1] at h2
          have h2 : pmB (x i) = true := by simpa using h2
          unfold balBx
          cases hp : pmAll n x with
          | false => rfl
          | true => rw [pmAll_iff.1 hp i c1] at h2; cases h2
      · have hp : pmAll n x = true := pmAll_iff.2 fun j hj => by
          have := h3 j (by omega)
          rw [k1 j hj] at this
          simpa using this
        by_cases c2 : i < n + n * n
        · exfalso
          have k2 : (balQ n x)[i]? = some (!!finB (accF (coT n x x ((i - n) / n)) (Nat.succ ((i - n) % n)))) := by
            unfold balQ
            rw [List.getElem?_append_right (by omega), l1, List.getElem?_append_left (by omega)]
            unfold testL
            rw [List.getElem?_map, List.getElem?_range (by omega)]; rfl
          rw [k2] at h2
          obtain ⟨v, hv⟩ := pm_sum hn31.1 hp ((i - n) / n) (Nat.succ ((i - n) % n)) (Nat.mod_lt _ hn31.2)
          rw [isI_fin hv] at h2
          simp at h2
        · have hi : i - n - n * n < n - 2 := by omega
          have k3 : (balQ n x)[i]? = some (!!feq .f32 (cS n x (i - n - n * n + 2)) (cS n x 1)) := by
            unfold balQ
            rw [List.getElem?_append_right (by omega), l1, List.getElem?_append_right (by omega), l2, List.getElem?_map, List.getElem?_range hi]; rfl
          refine bad (h4 ?_) ?_
          · unfold balK
            rw [List.getElem?_append_right (by simp; omega), List.getElem?_append_right (by simp; omega), List.getElem?_replicate, if_pos (by simp; omega)]
          · rw [k3] at h2
            have h2 : feq .f32 (cS n x (i - n - n * n + 2)) (cS n x 1) = false := by simpa using h2
            unfold balBx
            cases hF : feA n x with
            | false => simp
            | true =>
              unfold feA at hF
              rw [allN_iff] at hF
              have := hF _ hi
              rw [Nat.zero_add] at this
              rw [this] at h2; cases h2
/-! ### Row -/
noncomputable def balB (xs : List Nat) : Bool := cond (Nat.beq xs.length 0) false (balBx xs.length (at0 xs))
noncomputable def balC (xs : List Nat) : Int := cond (Nat.beq xs.length 0) 2 (cond (finL xs) 0 1)
noncomputable def balR (xs : List Nat) : AV := .tup [.b false (balB xs), .i false .i64 (balC xs)]
theorem bal_ok (f : FuncId) (hf : f = 57 ∨ f = 58) (xs : List Nat) (z : Nat) (h : xs.length = 0 ∨ (xs.length ∈ nsB ∧ 0 < z)) : CallOK Try.prog f [.sl false 0 0 xs.length z] (fb xs) (balR xs) (fb xs) := by
  by_cases h0 : xs.length = 0
  · have e : xs = [] := List.length_eq_zero_iff.1 h0
    subst e
    have h1 := bal0 f hf
    simp only [Prod.mk.injEq] at h1
    obtain ⟨c1, v1⟩ := h1
    have k := bal_call (f := f) (args := [.sl true 0 0 0 0]) (H0 := cellsL 0 fun _ => 0) (sel_of_conds _ [false] (by show allT (condsP (rBal0 f) [false]) = true; rw [c1]; rfl)) v1 rfl (cellsL_ro 0 _)
    have k1 := (k.pre (heq_cells [] [])).post (heq_cells' [] [])
    refine k1.args fun σ l r => ?_
    cases r with | cons r hs =>
    refine .cons ?_ hs
    have := sl_z0 r
    exact Rel.unbare (a := .sl true 0 0 0 0) this.bare
  · have hb : Nat.beq xs.length 0 = false := by
      cases hc : Nat.beq xs.length 0 with
      | false => rfl
      | true => exact absurd (Nat.eq_of_beq_eq_true hc) h0
    obtain ⟨hn, hz⟩ := h.resolve_left h0
    have hxl : xL xs.length (at0 xs) = xs := xL_eq xs
    have k : CallOK Try.prog f [.sl true 0 0 xs.length 1] (cellsL xs.length (at0 xs)) (balR xs) (cellsL xs.length (at0 xs)) := by
      unfold balR balB balC
      rw [hb]
      have e : (cond (finL xs) (0 : Int) 1) = cond (finL (xL xs.length (at0 xs))) 0 1 := by rw [hxl]
      show CallOK Try.prog f _ _ (.tup [.b false (balBx xs.length (at0 xs)), .i false .i64 (cond (finL xs) 0 1)]) _
      rw [e]
      rcases hf with rfl | rfl
      · exact bal_impl _ hn _
      · exact bal_spec _ hn _
    have k1 := (k.pre (heq_cells xs [])).post (heq_cells' xs [])
    refine k1.args fun σ l r => ?_
    cases r with | cons r hs =>
    refine .cons ?_ hs
    have := sl_z1 r hz
    exact Rel.unbare (a := .sl true 0 0 xs.length 1) this.bare
def balZ (n : Nat) : AV → List Bool
  | .sl _ _ _ _ z => [decide (n = 0) || (decide (n ∈ nsB) && decide (0 < z))]
  | _ => [false]
noncomputable def balT : Table := fun _ args H nd K =>
  match args with
  | [a] => match floatsAt H a with
    | some (xs, q) => K (balR xs) H (balZ xs.length a ++ (q ++ nd))
    | none => .fail
  | _ => .fail
theorem bal_at (f : FuncId) (hf : f = 57 ∨ f = 58) : SoundAt Try.prog f balT := fun args H nd K => by
  unfold balT
  split
  case h_2 => exact .inl rfl
  split
  case h_2 => exact .inl rfl
  rename_i a _ xs q hi
  refine .inr ⟨_, _, _, rfl, fun hn => ?_⟩
  rw [allT_append, allT_append, Bool.and_eq_true, Bool.and_eq_true] at hn
  obtain ⟨hz, hq, hnd⟩ := hn
  obtain ⟨l, id, r, A, z, rfl, hg, hA, _⟩ := floatsAt_spec hi hq
  have hz : xs.length = 0 ∨ (xs.length ∈ nsB ∧ 0 < z) := by
    simp only [balZ, allT, Bool.and_true, Bool.or_eq_true, Bool.and_eq_true, decide_eq_true_eq] at hz
    exact hz
  exact ⟨hnd, call_floats1 (bal_ok f hf xs z hz) rfl rfl hg hA⟩
end Go.Ax
