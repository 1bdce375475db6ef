/- spec.l01Phase and spec.PhaseOf for every k. -/
import Derived.Test.YtdcjjibekhcplaaEad
import Derived.Test.YtdcjjibekhcplaaEae
import Derived.Test.YtdcjjibekhcplaaEaf
import Derived.Test.YtdcjjibekhcplaaEah
import Derived.Test.YtdcjjibekhcplaaProg
import Derived.KernelRfl
namespace Go.Ax
open Go Go.Proofs

def spX (k : Int) : Nat := spXs.getD (k % 64).toNat 0
def spY (k : Int) : Nat := spYs.getD (k % 64).toNat 0
theorem sp_leaf (j : Nat) (h : spChk j = true) : ∃ l H nd, spRun j = .ret (.c l .f32 (spXs.getD j 0) (spYs.getD j 0)) H nd ∧ nd = [] ∧ H = [] := by
  unfold spChk at h
  split at h <;> (try (cases h; done))
  rename_i v H nd hr
  split at h <;> (try (cases h; done))
  rename_i l x y
  simp only [Bool.and_eq_true] at h
  obtain ⟨⟨⟨h1, h2⟩, h3⟩, h4⟩ := h
  have e1 := Nat.eq_of_beq_eq_true h1
  have e2 := Nat.eq_of_beq_eq_true h2
  exact ⟨l, H, nd, by rw [hr, e1, e2], by simpa using h3, by simpa using h4⟩
theorem sp_ok (k : Int) (H : List AB) : CallOK Try.prog 195 [.i false .i64 k] H (.c false .f32 (spX k) (spY k)) H := by
  obtain ⟨e1, e2⟩ := sp0_fin k
  rw [mod_val] at e2
  obtain ⟨t0, e3, e4⟩ := leafM_stop e1 e2
  have hj : (k % 64).toNat < 64 := by omega
  have hk : k % 64 = Int.ofNat (k % 64).toNat := by simp; omega
  have hr : Reach Try.prog [.code spC] (.i false .i64 k :: undefs 53) [] spL (spT true (Int.ofNat (k % 64).toNat)) [] := by
    have h1 : Reach Try.prog [.code spC] (.i false .i64 k :: undefs 53) [] spL t0 [] := by
      refine toLoop_reach (n := 100) (nd := []) hT0 (T := noT) ?_ rfl
      have := e3
      unfold sp0 at this
      rw [this]; rfl
    refine (h1.weak (blur_eqv spM t0)).weak (eqv_of_bare ?_)
    rw [← e4, ← hk]
    rfl
  obtain ⟨l, H1, nd, e5, rfl, rfl⟩ := sp_leaf _ (sp_all _ hj)
  have e6 : (run Try.prog tabH 3000 spL (spT true (Int.ofNat (k % 64).toNat)) [] [] (retK Try.prog Try.f195 fun v H nd => .ret v H nd)).sel = .ret (.c l .f32 (spXs.getD (k % 64).toNat 0) (spYs.getD (k % 64).toNat 0)) [] [] := by
    unfold spRun at e5
    rw [e5]; rfl
  have hb : Try.f195.body = some spC := rfl
  have := call_of_stage tabH_sound (args := [.i false .i64 k]) Try.func195 hb hr e6 rfl
  exact (this.lift rfl rfl H rfl).weaken fun σ x r => (by cases r with | c h1 h2 => exact .c h1 h2)
def gSp : List AV → Option (AV × List Bool)
  | [.i _ .i64 k] => some (.c false .f32 (spX k) (spY k), [])
  | _ => none
theorem sp_at : SoundAt Try.prog 195 (pureT gSp) := fun args H nd K => by
  refine pureT_sound (fun args v n h hn H => ?_) args H nd K
  unfold gSp at h
  split at h <;> cases h
  rename_i l k
  exact (sp_ok k H).bare (args' := [.i l .i64 k]) rfl
end Go.Ax

/- spec.PhaseOf: the same as impl.PhaseOf. -/
namespace Go.Ax
open Go Go.Proofs

end Go.Ax

/- spec.l01Simple: some complex number with simple parts. -/
namespace Go.Ax
open Go Go.Proofs

noncomputable def rows7 (mx : Int) : List (FuncId × Table) := (195, pureT gSp) :: rows6 mx
theorem rows7_at (mx : Int) : allAt Try.prog (rows7 mx) := ⟨sp_at, rows6_at mx⟩
noncomputable def tab7 (mx : Int) : Table := deep Try.prog (rows7 mx) [95, 200] 2000 6
theorem tab7_sound (mx : Int) : SoundT Try.prog (tab7 mx) := deep_sound (allAt_mem (rows7_at mx)) 6
noncomputable def simR (c : Cd) (a : Nat) (h : Int) : Option ((Nat × Nat) × Nat × Int × List Bool) :=
  srcEx formC c (runF Try.prog (tab7 9) 1000 279 [.p true 1 0] [codeB c false, srcB c a h] [] fun v H nd => .ret v H nd)
theorem sim_nd (c : Cd) (a : Nat) (h : Int) : (simR c a h).map (fun r => r.2.2.2) = some (List.replicate 661 (okB c c.off c.len)) := by kernel_rfl
theorem sim_ex {c : Cd} (hc : goodB c = true) (a : Nat) (h : Int) : ∃ (x : Nat × Nat) (a' : Nat) (h' : Int), SrcOK Try.prog 279 [] c a h (.c false .f32 x.1 x.2) a' h' := by
  have hn := sim_nd c a h
  have hk : okB c c.off c.len = true := by simp [okB, hc]
  cases hr : simR c a h with
  | none => rw [hr] at hn; cases hn
  | some r =>
    obtain ⟨x, a', h', nd⟩ := r
    rw [hr] at hn
    simp only [Option.map_some, Option.some.injEq] at hn
    refine ⟨x, a', h', srcOK_of_ex (F := formC) (runF_sound (tab7_sound 9) 1000) hr ?_ rfl⟩
    rw [hn, hk]
    exact allT_rep 661
noncomputable def simV (c : Cd) (a : Nat) (h : Int) : (Nat × Nat) × Nat × Int :=
  open Classical in if hx : ∃ r : (Nat × Nat) × Nat × Int, SrcOK Try.prog 279 [] c a h (.c false .f32 r.1.1 r.1.2) r.2.1 r.2.2 then hx.choose else ((0, 0), a, h)
theorem simV_ok {c : Cd} (hc : goodB c = true) (a : Nat) (h : Int) : SrcOK Try.prog 279 [] c a h (.c false .f32 (simV c a h).1.1 (simV c a h).1.2) (simV c a h).2.1 (simV c a h).2.2 := by
  obtain ⟨x, a', h', hx⟩ := sim_ex hc a h
  have he : ∃ r : (Nat × Nat) × Nat × Int, SrcOK Try.prog 279 [] c a h (.c false .f32 r.1.1 r.1.2) r.2.1 r.2.2 := ⟨(x, a', h'), hx⟩
  unfold simV
  rw [dif_pos he]
  exact he.choose_spec
noncomputable def simT : Table := srcT fun c a h sc => match sc with
  | [] => some (.c false .f32 (simV c a h).1.1 (simV c a h).1.2, (simV c a h).2.1, (simV c a h).2.2, [])
  | _ => none
theorem sim_at : SoundAt Try.prog 279 simT := fun args H nd K => by
  refine srcT_sound (fun c a h sc v a' h' q hc hg _ => ?_) args H nd K
  split at hg <;> cases hg
  exact simV_ok hc a h
end Go.Ax

/- Waves: what the tests of waves come to. -/
namespace Go.Ax
open Go Go.Proofs

noncomputable def wholeB (z : Nat × Nat) : Bool := cond (finB z.1) (finB z.2) false
noncomputable def zeroB (z : Nat × Nat) : Bool := feq .f32 z.1 0 && feq .f32 z.2 0
/-- The tests of the cells of a wave, from one on; the last one's form is its own. -/
noncomputable def isWF (N : Nat) (X : Nat → Nat × Nat) : Nat → Nat → Bool
  | 0, j => match Nat.ble N j with
    | true => cond (!wholeB (X j)) false (!(!zeroB (X j)))
    | false => !(!wholeB (X j))
  | m + 1, j => match Nat.ble N j with
    | true => cond (!wholeB (X j)) false (cond (!zeroB (X j)) false (isWF N X m (Nat.succ j)))
    | false => cond (!wholeB (X j)) false (isWF N X m (Nat.succ j))
theorem isWF_iff (N : Nat) (X : Nat → Nat × Nat) : ∀ (m j : Nat), isWF N X m j = true ↔ ∀ i, i ≤ m → wholeB (X (j + i)) = true ∧ (N ≤ j + i → zeroB (X (j + i)) = true)
  | 0, j => by
    unfold isWF
    constructor
    · intro h i hi
      have : i = 0 := by omega
      subst this
      rw [Nat.add_zero]
      split at h
      · cases hw : wholeB (X j) <;> rw [hw] at h <;> simp at h
        exact ⟨rfl, fun _ => h⟩
      · rename_i hb
        simp at h
        exact ⟨h, fun hn => by have := Nat.ble_eq_true_of_le hn; rw [this] at hb; cases hb⟩
    · intro h
      obtain ⟨h1, h2⟩ := h 0 (Nat.le_refl 0)
      rw [Nat.add_zero] at h1 h2
      split
      · rename_i hb
        rw [h1, h2 (Nat.le_of_ble_eq_true hb)]; rfl
      · rw [h1]; rfl
  | m + 1, j => by
    have ih := isWF_iff N X m (j + 1)
    unfold isWF
    rw [Nat.succ_eq_add_one]
    have key : (∀ i, i ≤ m + 1 → wholeB (X (j + i)) = true ∧ (N ≤ j + i → zeroB (X (j + i)) = true)) ↔ (wholeB (X j) = true ∧ (N ≤ j → zeroB (X j) = true)) ∧ isWF N X m (j + 1) = true := by
      rw [ih]
      constructor
      · intro h
        refine ⟨h 0 (by omega), fun i hi => ?_⟩
        have := h (i + 1) (by omega)
        rwa [show j + (i + 1) = j + 1 + i by omega] at this
      · rintro ⟨h0, h⟩ i hi
        cases i with
        | zero => exact h0
        | succ i =>
          have := h i (by omega)
          rwa [show j + 1 + i = j + (i + 1) by omega] at this
    rw [key]
    split
    · rename_i hb
      have hb := Nat.le_of_ble_eq_true hb
      cases wholeB (X j) <;> cases zeroB (X j) <;> simp [hb]
    · rename_i hb
      have hb : ¬ N ≤ j := fun hn => by have := Nat.ble_eq_true_of_le hn; rw [this] at hb; cases hb
      cases wholeB (X j) <;> simp [hb]
def sideB (n : Int) : Bool := n == 1 || (n == 2 || (n == 4 || n == 8))
theorem sideB_iff {n : Int} : sideB n = true ↔ n = 1 ∨ n = 2 ∨ n = 4 ∨ n = 8 := by simp [sideB]
noncomputable def isWaveB (n : Int) (X : Nat → Nat × Nat) : Bool := sideB n && isWF (n.toNat * n.toNat) X 63 0
theorem isWaveB_iff {n : Int} {X : Nat → Nat × Nat} : isWaveB n X = true ↔ (n = 1 ∨ n = 2 ∨ n = 4 ∨ n = 8) ∧ ∀ j, j < 64 → wholeB (X j) = true ∧ (n.toNat * n.toNat ≤ j → zeroB (X j) = true) := by
  unfold isWaveB
  rw [Bool.and_eq_true, sideB_iff, isWF_iff]
  constructor
  · rintro ⟨h1, h2⟩
    exact ⟨h1, fun j hj => by simpa using h2 j (by omega)⟩
  · rintro ⟨h1, h2⟩
    exact ⟨h1, fun j hj => by simpa using h2 j (by omega)⟩

/-- A wave as a value. -/
def waveL (n : Int) (X : Nat → Nat × Nat) : List AV := .i false .i64 n :: (List.range 64).map (cx X)
def wvT (l : Bool) (n : Int) (X : Nat → Nat × Nat) : AV := .agg (.i l .i64 n :: (List.range 64).map (cx X))
def wv (n : Int) (X : Nat → Nat × Nat) : AV := .agg (waveL n X)
theorem RelL.unbare {σ : List (Nat × Nat)} : ∀ {l : List AV} {v : List Value}, RelL σ (l.map AV.bare) v → RelL σ l v
  | [], _, h => h
  | a :: l, _, h => by
    cases h with | cons h hs => exact .cons h.unbare (RelL.unbare hs)
theorem RelL.bare {σ : List (Nat × Nat)} : ∀ {l : List AV} {v : List Value}, RelL σ l v → RelL σ (l.map AV.bare) v
  | _, _, .nil => .nil
  | _, _, .cons h hs => .cons h.bare (RelL.bare hs)
theorem agg_bare {l l' : List AV} (h : l.map AV.bare = l'.map AV.bare) {σ : List (Nat × Nat)} {v : Value} (r : Rel σ (.agg l) v) : Rel σ (.agg l') v := by
  cases r with | agg r => exact .agg (RelL.unbare (h ▸ r.bare))
/-- Values that say the same, tags aside. -/
def AV.deep : AV → AV
  | .agg l => .agg (l.map AV.bare)
  | a => a.bare
theorem Rel.deep {σ : List (Nat × Nat)} {a : AV} {v : Value} (r : Rel σ a v) : Rel σ a.deep v := by
  cases a
  case agg l => cases r with | agg r => exact .agg r.bare
  all_goals exact r.bare
theorem Rel.undeep {σ : List (Nat × Nat)} {a : AV} {v : Value} (r : Rel σ a.deep v) : Rel σ a v := by
  cases a
  case agg l => cases r with | agg r => exact .agg r.unbare
  all_goals exact r.unbare
theorem relL_deep {σ : List (Nat × Nat)} : ∀ {l l' : List AV} {v : List Value}, l.map AV.deep = l'.map AV.deep → RelL σ l v → RelL σ l' v
  | [], [], _, _, h => h
  | [], _ :: _, _, e, _ => by cases e
  | _ :: _, [], _, e, _ => by cases e
  | a :: l, b :: l', _, e, h => by
    simp only [List.map_cons, List.cons.injEq] at e
    cases h with | cons h hs => exact .cons (e.1 ▸ h.deep).undeep (relL_deep e.2 hs)
theorem CallOK.deep {P : Program} {f : FuncId} {args args' : List AV} {v : AV} {H H' : List AB} (h : CallOK P f args H v H') (hb : args'.map AV.deep = args.map AV.deep) : CallOK P f args' H v H' := fun σ w rargs s hra =>
  h σ w rargs s (relL_deep hb hra)

noncomputable def tabW : Table := tabOf (cdeep Try.prog [] [] 3000 8)
theorem tabW_sound : SoundT Try.prog tabW := cdeep_sound (fun p hp => by cases hp) 8
theorem is_run (f : FuncId) (hf : f = 18 ∨ f = 208) (X : Nat → Nat × Nat) : (∀ n ∈ ([1, 2, 4, 8] : List Int), joinR 0 (tabW f [wvT true n X] [] [] fun v H nd => .ret v H nd) = some (.b false (isWF (n.toNat * n.toNat) X 63 0), [])) := by
  intro n hn
  simp only [List.mem_cons, List.not_mem_nil, or_false] at hn
  rcases hf with rfl | rfl <;> rcases hn with rfl | rfl | rfl | rfl <;> kernel_rfl

/-! ### Numbers that are no sides -/
theorem side_run (f : FuncId) (hf : f = 106 ∨ f = 123) (n : Int) : joinR 0 (tabW f [.i false .i64 n] [] [] fun v H nd => .ret v H nd) = some (.b false (cond (n == 1) true (cond (n == 2) true (cond (n == 4) true (n == 8)))), []) := by
  rcases hf with rfl | rfl <;> kernel_rfl
def gNoSide : List AV → Option (AV × List Bool)
  | [.i false .i64 n] => some (.b true false, [!sideB n])
  | _ => none
theorem noSide_at (f : FuncId) (hf : f = 106 ∨ f = 123) : SoundAt Try.prog f (pureT gNoSide) := fun args H nd K => by
  refine pureT_sound (fun args v n h hn H => ?_) args H nd K
  unfold gNoSide at h
  split at h <;> cases h
  rename_i n
  have hs : sideB n = false := by simpa [allT] using hn
  have := call_of_join tabW_sound (side_run f hf n) rfl rfl H
  refine this.weaken fun σ x r => ?_
  have e : cond (n == 1) true (cond (n == 2) true (cond (n == 4) true (n == 8))) = false := by
    rw [← hs]; unfold sideB; cases n == 1 <;> cases n == 2 <;> cases n == 4 <;> rfl
  rw [e] at r
  cases r; exact .b _
noncomputable def rowsN : List (FuncId × Table) := [(106, pureT gNoSide), (123, pureT gNoSide)]
theorem rowsN_at : ∀ p ∈ rowsN, SoundAt Try.prog p.1 p.2 := fun p hp => by
  simp only [rowsN, List.mem_cons, List.not_mem_nil, or_false] at hp
  rcases hp with rfl | rfl
  · exact noSide_at 106 (.inl rfl)
  · exact noSide_at 123 (.inr rfl)
noncomputable def tabN : Table := tabOf (cdeep Try.prog rowsN [] 3000 8)
theorem tabN_sound : SoundT Try.prog tabN := cdeep_sound rowsN_at 8
theorem is_no (f : FuncId) (hf : f = 18 ∨ f = 208) (n : Int) (X : Nat → Nat × Nat) : joinR 0 (tabN f [wvT false n X] [] [] fun v H nd => .ret v H nd) = some (.b true false, [!sideB n]) := by
  rcases hf with rfl | rfl <;> kernel_rfl
theorem is_ok (f : FuncId) (hf : f = 18 ∨ f = 208) (n : Int) (X : Nat → Nat × Nat) (H : List AB) : CallOK Try.prog f [wv n X] H (.b false (isWaveB n X)) H := by
  by_cases hs : sideB n = true
  · have hn := sideB_iff.1 hs
    have := call_of_join tabW_sound (is_run f hf X n (by simpa using hn)) rfl rfl H
    have e : isWaveB n X = isWF (n.toNat * n.toNat) X 63 0 := by simp [isWaveB, hs]
    rw [e]
    exact this.deep rfl
  · have hs : sideB n = false := by simpa using hs
    have := call_of_join tabN_sound (is_no f hf n X) (by simp [allT, hs]) rfl H
    have e : isWaveB n X = false := by simp [isWaveB, hs]
    rw [e]
    exact (this.deep (args' := [wv n X]) rfl).weaken fun σ x r => by cases r; exact .b _
end Go.Ax

/- Table rows on waves. -/
namespace Go.Ax
open Go Go.Proofs

/-- The numbers of a wave. -/
def ofW : List AV → Option (Int × (Nat → Nat × Nat))
  | .i _ .i64 n :: l => match asC64 l with
    | some xs => match Nat.beq xs.length 64 with
      | true => some (n, fun j => xs.getD j (0, 0))
      | false => none
    | none => none
  | _ => none
theorem ofW_spec {l : List AV} {n : Int} {X : Nat → Nat × Nat} (h : ofW l = some (n, X)) : (AV.agg l).deep = (wv n X).deep := by
  unfold ofW at h
  split at h <;> (try (cases h; done))
  split at h <;> (try (cases h; done))
  rename_i xs hx
  split at h <;> (try (cases h; done))
  rename_i hlen
  simp only [Option.some.injEq, Prod.mk.injEq] at h
  obtain ⟨rfl, rfl⟩ := h
  have e1 := asC64_bare hx
  rw [map_range_getD (fun z => AV.c false .f32 z.1 z.2) (0, 0) xs 64 (Nat.eq_of_beq_eq_true hlen)] at e1
  simp only [AV.deep, wv, waveL, List.map_cons, e1]
  rw [List.map_map]
  rfl
noncomputable def gIsWave : List AV → Option (AV × List Bool)
  | [.agg l] => match ofW l with
    | some (n, X) => some (.b false (isWaveB n X), [])
    | none => none
  | _ => none
theorem isWave_at (f : FuncId) (hf : f = 18 ∨ f = 208) : SoundAt Try.prog f (pureT gIsWave) := fun args H nd K => by
  refine pureT_sound (fun args v n h hn H => ?_) args H nd K
  unfold gIsWave at h
  split at h <;> (try (cases h; done))
  split at h <;> cases h
  rename_i hl
  exact (is_ok f hf _ _ H).deep (by simp [ofW_spec hl])
noncomputable def rowsW : List (FuncId × Table) := [(18, pureT gIsWave), (208, pureT gIsWave)]
theorem rowsW_at : ∀ p ∈ rowsW, SoundAt Try.prog p.1 p.2 := fun p hp => by
  simp only [rowsW, List.mem_cons, List.not_mem_nil, or_false] at hp
  rcases hp with rfl | rfl
  · exact isWave_at 18 (.inl rfl)
  · exact isWave_at 208 (.inr rfl)
noncomputable def tabX : Table := tabOf (cdeep Try.prog rowsW [] 3000 8)
theorem tabX_sound : SoundT Try.prog tabX := cdeep_sound rowsW_at 8
end Go.Ax

/- spec.l01DrawOf: some wave of a side. -/
namespace Go.Ax
open Go Go.Proofs

noncomputable def rows8 (mx : Int) : List (FuncId × Table) := (279, simT) :: rows7 mx
theorem rows8_at (mx : Int) : allAt Try.prog (rows8 mx) := ⟨sim_at, rows7_at mx⟩
noncomputable def tab8 (mx : Int) : Table := tabOf (cdeep Try.prog (rows8 mx) [95, 200] 2000 6)
theorem tab8_sound (mx : Int) : SoundT Try.prog (tab8 mx) := cdeep_sound (allAt_mem (rows8_at mx)) 6

/-- A wave in memory. -/
def waveB (n : Int) (X : Nat → Nat × Nat) : AB := .cells true (.lit (waveL n X))
def getW : AB → Option (AV × List (Nat × Nat))
  | .cells true (.lit (s :: l)) => match asC64 l with
    | some xs => match Nat.beq xs.length 64 with
      | true => some (s.bare, xs)
      | false => none
    | none => none
  | _ => none
theorem getW_spec {B : AB} {n : Int} {xs : List (Nat × Nat)} (h : getW B = some (.i false .i64 n, xs)) : ∃ l, B = .cells true (.lit l) ∧ l.map AV.bare = (waveL n fun j => xs.getD j (0, 0)).map AV.bare := by
  unfold getW at h
  split at h <;> (try (cases h; done))
  rename_i s l
  split at h <;> (try (cases h; done))
  rename_i xs' hx
  split at h <;> (try (cases h; done))
  rename_i hlen
  simp only [Option.some.injEq, Prod.mk.injEq] at h
  obtain ⟨hs, rfl⟩ := h
  refine ⟨_, rfl, ?_⟩
  have hlen := Nat.eq_of_beq_eq_true hlen
  have e1 := asC64_bare hx
  rw [map_range_getD (fun z => AV.c false .f32 z.1 z.2) (0, 0) xs' 64 hlen] at e1
  simp only [waveL, List.map_cons, e1, hs]
  rw [List.map_map]
  rfl
/-- Memory: the bytes, the source, a place for the result, a wave. -/
def getSW (H : List AB) : Option (Nat × Int × List (Nat × Nat)) :=
  match readSrc (getB H 1), getW (getB H 3) with
  | some (_, _, a, h), some (_, xs) => some (a, h, xs)
  | _, _ => none
def fixSW (H : List AB) : Nat × AB × Option (Nat × Nat) × AB × Option AV :=
  (H.length, getB H 0, (readSrc (getB H 1)).map (fun z => (z.1, z.2.1)), getB H 2, (getW (getB H 3)).map (·.1))
def zeroW : AB := .cells true (.lit (.i true .i64 0 :: List.replicate 64 (.c true .f32 0 0)))
def memSW (c : Cd) (a : Nat) (h : Int) (n : Int) (X : Nat → Nat × Nat) : List AB := [codeB c false, srcB c a h, zeroW, waveB n X]
theorem getSW_spec {H : List AB} {c : Cd} {a : Nat} {h n : Int} {xs : List (Nat × Nat)} (hg : getSW H = some (a, h, xs)) (hf : fixSW H = (4, codeB c false, some (c.off, c.len), zeroW, some (.i false .i64 n))) : HEq H (memSW c a h n fun j => xs.getD j (0, 0)) := by
  unfold fixSW at hf
  simp only [Prod.mk.injEq] at hf
  obtain ⟨h1, h2, h3, h4, h5⟩ := hf
  match H, h1 with
  | [A, B, C, D], _ =>
    have e2 : A = codeB c false := h2
    have e4 : C = zeroW := h4
    subst e2; subst e4
    unfold getSW at hg
    have k1 : getB [codeB c false, B, zeroW, D] 1 = B := rfl
    have k3 : getB [codeB c false, B, zeroW, D] 3 = D := rfl
    rw [k1, k3] at hg
    rw [k1] at h3
    rw [k3] at h5
    cases hB : readSrc B with
    | none => rw [hB] at hg; cases hg
    | some s =>
      obtain ⟨o, m, a', h'⟩ := s
      cases hD : getW D with
      | none => rw [hB, hD] at hg; cases hg
      | some w =>
        obtain ⟨s0, xs'⟩ := w
        rw [hB] at h3
        rw [hD] at h5
        rw [hB, hD] at hg
        simp only [Option.map_some, Option.some.injEq, Prod.mk.injEq] at h3 h5 hg
        obtain ⟨rfl, rfl⟩ := h3
        obtain ⟨rfl, rfl, rfl⟩ := hg
        obtain ⟨l1, l2, l3, rfl⟩ := readSrc_spec hB
        rw [h5] at hD
        obtain ⟨l, rfl, hl⟩ := getW_spec hD
        exact HEq.cons ⟨rfl, rfl, fun _ _ _ h => h⟩ (HEq.cons src_same (HEq.cons ⟨rfl, rfl, fun _ _ _ h => h⟩ (HEq.cons (blk_bare hl) (HEq.refl []))))

noncomputable def doC : Code := Try.f263.body.getD .skip
noncomputable def doT0 (n : Int) : List AV := .p true 1 0 :: .i true .i64 n :: undefs 63
noncomputable def do0 (c : Cd) (a : Nat) (h n : Int) : Res := cupto Try.prog (tab8 7) atLoop 200 [.code doC] (doT0 n) [codeB c false, srcB c a h]
noncomputable def doL : List Item := ((do0 ⟨[], 0, 0⟩ 0 0 1).at [false]).todo
def doT (n kd k : Int) : List AV := [.p true 1 0, .i true .i64 n, .any, .any, .p true 2 0, .p true 3 0, .i false .i64 kd, .i true .i64 k] ++ List.replicate 57 .any
def doM : List Bool := [false, false, true, true, false, false, false, false] ++ List.replicate 57 true
noncomputable def doRd (L : List Item) (c : Cd) (a : Nat) (h n kd k : Int) (X : Nat → Nat × Nat) : Res := cupto Try.prog (tab8 7) atLoop 200 L (doT n kd k) (memSW c a h n X)
def hdR : List Leaf → List Item
  | x :: _ => x.todo
  | [] => []
noncomputable def doR : List Item := hdR (doRd doL ⟨[], 0, 0⟩ 0 0 1 0 0 fun _ => (0, 0)).stops
def fvSW (c : Cd) (n : Int) : Nat × AB × Option (Nat × Nat) × AB × Option AV := (4, codeB c false, some (c.off, c.len), zeroW, some (.i false .i64 n))
theorem doR_eq : toLp doL = doR := by kernel_rfl
def doNs : List (Nat × Int) := [(1, 1), (4, 2), (16, 4), (64, 8)]
theorem do_rd (N : Nat) (n : Int) (hn : (N, n) ∈ doNs) (c : Cd) (a : Nat) (h kd : Int) (X : Nat → Nat × Nat) : ((List.range N).map fun k => (doRd doR c a h n kd (Int.ofNat k) X).pack doM getSW fixSW) =
    (List.range N).map fun k => packed doR ((doT n kd (Int.ofNat (k + 1))).map AV.bare) (fvSW c n) 7 18 (okB c c.off c.len) := by
  simp only [doNs, List.mem_cons, Prod.mk.injEq, List.not_mem_nil, or_false] at hn
  rcases hn with ⟨rfl, rfl⟩ | ⟨rfl, rfl⟩ | ⟨rfl, rfl⟩ | ⟨rfl, rfl⟩ <;> kernel_rfl

theorem do_end (N : Nat) (n : Int) (hn : (N, n) ∈ doNs) (c : Cd) (a : Nat) (h kd : Int) (X : Nat → Nat × Nat) : endOf Try.prog Try.f263.results.toList (doRd doR c a h n kd (Int.ofNat N) X) = some (some ([wv n X], []), [codeB c false, srcB c a h, waveB n X, waveB n X], []) := by
  simp only [doNs, List.mem_cons, Prod.mk.injEq, List.not_mem_nil, or_false] at hn
  rcases hn with ⟨rfl, rfl⟩ | ⟨rfl, rfl⟩ | ⟨rfl, rfl⟩ | ⟨rfl, rfl⟩ <;> kernel_rfl
theorem do_cond (N : Nat) (n : Int) (hn : (N, n) ∈ doNs) (c : Cd) (a : Nat) (h : Int) : (do0 c a h n).conds [false] = [nxV c a h 8 == 0] ∧ (do0 c a h n).conds [true] = [nxV c a h 8 == 0] := by
  simp only [doNs, List.mem_cons, Prod.mk.injEq, List.not_mem_nil, or_false] at hn
  rcases hn with ⟨rfl, rfl⟩ | ⟨rfl, rfl⟩ | ⟨rfl, rfl⟩ | ⟨rfl, rfl⟩ <;> constructor <;> kernel_rfl
theorem do_start (N : Nat) (n : Int) (hn : (N, n) ∈ doNs) (c : Cd) (a : Nat) (h : Int) : ((do0 c a h n).at [false]).pack doM getSW fixSW = packed doL ((doT n (nxV c a h 8) 0).map AV.bare) (fvSW c n) 1 1 (okB c c.off c.len) := by
  simp only [doNs, List.mem_cons, Prod.mk.injEq, List.not_mem_nil, or_false] at hn
  rcases hn with ⟨rfl, rfl⟩ | ⟨rfl, rfl⟩ | ⟨rfl, rfl⟩ | ⟨rfl, rfl⟩ <;> kernel_rfl
/-- One wave: its numbers, and the state of the source. -/
noncomputable def oneW (r : Option (Option (List AV × List Bool) × List AB × List Bool)) : Option (Int × (Nat → Nat × Nat) × Nat × Int × Nat × Nat × List Bool) :=
  match r with
  | some (some ([.agg l], m), H, nd) => match ofW l, readSrc (getB H 1) with
    | some (n, X), some (o, k, a, h) => some (n, X, a, h, o, k, m ++ nd)
    | _, _ => none
  | _ => none
noncomputable def oneW2 (r : Option (Int × (Nat → Nat × Nat) × Nat × Int × Nat × Nat × List Bool)) : Option (Int × Nat × Nat × List Bool) :=
  match r with
  | some (n, _, _, _, o, k, nd) => some (n, o, k, nd)
  | none => none
theorem do_zero (N : Nat) (n : Int) (hn : (N, n) ∈ doNs) (c : Cd) (a : Nat) (h : Int) : oneW2 (oneW (endOf Try.prog Try.f263.results.toList ((do0 c a h n).at [true]))) = some (n, c.off, c.len, List.replicate 3 (okB c c.off c.len)) := by
  simp only [doNs, List.mem_cons, Prod.mk.injEq, List.not_mem_nil, or_false] at hn
  rcases hn with ⟨rfl, rfl⟩ | ⟨rfl, rfl⟩ | ⟨rfl, rfl⟩ | ⟨rfl, rfl⟩ <;> kernel_rfl
theorem wv_low (n : Int) (X : Nat → Nat × Nat) : below 0 (wv n X) = true := by
  have : ∀ l : List Nat, belowL 0 (l.map (cx X)) = true := fun l => by
    induction l with
    | nil => rfl
    | cons j l ih => simp [belowL, cx, below, ih]
  simp [wv, waveL, below, belowL, this]
theorem do_rounds {N : Nat} {n : Int} (hn : (N, n) ∈ doNs) {c : Cd} (hc : goodB c = true) {todoS : List Item} {tS : List AV} {HS : List AB} (kd : Int) : ∀ (m k : Nat) (a : Nat) (h : Int) (X : Nat → Nat × Nat), k + m = N →
    Reach Try.prog todoS tS HS doR (doT n kd (Int.ofNat k)) (memSW c a h n X) → ∃ a' h' X', Reach Try.prog todoS tS HS doR (doT n kd (Int.ofNat N)) (memSW c a' h' n X')
  | 0, k, a, h, X, hk, hr => by
    have : k = N := by omega
    subst this
    exact ⟨a, h, X, hr⟩
  | m + 1, k, a, h, X, hk, hr => by
    have hok : okB c c.off c.len = true := by simp [okB, hc]
    have h1 := map_mem (do_rd N n hn c a h kd X) (x := k) (by simp; omega)
    obtain ⟨H1, x, e1, e2, e3⟩ := (Steps1.of h1).reach (tab8_sound 7) hok rfl
    obtain ⟨a', h', xs⟩ := x
    have e4 := (hr.trans e3).post (getSW_spec e1 e2)
    exact do_rounds hn hc kd m (k + 1) a' h' _ (by omega) e4
theorem drawOf_ex {c : Cd} (hc : goodB c = true) (a : Nat) (h n : Int) (hn : n = 1 ∨ n = 2 ∨ n = 4 ∨ n = 8) : ∃ X a' h', SrcOK Try.prog 263 [.i false .i64 n] c a h (wv n X) a' h' := by
  have hok : okB c c.off c.len = true := by simp [okB, hc]
  obtain ⟨N, hN⟩ : ∃ N, (N, n) ∈ doNs := by
    rcases hn with rfl | rfl | rfl | rfl
    · exact ⟨1, by simp [doNs]⟩
    · exact ⟨4, by simp [doNs]⟩
    · exact ⟨16, by simp [doNs]⟩
    · exact ⟨64, by simp [doNs]⟩
  have hb : Try.f263.body = some doC := rfl
  obtain ⟨c1, c2⟩ := do_cond N n hN c a h
  have fin : ∀ {t : List AV} {H : List AB} {v : AV} {m : List Bool} {a' : Nat} {h' : Int} {X : Nat → Nat × Nat}, Ends Try.prog [.code doC] (doT0 n) [codeB c false, srcB c a h] t H → resV Try.prog t H Try.f263.results.toList = some ([v], m) → allT m = true →
      (∀ (σ : List (Nat × Nat)) (x : Value), Rel σ v x → Rel σ (wv n X) x) → readSrc (getB H 1) = some (c.off, c.len, a', h') → SrcOK Try.prog 263 [.i false .i64 n] c a h (wv n X) a' h' := fun {t H v m a' h' X} he hr hm hv hs => by
    have h1 : CallOK Try.prog 263 [.p true 1 0, .i true .i64 n] [codeB c false, srcB c a h] v H := call_of_ends (args := [.p true 1 0, .i true .i64 n]) Try.func263 hb he hr hm
    exact ⟨H, (h1.weaken hv).bare (args' := [.p true 1 0, .i false .i64 n]) rfl, hs, wv_low n X, rfl⟩
  by_cases hz : nxV c a h 8 = 0
  · have hz0 := do_zero N n hN c a h
    cases he : oneW (endOf Try.prog Try.f263.results.toList ((do0 c a h n).at [true])) with
    | none => rw [he] at hz0; cases hz0
    | some z =>
      obtain ⟨n', X, a', h', o, k, nd⟩ := z
      rw [he] at hz0
      simp only [oneW2, Option.some.injEq, Prod.mk.injEq] at hz0
      obtain ⟨rfl, rfl, rfl, hnd⟩ := hz0
      unfold oneW at he
      split at he <;> (try (cases he; done))
      rename_i l m H nd0 hend
      split at he <;> (try (cases he; done))
      rename_i n0 X0 o0 k0 a0 h0 hW hS
      simp only [Option.some.injEq, Prod.mk.injEq] at he
      obtain ⟨rfl, rfl, rfl, rfl, rfl, rfl, hmn⟩ := he
      have hall : allT (m ++ nd0) = true := by rw [hmn, hnd, hok]; rfl
      rw [allT_append, Bool.and_eq_true] at hall
      have hsel : (do0 c a h n0).sel = ((do0 c a h n0).at [true]).sel := Res.sel_at [true] _ (by rw [c2]; simp [hz])
      obtain ⟨t, e1, e2⟩ := endOf_ends (tab8_sound 7) hend hsel hall.2
      exact ⟨X0, a0, h0, fin e1 e2 hall.1 (fun σ x r => by have := r.deep; rw [ofW_spec hW] at this; exact this.undeep) hS⟩
  · have hsel : (do0 c a h n).sel = ((do0 c a h n).at [false]).sel := Res.sel_at [false] _ (by rw [c1]; simp [hz])
    obtain ⟨H1, x, e1, e2, e3⟩ := (Steps1.of (do_start N n hN c a h)).reach_sel (tab8_sound 7) hsel hok rfl
    obtain ⟨a1, h1, xs⟩ := x
    have e4 := e3.post (getSW_spec e1 e2)
    -- the loop's head, by either name
    have e5 : ∃ a' h' X', Reach Try.prog [.code doC] (doT0 n) [codeB c false, srcB c a h] doR (doT n (nxV c a h 8) (Int.ofNat N)) (memSW c a' h' n X') := by
      have hN0 : 0 < N := by simp only [doNs, List.mem_cons, Prod.mk.injEq, List.not_mem_nil, or_false] at hN; omega
      have k1 := map_mem (do_rd N n hN c a1 h1 (nxV c a h 8) fun j => xs.getD j (0, 0)) (x := 0) (by simp; omega)
      have k2 : (cupto Try.prog (tab8 7) atLoop 200 doL (doT n (nxV c a h 8) (Int.ofNat 0)) (memSW c a1 h1 n fun j => xs.getD j (0, 0))).sel = (doRd doR c a1 h1 n (nxV c a h 8) (Int.ofNat 0) fun j => xs.getD j (0, 0)).sel := by
        unfold doRd
        rw [← doR_eq, cupto_toLp]
      obtain ⟨H2, x2, f1, f2, f3⟩ := (Steps1.of k1).reach_sel (tab8_sound 7) k2 hok rfl
      obtain ⟨a2, h2, xs2⟩ := x2
      exact do_rounds hN hc _ (N - 1) 1 a2 h2 _ (by omega) ((e4.trans f3).post (getSW_spec f1 f2))
    obtain ⟨a', h', X', e6⟩ := e5
    obtain ⟨t, g1, g2⟩ := endOf_ends (tab8_sound 7) (do_end N n hN c a' h' (nxV c a h 8) X') rfl rfl
    exact ⟨X', a', h', fin (e6.ends g1) g2 rfl (fun _ _ r => r) rfl⟩
end Go.Ax

/- Rows out of 'some value of a form'; spec.l01Draw, l01Bad, l01Spoil, l01Near, DrawCellOf. -/
namespace Go.Ax
open Go Go.Proofs

/-- The value and the state behind it, of a call that gives some value of a form. -/
noncomputable def pickV {α : Type} [Inhabited α] (F : Form α) (f : FuncId) (sc : List AV) (c : Cd) (a : Nat) (h : Int) : α × Nat × Int :=
  open Classical in if hx : ∃ r : α × Nat × Int, SrcOK Try.prog f sc c a h (F.val r.1) r.2.1 r.2.2 then hx.choose else (default, a, h)
theorem pickV_ok {α : Type} [Inhabited α] {F : Form α} {f : FuncId} {sc : List AV} {c : Cd} {a : Nat} {h : Int} (hx : ∃ x a' h', SrcOK Try.prog f sc c a h (F.val x) a' h') : SrcOK Try.prog f sc c a h (F.val (pickV F f sc c a h).1) (pickV F f sc c a h).2.1 (pickV F f sc c a h).2.2 := by
  have he : ∃ r : α × Nat × Int, SrcOK Try.prog f sc c a h (F.val r.1) r.2.1 r.2.2 := by
    obtain ⟨x, a', h', e⟩ := hx
    exact ⟨(x, a', h'), e⟩
  unfold pickV
  rw [dif_pos he]
  exact he.choose_spec
noncomputable def exT {α : Type} [Inhabited α] (F : Form α) (f : FuncId) (norm : List AV → Option (List AV × List Bool)) : Table := srcT fun c a h sc => match norm sc with
  | some (sc', q) => some (F.val (pickV F f sc' c a h).1, (pickV F f sc' c a h).2.1, (pickV F f sc' c a h).2.2, q)
  | none => none
theorem exT_at {α : Type} [Inhabited α] {F : Form α} {f : FuncId} {norm : List AV → Option (List AV × List Bool)}
    (hn : ∀ sc sc' q, norm sc = some (sc', q) → allT q = true → sc.map AV.deep = sc'.map AV.deep ∧ belowL 0 sc = true ∧ ∀ c a h, goodB c = true → ∃ x a' h', SrcOK Try.prog f sc' c a h (F.val x) a' h') : SoundAt Try.prog f (exT F f norm) := fun args H nd K => by
  refine srcT_sound (fun c a h sc v a' h' q hc hg hq => ?_) args H nd K
  split at hg <;> (try (cases hg; done))
  rename_i sc' q' hns
  cases hg
  obtain ⟨e1, e2, e3⟩ := hn sc sc' q hns hq
  obtain ⟨H2, k, g1, g2, _⟩ := pickV_ok (e3 c a h hc)
  exact ⟨H2, k.deep (by simp only [List.map_cons, e1]), g1, g2, e2⟩
def norm0 : List AV → Option (List AV × List Bool)
  | [] => some ([], [])
  | _ => none
theorem norm0_at {α : Type} [Inhabited α] {F : Form α} {f : FuncId} (h : ∀ c a h, goodB c = true → ∃ x a' h', SrcOK Try.prog f [] c a h (F.val x) a' h') : SoundAt Try.prog f (exT F f norm0) :=
  exT_at fun sc sc' q hs _ => by
    unfold norm0 at hs
    split at hs <;> cases hs
    exact ⟨rfl, rfl, h⟩
def normS : List AV → Option (List AV × List Bool)
  | [.i l .i64 n] => match chk l (sideB n) with
    | some q => some ([.i false .i64 n], q)
    | none => none
  | _ => none
def normI : List AV → Option (List AV × List Bool)
  | [.i _ .i64 n] => some ([.i false .i64 n], [])
  | _ => none
theorem normI_at {α : Type} [Inhabited α] {F : Form α} {f : FuncId} (h : ∀ n c a h, goodB c = true → ∃ x a' h', SrcOK Try.prog f [.i false .i64 n] c a h (F.val x) a' h') : SoundAt Try.prog f (exT F f normI) :=
  exT_at fun sc sc' q hs _ => by
    unfold normI at hs
    split at hs <;> cases hs
    exact ⟨rfl, rfl, h _⟩
def normW : List AV → Option (List AV × List Bool)
  | [.agg l] => match ofW l, belowL 0 l with
    | some (n, X), true => some ([wv n X], [])
    | _, _ => none
  | _ => none
theorem normW_at {α : Type} [Inhabited α] {F : Form α} {f : FuncId} (h : ∀ n X c a h, goodB c = true → ∃ x a' h', SrcOK Try.prog f [wv n X] c a h (F.val x) a' h') : SoundAt Try.prog f (exT F f normW) :=
  exT_at fun sc sc' q hs _ => by
    unfold normW at hs
    split at hs <;> (try (cases hs; done))
    split at hs <;> cases hs
    rename_i hl hb _
    exact ⟨by simp [ofW_spec hl], by simp [belowL, below, hb], h _ _⟩
/-- Out of one evaluation. -/
theorem src_ex {α : Type} {F : Form α} {T : Table} {f : FuncId} {sc : List AV} {c : Cd} {a : Nat} {h : Int} {m : Nat} (hT : SoundT Try.prog T)
    (hn : ((srcEx F c (T f (.p true 1 0 :: sc) [codeB c false, srcB c a h] [] fun v H nd => .ret v H nd)).map fun r => r.2.2.2) = some (List.replicate m (okB c c.off c.len)))
    (hc : goodB c = true) (hsc : belowL 0 sc = true) : ∃ x a' h', SrcOK Try.prog f sc c a h (F.val x) a' h' := by
  refine srcOK_some hT ?_ hn hc hsc
  cases hr : srcEx F c (T f (.p true 1 0 :: sc) [codeB c false, srcB c a h] [] fun v H nd => .ret v H nd) with
  | none => rw [hr] at hn; cases hn
  | some r => rfl
theorem src_ex' {α : Type} {F : Form α} {T : Table} {f : FuncId} {sc : List AV} {c : Cd} {a : Nat} {h : Int} {l : List Bool} (hT : SoundT Try.prog T)
    (hn : ((srcEx F c (T f (.p true 1 0 :: sc) [codeB c false, srcB c a h] [] fun v H nd => .ret v H nd)).map fun r => r.2.2.2) = some l) (hl : allT l = true) (hsc : belowL 0 sc = true) : ∃ x a' h', SrcOK Try.prog f sc c a h (F.val x) a' h' := by
  cases hr : srcEx F c (T f (.p true 1 0 :: sc) [codeB c false, srcB c a h] [] fun v H nd => .ret v H nd) with
  | none => rw [hr] at hn; cases hn
  | some r =>
    obtain ⟨x, a', h', nd⟩ := r
    rw [hr] at hn
    simp only [Option.map_some, Option.some.injEq] at hn
    subst hn
    exact ⟨x, a', h', srcOK_of_ex hT hr hl hsc⟩
noncomputable def ndsOf {α : Type} (F : Form α) (T : Table) (f : FuncId) (sc : List AV) (c : Cd) (a : Nat) (h : Int) : Option (List Bool) :=
  (srcEx F c (T f (.p true 1 0 :: sc) [codeB c false, srcB c a h] [] fun v H nd => .ret v H nd)).map fun r => r.2.2.2
def formW : Form (Int × (Nat → Nat × Nat)) where
  get := fun
    | .agg l => ofW l
    | _ => none
  val := fun x => wv x.1 x.2
  rel := fun {v x} h σ y r => by
    split at h <;> (try (cases h; done))
    obtain ⟨n, X⟩ := x
    have := r.deep
    rw [ofW_spec h] at this
    exact this.undeep
  low := fun x => wv_low x.1 x.2
theorem drawOf_at : SoundAt Try.prog 263 (exT formW 263 normS) :=
  exT_at fun sc sc' q hs hq => by
    unfold normS at hs
    split at hs <;> (try (cases hs; done))
    split at hs <;> cases hs
    rename_i hch
    have hq := chk_spec hch hq
    refine ⟨rfl, rfl, fun c a h hc => ?_⟩
    obtain ⟨X, a', h', e⟩ := drawOf_ex hc a h _ (sideB_iff.1 hq)
    exact ⟨(_, X), a', h', e⟩
noncomputable def rows9 (mx : Int) : List (FuncId × Table) := (263, exT formW 263 normS) :: rows8 mx
theorem rows9_at (mx : Int) : allAt Try.prog (rows9 mx) := ⟨drawOf_at, rows8_at mx⟩
def inlS : List FuncId := [95, 200, 124, 112, 207, 206, 111, 125, 126, 114, 161, 22, 24, 34, 38, 40, 43, 47, 50, 53, 56, 60, 63, 66, 69, 72, 75, 79, 86, 88, 91, 171]
noncomputable def tab9 (mx : Int) : Table := tabOf (cdeep Try.prog (rows9 mx) inlS 2000 6)
theorem tab9_sound (mx : Int) : SoundT Try.prog (tab9 mx) := cdeep_sound (allAt_mem (rows9_at mx)) 6

theorem draw_nd (c : Cd) (a : Nat) (h : Int) : ndsOf formW (tab9 7) 207 [] c a h = some (List.replicate 21 (okB c c.off c.len)) := by kernel_rfl
theorem draw_at : SoundAt Try.prog 207 (exT formW 207 norm0) := norm0_at fun c a h hc => src_ex (tab9_sound 7) (draw_nd c a h) hc rfl
noncomputable def badNd (k : Bool) (v : Int) : List Bool := List.replicate 16 k ++ ([decide (1 + v.toNat * 1 < 65), !decide (1 + v.toNat * 1 = 0), decide (0 ≤ v) && decide (v < ((64 : Nat) : Int))] ++ List.replicate 6 k)
theorem bad_nd (n : Int) (X : Nat → Nat × Nat) (c : Cd) (a : Nat) (h : Int) : ndsOf formW (tab9 5) 206 [wv n X] c a h = some (badNd (okB c c.off c.len) (nxV c (nxA c a 40) (nxS h 40) 64)) := by kernel_rfl
theorem bad_at : SoundAt Try.prog 206 (exT formW 206 normW) := normW_at fun n X c a h hc => by
  refine src_ex' (tab9_sound 5) (bad_nd n X c a h) ?_ (by simp [belowL, wv_low])
  have hk : okB c c.off c.len = true := by simp [okB, hc]
  have hb := nxV_bound hc (nxA c a 40) (nxS h 40) 64
  have hb2 := hb.2 (by decide)
  generalize nxV c (nxA c a 40) (nxS h 40) 64 = v at *
  have e1 : decide (1 + v.toNat * 1 < 65) = true := by simp; omega
  have e2 : (!decide (1 + v.toNat * 1 = 0)) = true := by simp
  have e3 : (decide (0 ≤ v) && decide (v < ((64 : Nat) : Int))) = true := by simp; omega
  unfold badNd
  rw [hk, e1, e2, e3]
  rfl
noncomputable def rows10 (mx : Int) : List (FuncId × Table) := (206, exT formW 206 normW) :: (207, exT formW 207 norm0) :: rows9 mx
theorem rows10_at (mx : Int) : allAt Try.prog (rows10 mx) := ⟨bad_at, draw_at, rows9_at mx⟩
noncomputable def tab10 (mx : Int) : Table := tabOf (cdeep Try.prog (rows10 mx) inlS 2000 6)
theorem tab10_sound (mx : Int) : SoundT Try.prog (tab10 mx) := cdeep_sound (allAt_mem (rows10_at mx)) 6

theorem spoil_nd (c : Cd) (a : Nat) (h : Int) : ndsOf formW (tab10 4) 111 [] c a h = some (List.replicate 3 (okB c c.off c.len)) := by kernel_rfl
theorem spoil_at : SoundAt Try.prog 111 (exT formW 111 norm0) := norm0_at fun c a h hc => src_ex (tab10_sound 4) (spoil_nd c a h) hc rfl
theorem near_nd (n : Int) (c : Cd) (a : Nat) (h : Int) : ndsOf formI (tab10 4) 112 [.i false .i64 n] c a h = some (List.replicate 15 (okB c c.off c.len)) := by kernel_rfl
theorem near_at : SoundAt Try.prog 112 (exT formI 112 normI) := normI_at fun n c a h hc => src_ex (tab10_sound 4) (near_nd n c a h) hc rfl
noncomputable def rows11 (mx : Int) : List (FuncId × Table) := (112, exT formI 112 normI) :: (111, exT formW 111 norm0) :: rows10 mx
theorem rows11_at (mx : Int) : allAt Try.prog (rows11 mx) := ⟨near_at, spoil_at, rows10_at mx⟩
noncomputable def tab11 (mx : Int) : Table := tabOf (cdeep Try.prog (rows11 mx) inlS 2000 6)
theorem tab11_sound (mx : Int) : SoundT Try.prog (tab11 mx) := cdeep_sound (allAt_mem (rows11_at mx)) 6
end Go.Ax

/- spec.l03Mask, l03Spoil, DrawComplementOf, DrawOpenCells: some wave. -/
namespace Go.Ax
open Go Go.Proofs

theorem srcOK_bare {P : Program} {f : FuncId} {sc sc' : List AV} {c : Cd} {a a' : Nat} {h h' : Int} {v : AV} (k : SrcOK P f sc c a h v a' h') (e : sc'.map AV.bare = sc.map AV.bare) (hl : belowL 0 sc' = true) : SrcOK P f sc' c a h v a' h' := by
  obtain ⟨H2, k1, k2, k3, _⟩ := k
  exact ⟨H2, k1.bare (by simp only [List.map_cons, e]), k2, k3, hl⟩
theorem mask_nd (n : Int) (m : Nat) (h : (n, m) ∈ ([(1, 2), (2, 5), (4, 17), (8, 65)] : List (Int × Nat))) (c : Cd) (a : Nat) (hh : Int) : ndsOf formW (tab11 1) 126 [.i true .i64 n] c a hh = some (List.replicate m (okB c c.off c.len)) := by
  simp only [List.mem_cons, Prod.mk.injEq, List.not_mem_nil, or_false] at h
  rcases h with ⟨rfl, rfl⟩ | ⟨rfl, rfl⟩ | ⟨rfl, rfl⟩ | ⟨rfl, rfl⟩ <;> kernel_rfl
theorem mask_at : SoundAt Try.prog 126 (exT formW 126 normS) :=
  exT_at fun sc sc' q hs hq => by
    unfold normS at hs
    split at hs <;> (try (cases hs; done))
    split at hs <;> cases hs
    rename_i n _ hch
    have hq := chk_spec hch hq
    refine ⟨rfl, rfl, fun c a h hc => ?_⟩
    have key : ∀ n m, (n, m) ∈ ([(1, 2), (2, 5), (4, 17), (8, 65)] : List (Int × Nat)) → ∃ x a' h', SrcOK Try.prog 126 [.i false .i64 n] c a h (formW.val x) a' h' := fun n m hm => by
      obtain ⟨x, a', h', e⟩ := src_ex (tab11_sound 1) (mask_nd n m hm c a h) hc rfl
      exact ⟨x, a', h', srcOK_bare e rfl rfl⟩
    rcases sideB_iff.1 hq with rfl | rfl | rfl | rfl
    · exact key 1 2 (by simp)
    · exact key 2 5 (by simp)
    · exact key 4 17 (by simp)
    · exact key 8 65 (by simp)
noncomputable def msNd (k : Bool) (v : Int) : List Bool :=
  let l := [k, decide (1 + v.toNat * 1 < 65), !decide (1 + v.toNat * 1 = 0), decide (0 ≤ v) && decide (v < ((64 : Nat) : Int)), k, k, k, k]
  l ++ (l ++ (l ++ (l ++ (l ++ (l ++ [k, k])))))
theorem ms_nd (n : Int) (X : Nat → Nat × Nat) (c : Cd) (a : Nat) (h : Int) : ndsOf formW (tab11 4) 125 [wv n X] c a h = some (msNd (okB c c.off c.len) (nxV c (nxA c a 20) (nxS h 20) 64)) := by kernel_rfl
theorem ms_at : SoundAt Try.prog 125 (exT formW 125 normW) := normW_at fun n X c a h hc => by
  refine src_ex' (tab11_sound 4) (ms_nd n X c a h) ?_ (by simp [belowL, wv_low])
  have hk : okB c c.off c.len = true := by simp [okB, hc]
  have hb := nxV_bound hc (nxA c a 20) (nxS h 20) 64
  have hb2 := hb.2 (by decide)
  generalize nxV c (nxA c a 20) (nxS h 20) 64 = v at *
  have e1 : decide (1 + v.toNat * 1 < 65) = true := by simp; omega
  have e2 : (!decide (1 + v.toNat * 1 = 0)) = true := by simp
  have e3 : (decide (0 ≤ v) && decide (v < ((64 : Nat) : Int))) = true := by simp; omega
  unfold msNd
  rw [hk, e1, e2, e3]
  rfl
noncomputable def rows12 (mx : Int) : List (FuncId × Table) := (126, exT formW 126 normS) :: (125, exT formW 125 normW) :: rows11 mx
theorem rows12_at (mx : Int) : allAt Try.prog (rows12 mx) := ⟨mask_at, ms_at, rows11_at mx⟩
end Go.Ax

/- A function cut at a place: where to stop, and what of memory is kept. -/
namespace Go.Ax
open Go Go.Proofs

def belowB (n : Nat) : AB → Bool
  | .cells _ (.lit l) => belowL n l
  | _ => true
def belowH (n : Nat) : List AB → Bool
  | [] => true
  | B :: H => belowB n B && belowH n H
theorem renI_lt {k i : Nat} (h : i < k) : renI k i = some i := by
  unfold renI
  rw [decide_eq_true h]
mutual
theorem renV_lt {n k : Nat} (hk : n ≤ k) : ∀ {a : AV}, below n a = true → renV k a = a
  | .p l id off, h => by
    have h : id < n := by simpa [below] using h
    simp only [renV, renI_lt (Nat.lt_of_lt_of_le h hk)]
  | .sl l id off len z, h => by
    have h : id < n := by simpa [below] using h
    simp only [renV, renI_lt (Nat.lt_of_lt_of_le h hk)]
  | .fn g f c, h => by
    simp only [below, Bool.and_eq_true] at h
    simp only [renV, renL_lt hk h.1, renL_lt hk h.2]
  | .ifc t v, h => by
    simp only [below] at h
    simp only [renV, renV_lt hk h]
  | .agg l, h => by
    simp only [below] at h
    simp only [renV, renL_lt hk h]
  | .tup l, h => by
    simp only [below] at h
    simp only [renV, renL_lt hk h]
  | .b _ _, _ => rfl
  | .i _ _ _, _ => rfl
  | .f _ _ _, _ => rfl
  | .c _ _ _ _, _ => rfl
  | .s _ _, _ => rfl
  | .pnil, _ => rfl
  | .slnil, _ => rfl
  | .sle, _ => rfl
  | .fnil, _ => rfl
  | .inil, _ => rfl
  | .any, _ => rfl
theorem renL_lt {n k : Nat} (hk : n ≤ k) : ∀ {l : List AV}, belowL n l = true → renL k l = l
  | [], _ => rfl
  | a :: l, h => by
    simp only [belowL, Bool.and_eq_true] at h
    simp only [renL, renV_lt hk h.1, renL_lt hk h.2]
end
theorem renB_lt {n k : Nat} (hk : n ≤ k) {B : AB} (h : belowB n B = true) : renB k B = B := by
  cases B with
  | cells r A =>
    cases A with
    | lit l => simp only [renB, renL_lt hk (show belowL n l = true from h)]
    | _ => rfl
  | _ => rfl
theorem dropB_snoc {n k0 : Nat} (hk : n ≤ k0) : ∀ {H : List AB} {B : AB}, belowH n H = true → dropB k0 H.length (H ++ [B]) = H
  | [], _, _ => rfl
  | A :: H, B, h => by
    simp only [belowH, Bool.and_eq_true] at h
    simp only [List.cons_append, List.length_cons, dropB, renB_lt hk h.1, dropB_snoc hk h.2]
theorem belowH_append {n : Nat} : ∀ {H G : List AB}, belowH n (H ++ G) = (belowH n H && belowH n G)
  | [], _ => rfl
  | B :: H, G => by simp only [List.cons_append, belowH, belowH_append (H := H), Bool.and_assoc]
section
variable {P : Program}
/-- The last block, which nothing names, is let go. -/
theorem Reach.last {todo todo' : List Item} {t t1 : List AV} {H H1 : List AB} {B : AB} (h : Reach P todo t H todo' t1 (H1 ++ [B])) (hl : H.length ≤ H1.length) (ht : belowL H1.length t1 = true) (hB : belowH H1.length H1 = true) : Reach P todo t H todo' t1 H1 := by
  have k := h.drop H1.length hl (by simp)
  rwa [renL_lt (Nat.le_refl _) ht, dropB_snoc (Nat.le_refl _) hB] at k
mutual
theorem below_mono {n m : Nat} (hnm : n ≤ m) : ∀ {a : AV}, below n a = true → below m a = true
  | .p l id off, h => by simp [below] at h ⊢; omega
  | .sl l id off len z, h => by simp [below] at h ⊢; omega
  | .fn g f c, h => by
    simp only [below, Bool.and_eq_true] at h ⊢
    exact ⟨belowL_mono hnm h.1, belowL_mono hnm h.2⟩
  | .ifc t v, h => by
    simp only [below] at h ⊢
    exact below_mono hnm h
  | .agg l, h => by
    simp only [below] at h ⊢
    exact belowL_mono hnm h
  | .tup l, h => by
    simp only [below] at h ⊢
    exact belowL_mono hnm h
  | .b _ _, _ => rfl
  | .i _ _ _, _ => rfl
  | .f _ _ _, _ => rfl
  | .c _ _ _ _, _ => rfl
  | .s _ _, _ => rfl
  | .pnil, _ => rfl
  | .slnil, _ => rfl
  | .sle, _ => rfl
  | .fnil, _ => rfl
  | .inil, _ => rfl
  | .any, _ => rfl
theorem belowL_mono {n m : Nat} (hnm : n ≤ m) : ∀ {l : List AV}, belowL n l = true → belowL m l = true
  | [], _ => rfl
  | a :: l, h => by
    simp only [belowL, Bool.and_eq_true] at h ⊢
    exact ⟨below_mono hnm h.1, belowL_mono hnm h.2⟩
end
theorem belowH_mono {n m : Nat} (hnm : n ≤ m) : ∀ {H : List AB}, belowH n H = true → belowH m H = true
  | [], _ => rfl
  | B :: H, h => by
    simp only [belowH, Bool.and_eq_true] at h ⊢
    refine ⟨?_, belowH_mono hnm h.2⟩
    cases B with
    | cells r A =>
      cases A with
      | lit l => exact belowL_mono hnm h.1
      | _ => rfl
    | _ => rfl
/-- A block out of use: whatever it holds. -/
theorem Reach.dead {todo todo' : List Item} {t t1 : List AV} {H H1 : List AB} {B : AB} {G : List AB} (h : Reach P todo t H todo' t1 (H1 ++ B :: G)) (hl : H.length ≤ H1.length) : Reach P todo t H todo' t1 (H1 ++ .dead :: G) := fun σ w a b cs s r => by
  obtain ⟨a', w', σ', e1, r1, d1, s1, f1⟩ := h σ w a b cs s r
  have hg : ∀ i, i ≠ H1.length → getB (H1 ++ .dead :: G) i = getB (H1 ++ B :: G) i := fun i hi => by
    rcases Nat.lt_or_ge i H1.length with h | h
    · rw [getB_append_left h, getB_append_left h]
    · rw [getB_append_right h, getB_append_right h]
      match hd : i - H1.length with
      | 0 => omega
      | k + 1 => rfl
  have hd : getB (H1 ++ .dead :: G) H1.length = .dead := by
    rw [getB_append_right (Nat.le_refl _), Nat.sub_self]; rfl
  refine ⟨a', w', σ', e1, r1, d1, ⟨by rw [s1.len]; simp, fun i b z hb => ?_, fun i j b z z' hi hj hr hl' => ?_⟩, ⟨f1.os, f1.tape, f1.output, f1.size, f1.old, f1.ext, f1.new, fun i hi hr => ?_⟩⟩
  · by_cases hi : i = H1.length
    · subst hi; rw [hd]; trivial
    · rw [hg i hi]; exact s1.blk i b z hb
  · by_cases hi' : i = H1.length
    · subst hi'; rw [hd] at hr; cases hr
    · by_cases hj' : j = H1.length
      · subst hj'; rw [hd] at hl'; cases hl'
      · rw [hg i hi'] at hr
        rw [hg j hj'] at hl'
        exact s1.inj i j b z z' hi hj hr hl'
  · have hl0 := s.len
    rw [hg i (by omega)] at hr
    exact f1.mono i hi hr
theorem Reach.deadAll {todo todo' : List Item} {t t1 : List AV} {H : List AB} : ∀ {G H1 : List AB}, Reach P todo t H todo' t1 (H1 ++ G) → H.length ≤ H1.length → Reach P todo t H todo' t1 (H1 ++ List.replicate G.length .dead)
  | [], _, h, _ => h
  | B :: G, H1, h, hl => by
    have h1 := h.dead hl
    have e : H1 ++ AB.dead :: G = (H1 ++ [AB.dead]) ++ G := by simp
    rw [e] at h1
    have h2 := Reach.deadAll h1 (by simp; omega)
    have e2 : H1 ++ [AB.dead] ++ List.replicate G.length AB.dead = H1 ++ List.replicate (B :: G).length AB.dead := by simp [List.replicate_succ]
    rwa [e2] at h2
theorem belowH_dead (n : Nat) : ∀ m, belowH n (List.replicate m .dead) = true
  | 0 => rfl
  | m + 1 => by simp only [List.replicate_succ, belowH, belowH_dead n m]; rfl
theorem Reach.dropAll {todo todo' : List Item} {t t1 : List AV} {H H1 : List AB} (hl : H.length ≤ H1.length) (ht : belowL H1.length t1 = true) (hB : belowH H1.length H1 = true) : ∀ {m : Nat}, Reach P todo t H todo' t1 (H1 ++ List.replicate m .dead) → Reach P todo t H todo' t1 H1
  | 0, h => by rwa [List.replicate_zero, List.append_nil] at h
  | m + 1, h => by
    rw [List.replicate_succ', ← List.append_assoc] at h
    have hm : H1.length ≤ (H1 ++ List.replicate m AB.dead).length := by simp
    exact Reach.dropAll hl ht hB (h.last (by omega) (belowL_mono hm ht) (by rw [belowH_append, belowH_mono hm hB, belowH_dead]; rfl))
/-- Only the first blocks are kept. -/
theorem Reach.keep {todo todo' : List Item} {t t1 : List AV} {H H1 G : List AB} (h : Reach P todo t H todo' t1 (H1 ++ G)) (hl : H.length ≤ H1.length) (ht : belowL H1.length t1 = true) (hB : belowH H1.length H1 = true) : Reach P todo t H todo' t1 H1 :=
  Reach.dropAll hl ht hB (h.deadAll hl)
end
end Go.Ax

/- Regions of open order in which calls that write to one block (and follow each other) stand among operations that leave memory alone. -/
namespace Go.Ax
open Go

section
variable {P : Program} {T : Table} {ops : Array Oper} {m : Nat}

end

/-! ### Their evaluation -/
end Go.Ax

/- Regions of open order in which one block is made among operations that leave memory alone. -/
namespace Go.Ax
open Go

section
variable {P : Program} {T : Table} {ops : Array Oper} {m e : Nat}

theorem Sim.less {σ : List (Nat × Nat)} {x : Nat × Nat} {H : List AB} {B : AB} {w : World} (s : Sim (σ ++ [x]) (H ++ [B]) w) (hlow : lowH H.length H = true) : Sim σ H w := by
  have hlen : σ.length = H.length := by simpa using s.len
  have hx : ∀ {i : Nat} {p : Nat × Nat}, σ[i]? = some p → (σ ++ [x])[i]? = some p := fun h => Ext.append σ [x] _ _ h
  have hg : ∀ {i : Nat} {p : Nat × Nat}, σ[i]? = some p → getB (H ++ [B]) i = getB H i := fun h => getB_append_left (by rw [← hlen]; exact isSome_lt h)
  refine ⟨hlen, fun i b z hi => ?_, fun i j b z z' hi hj hr hl => s.inj i j b z z' (hx hi) (hx hj) (by rw [hg hi]; exact hr) (by rw [hg hj]; exact hl)⟩
  have := s.blk i b z (hx hi)
  rw [hg hi] at this
  exact low_blk (Ext.append σ [x]) hlen (lowH_get hlow i) this
theorem Sim.more {σ : List (Nat × Nat)} {x : Nat × Nat} {H : List AB} {B : AB} {w w' : World} (s1 : Sim (σ ++ [x]) (H ++ [B]) w) (hl : B.live = true) (s' : Sim σ H w') (f : Fr σ H w σ H w') :
    Sim (σ ++ [x]) (H ++ [B]) w' ∧ Fr (σ ++ [x]) (H ++ [B]) w (σ ++ [x]) (H ++ [B]) w' := by
  have hlen : σ.length = H.length := s'.len
  have hx : ∀ {i : Nat} {p : Nat × Nat}, σ[i]? = some p → (σ ++ [x])[i]? = some p := fun h => Ext.append σ [x] _ _ h
  have hg : ∀ {i : Nat} {p : Nat × Nat}, σ[i]? = some p → getB (H ++ [B]) i = getB H i := fun h => getB_append_left (by rw [← hlen]; exact isSome_lt h)
  have hgB : getB (H ++ [B]) σ.length = B := by rw [getB_append_right (by omega), hlen, Nat.sub_self]; rfl
  have hxB : (σ ++ [x])[σ.length]? = some x := by simp
  refine ⟨⟨s1.len, fun i b z hi => ?_, s1.inj⟩, f.os, f.tape, f.output, f.size, fun b hb hno => f.old b hb fun i z hr hi => ?_, Ext.refl _, fun i b z h h' => (by rw [h'] at h; cases h), fun _ _ h => h⟩
  · rcases Nat.lt_or_ge i σ.length with h | h
    · have hi' : σ[i]? = some (b, z) := by rw [List.getElem?_append_left h] at hi; exact hi
      rw [hg hi']
      exact (s'.blk i b z hi').mono (Ext.append σ [x])
    · have hlt := isSome_lt hi
      simp only [List.length_append, List.length_cons, List.length_nil] at hlt
      have : i = σ.length := by omega
      subst this
      have hb := s1.lt hi (by rw [hgB]; exact hl)
      rw [f.old b hb fun i' z' hr' hi' => ?_]
      · exact s1.blk _ b z hi
      · have := s1.inj i' σ.length b z' z (hx hi') hi (by rw [hg hi']; exact hr') (by rw [hgB]; exact hl)
        have := isSome_lt hi'
        omega
  · exact hno i z (by rw [hg hi]; exact hr) (hx hi)

/-! ### Their evaluation -/
end
end Go.Ax

/- A function in stages: what is kept at a place. -/
namespace Go.Ax
open Go Go.Proofs

def lk (i : Nat) : List (Nat × AV) → AV
  | [] => .any
  | (j, a) :: l => match Nat.beq i j with
    | true => a
    | false => lk i l
def lkB (i : Nat) : List (Nat × AV) → Bool
  | [] => true
  | (j, _) :: l => match Nat.beq i j with
    | true => false
    | false => lkB i l
/-- Temporaries of which only some are of use. -/
def tmpsOf (n : Nat) (l : List (Nat × AV)) : List AV := (List.range n).map fun i => lk i l
def maskOf (n : Nat) (l : List (Nat × AV)) : List Bool := (List.range n).map fun i => lkB i l
noncomputable def lfK (k : Nat) (M : List Bool) (r : Res) : Bool × List Item × List AV × List AB × List Bool := (r.isStop, r.todo, bareBlur M r.tOf, r.HOf.take k, r.nds)
theorem way_pre {P : Program} {T : Table} {stop : List Item → Bool} {n k : Nat} {L todo' : List Item} {p M nd : List Bool} {t0 t' : List AV} {H0 H1 : List AB} (hT : SoundT P T) (hc : allT (condsP (jupto P T stop n L t0 H0) p) = true)
    (hl : lfK k M ((jupto P T stop n L t0 H0).at p) = (true, todo', t'.map AV.bare, H1, nd)) (hn : allT nd = true) : ∃ G, Reach P L t0 H0 todo' t' (H1 ++ G) := by
  simp only [lfK, Prod.mk.injEq] at hl
  obtain ⟨a1, a2, a3, a4, a5⟩ := hl
  have h := way_reach (stop := stop) (n := n) (R := L) (p := p) (M := M) (nd := nd) (t' := t') (todo' := todo') (H' := ((jupto P T stop n L t0 H0).at p).HOf) hT rfl hc (by simp only [lfM, a1, a2, a3, a5]) hn
  rw [← List.take_append_drop k (((jupto P T stop n L t0 H0).at p).HOf), a4] at h
  exact ⟨_, h⟩
/-- The end's answer, without its memory. -/
noncomputable def endV (P : Program) (rs : List ResultVar) (r : Res) : Option (Option (List AV × List Bool) × List Bool) := match endOf P rs r with
  | some (x, _, nd) => some (x, nd)
  | none => none
theorem endV_ends {P : Program} {T : Table} {stop : List Item → Bool} {n : Nat} {L : List Item} {p nd : List Bool} {t0 : List AV} {H0 : List AB} {rs : List ResultVar} {x : Option (List AV × List Bool)} (hT : SoundT P T) (hc : allT (condsP (jupto P T stop n L t0 H0) p) = true)
    (hl : endV P rs ((jupto P T stop n L t0 H0).at p) = some (x, nd)) (hn : allT nd = true) : ∃ t H', Ends P L t0 H0 t H' ∧ resV P t H' rs = x := by
  unfold endV at hl
  split at hl <;> cases hl
  rename_i he
  obtain ⟨t, e1, e2⟩ := way_ends (stop := stop) (n := n) (R := L) hT rfl hc he hn
  exact ⟨t, _, e1, e2⟩
end Go.Ax

/- One way of an evaluation that branches, with blocks out of use dropped. -/
namespace Go.Ax
open Go Go.Proofs

/-- Blocks dropped one behind the other: what is left, and whether they were there. -/
def dropsT (k0 : Nat) : List Nat → List AV → List AB → Bool × List AV × List AB
  | [], t, H => (true, t, H)
  | k :: ks, t, H => match Nat.ble k0 k && Nat.blt k H.length with
    | true => dropsT k0 ks (renL k t) (dropB k k H)
    | false => (false, t, H)
section
variable {P : Program} {T : Table}
theorem Reach.drops {todo todo' : List Item} {t : List AV} {H : List AB} : ∀ {ks : List Nat} {t1 t2 : List AV} {H1 H2 : List AB}, Reach P todo t H todo' t1 H1 → dropsT H.length ks t1 H1 = (true, t2, H2) → Reach P todo t H todo' t2 H2
  | [], _, _, _, _, h, e => by cases e; exact h
  | k :: ks, _, _, _, _, h, e => by
    simp only [dropsT] at e
    split at e
    · rename_i hb
      rw [Bool.and_eq_true] at hb
      exact Reach.drops (h.drop k (Nat.le_of_ble_eq_true hb.1) (blt_true hb.2)) e
    · cases e
/-- A stop, with blocks dropped. -/
noncomputable def lfD (k0 : Nat) (ks : List Nat) (M : List Bool) (r : Res) : Bool × List Item × (Bool × List AV × List AB) × List Bool :=
  (r.isStop, r.todo, ((dropsT k0 ks r.tOf r.HOf).1, bareBlur M (dropsT k0 ks r.tOf r.HOf).2.1, (dropsT k0 ks r.tOf r.HOf).2.2), r.nds)
theorem sel_drop {todo todo' : List Item} {k0 : Nat} {ks : List Nat} {t0 t' : List AV} {H0 H' : List AB} {M nd p : List Bool} {R : Res} (hk : H0.length = k0) (hr : ∀ {todo1 t1 H1 nd1}, R.sel = .stop todo1 t1 H1 nd1 → allT nd1 = true → Reach P todo t0 H0 todo1 t1 H1) (hc : allT (condsP R p) = true)
    (hl : lfD k0 ks M (R.at p) = (true, todo', (true, t'.map AV.bare, H'), nd)) (hn : allT nd = true) : Reach P todo t0 H0 todo' t' H' := by
  simp only [lfD, Prod.mk.injEq] at hl
  obtain ⟨a1, a2, ⟨a3, a4, a5⟩, a6⟩ := hl
  have hs := isStop_at a1 hc
  have h := hr hs (by rw [a6]; exact hn)
  subst hk
  have h2 := h.drops (ks := ks) (t2 := (dropsT H0.length ks (R.at p).tOf (R.at p).HOf).2.1) (H2 := (dropsT H0.length ks (R.at p).tOf (R.at p).HOf).2.2) (Prod.ext a3 rfl)
  rw [a2, a5] at h2
  exact (h2.weak (blur_eqv M _)).weak (eqv_of_bare a4)
theorem cway_drop {stop : List Item → Bool} {n k0 : Nat} {ks : List Nat} {L todo' : List Item} {p M nd : List Bool} {t0 t' : List AV} {H0 H' : List AB} (hT : SoundT P T) (hk : H0.length = k0) (hc : allT (condsP (cupto P T stop n L t0 H0) p) = true)
    (hl : lfD k0 ks M ((cupto P T stop n L t0 H0).at p) = (true, todo', (true, t'.map AV.bare, H'), nd)) (hn : allT nd = true) : Reach P L t0 H0 todo' t' H' :=
  sel_drop hk (fun hs h => cupto_reach hT hs h) hc hl hn
theorem jway_drop {stop : List Item → Bool} {n k0 : Nat} {ks : List Nat} {L todo' : List Item} {p M nd : List Bool} {t0 t' : List AV} {H0 H' : List AB} (hT : SoundT P T) (hk : H0.length = k0) (hc : allT (condsP (jupto P T stop n L t0 H0) p) = true)
    (hl : lfD k0 ks M ((jupto P T stop n L t0 H0).at p) = (true, todo', (true, t'.map AV.bare, H'), nd)) (hn : allT nd = true) : Reach P L t0 H0 todo' t' H' :=
  sel_drop hk (fun hs h => jupto_reach hT hs h) hc hl hn
theorem cway_reach {stop : List Item → Bool} {n : Nat} {L todo' : List Item} {p M nd : List Bool} {t0 t' : List AV} {H0 H' : List AB} (hT : SoundT P T) (hc : allT (condsP (cupto P T stop n L t0 H0) p) = true)
    (hl : lfM M ((cupto P T stop n L t0 H0).at p) = (true, todo', t'.map AV.bare, H', nd)) (hn : allT nd = true) : Reach P L t0 H0 todo' t' H' := by
  simp only [lfM, Prod.mk.injEq] at hl
  obtain ⟨a1, a2, a3, a4, a5⟩ := hl
  have hs := isStop_at a1 hc
  have hr := cupto_reach hT hs (by rw [a5]; exact hn)
  rw [a2, a4] at hr
  exact (hr.weak (blur_eqv M _)).weak (eqv_of_bare a3)
/-- An end, with blocks dropped: the value, memory, and whether all that is to be shown holds. -/
noncomputable def leafE (P : Program) (rs : List ResultVar) (k0 : Nat) (ks : List Nat) (r : Res) : Option (AV × List AB × Bool) := match endOf P rs r with
  | some (some (vs, m), H, nd) => match dropN k0 ks (tupV vs) H with
    | some (v, H') => some (v, H', allT (m ++ nd))
    | none => none
  | _ => none
theorem cend_call {stop : List Item → Bool} {n : Nat} {ks : List Nat} {L : List Item} {p : List Bool} {t1 args : List AV} {H0 H1 H' : List AB} {f : FuncId} {fn : Func} {C : Code} {v : AV} (hT : SoundT P T) (hf : P.funcs[f]? = some fn) (hb : fn.body = some C)
    (hr : Reach P [.code C] (args ++ undefs (fn.ntmps - args.length)) H0 L t1 H1) (hc : allT (condsP (cupto P T stop n L t1 H1) p) = true) (hl : leafE P fn.results.toList H0.length ks ((cupto P T stop n L t1 H1).at p) = some (v, H', true)) : CallOK P f args H0 v H' := by
  unfold leafE at hl
  split at hl <;> (try (cases hl; done))
  rename_i vs m H nd he
  split at hl <;> (try (cases hl; done))
  rename_i v0 H3 hd
  simp only [Option.some.injEq, Prod.mk.injEq] at hl
  obtain ⟨rfl, rfl, hn⟩ := hl
  rw [allT_append, Bool.and_eq_true] at hn
  obtain ⟨u, e1, e2⟩ := endOf_ends hT he (sel_of_conds _ _ hc) hn.2
  exact dropN_call hd (call_of_ends hf hb (hr.ends e1) e2 hn.1)
end
end Go.Ax

/- spec.l07Map: its loop, evaluated. -/
namespace Go.Ax
open Go Go.Proofs

noncomputable def mpC : Code := Try.f171.body.getD .skip
noncomputable def tabMp : Table := tabOf (cdeep Try.prog (rows12 7) [95, 124] 2000 6)
theorem tabMp_sound : SoundT Try.prog tabMp := cdeep_sound (allAt_mem (rows12_at 7)) 6
def mpH (c : Cd) (a : Nat) (h : Int) (xs : List Int) : List AB := [codeB c false, srcB c a h, .cells true (.ints .i64 xs)]
noncomputable def mp0 (c : Cd) (a : Nat) (h : Int) (w : Bool) : Res := cupto Try.prog tabMp atLoop 200 [.code mpC] (.p true 1 0 :: .b true w :: undefs 80) [codeB c false, srcB c a h]
noncomputable def mpL : List Item := ((mp0 ⟨[], 0, 0⟩ 0 0 true).at [true, true]).todo ++ []
noncomputable def mpR : List Item := toLp mpL
theorem mpR_eq : toLp mpR = mpR := by kernel_rfl
def mpTl (w : Bool) (n kd U V : Int) (s : AV) (k : AV) : List AV := tmpsOf 82 [(0, .p true 1 0), (1, .b true w), (6, .i true .i64 n), (7, s), (8, .i false .i64 U), (9, .i false .i64 V), (10, .i true .i64 kd), (11, k)]
def mpT (w : Bool) (n kd U V : Int) (k : Nat) (xs : List Int) : List AV := mpTl w n kd U V (.sl false 2 0 xs.length 1) (.i false .i64 (Int.ofNat k))
def mpM : List Bool := maskOf 82 [(0, .any), (1, .any), (6, .any), (7, .any), (8, .any), (9, .any), (10, .any), (11, .any)]
/-! ### The beginning -/
def mpPs : List (Int × Int) := ([8, 4, 4, 4, 2, 2, 1] : List Int).flatMap fun n => ([3, 2, 1, 0] : List Int).map fun k => (n, k)
noncomputable def mpUV (c : Cd) (a : Nat) (h : Int) : Int := wrapQ false .i64 (nxV c a h 61 - 30)
noncomputable def mpF (x : Leaf) : List Item × (Bool × List AV × List AB) × List Bool := (x.todo, ((dropsT 2 [2] x.t x.H).1, bareBlur mpM (dropsT 2 [2] x.t x.H).2.1, (dropsT 2 [2] x.t x.H).2.2), x.nd)
theorem mp0_ok (c : Cd) (a : Nat) (h : Int) (w : Bool) : ((mp0 c a h w).allStop, (mp0 c a h w).stops.map mpF) =
    (true, mpPs.map fun p => (mpL, (true, (mpT w p.1 p.2 (mpUV c (nxA c a 7) (nxS h 7)) (mpUV c (nxA c (nxA c a 7) 61) (nxS (nxS h 7) 61)) 0 []).map AV.bare, mpH c (nxA c (nxA c (nxA c (nxA c a 7) 61) 61) 4) (nxS (nxS (nxS (nxS h 7) 61) 61) 4) []), List.replicate 4 (okB c c.off c.len))) := by
  cases w <;> kernel_rfl
/-! ### One number more -/
noncomputable def tabMq : Table := tabOf (cdeep Try.prog (rows12 1) [95] 2000 6)
theorem tabMq_sound : SoundT Try.prog tabMq := cdeep_sound (allAt_mem (rows12_at 1)) 6
noncomputable def mpU (c : Cd) (a : Nat) (h : Int) (w : Bool) (n kd U V : Int) (k : Nat) (xs : List Int) : Res := cupto Try.prog tabMq atLoop 200 mpR (mpT w n kd U V k xs) (mpH c a h xs)
def mpB (n U V : Int) (k : Nat) : Int := wrapQ false .i64 (wrapQ false .i64 (U * (Int.ofNat k).tmod n) + wrapQ false .i64 (V * IntKind.i64.wrap ((Int.ofNat k).tdiv n)))
noncomputable def mpX (c : Cd) (a : Nat) (h : Int) (n kd U V : Int) (k : Nat) : Int := match decide (kd = 0) with
  | true => nxV c a h 64
  | false => match decide (kd = 1) with
    | true => wrapQ false .i64 (mpB n U V k + nxV c a h 5)
    | false => mpB n U V k
noncomputable def mpV (c : Cd) (a : Nat) (h : Int) (w : Bool) (n kd U V : Int) (k : Nat) : Int := match w with
  | true => (wrapQ false .i64 ((mpX c a h n kd U V k).tmod 64 + 64)).tmod 64
  | false => mpX c a h n kd U V k
noncomputable def mpA (c : Cd) (a : Nat) (kd : Int) : Nat := match decide (kd = 0) with
  | true => nxA c a 64
  | false => match decide (kd = 1) with
    | true => nxA c a 5
    | false => a
noncomputable def mpS (h : Int) (kd : Int) : Int := match decide (kd = 0) with
  | true => nxS h 64
  | false => match decide (kd = 1) with
    | true => nxS h 5
    | false => h
def mpQ (c : Cd) (kd : Int) (xs : List Int) : List Bool := (decide (0 = 0) && decide (1 = 1) && decide (xs.length * 1 = (Cells.ints IntKind.i64 xs).len) && decide ((2 * (xs.length + 1) + 1024) * 8 ≤ 2 ^ 48)) :: (match decide (kd = 0) || decide (kd = 1) with
  | true => [okB c c.off c.len]
  | false => [])
noncomputable def mpN (c : Cd) (a : Nat) (h : Int) (w : Bool) (n kd U V : Int) (k : Nat) (xs : List Int) : List AB :=
  [codeB c false, srcB c (mpA c a kd) (mpS h kd), .dead, .cells true (.lit [.i false .i64 (mpV c a h w n kd U V k)]), .cells true (.ints .i64 (List.take (xs.length * 1) (List.drop 0 xs) ++ [mpV c a h w n kd U V k]))]
def mpTn (w : Bool) (n kd U V : Int) (k : Nat) (xs : List Int) : List AV := mpTl w n kd U V (.sl false 4 0 (xs.length + 1) 1) (.i false .i64 (wrapQ false .i64 (Int.ofNat k + 1)))
end Go.Ax

/- spec.l07Map: one number more, evaluated. -/
namespace Go.Ax
open Go Go.Proofs

section
variable (c : Cd) (a : Nat) (h : Int) (U V : Int) (k : Nat) (xs : List Int)
noncomputable def mpStep (p : Bool × Int × Int) : List Bool × (Bool × List Item × List AV × List AB × List Bool) := (condsP (mpU c a h p.1 p.2.1 p.2.2 U V k xs) [true], lfM mpM ((mpU c a h p.1 p.2.1 p.2.2 U V k xs).at [true]))
noncomputable def mpWant (p : Bool × Int × Int) : List Bool × (Bool × List Item × List AV × List AB × List Bool) := ([ltQ false (Int.ofNat k) (p.2.1 * p.2.1)], (true, mpR, (mpTn p.1 p.2.1 p.2.2 U V k xs).map AV.bare, mpN c a h p.1 p.2.1 p.2.2 U V k xs, mpQ c p.2.2 xs))
def mpAll (w : Bool) : List (Bool × Int × Int) := ([1, 2, 4, 8] : List Int).flatMap fun n => ([0, 1, 2, 3] : List Int).map fun kd => (w, n, kd)
theorem mpU_t : (mpAll true).map (mpStep c a h U V k xs) = (mpAll true).map (mpWant c a h U V k xs) := by kernel_rfl
theorem mpU_f : (mpAll false).map (mpStep c a h U V k xs) = (mpAll false).map (mpWant c a h U V k xs) := by kernel_rfl
end
end Go.Ax

/- spec.l07Map: its end, evaluated. -/
namespace Go.Ax
open Go Go.Proofs

def zXL (N : Nat) (x : Nat → Int) : List Int := (List.range N).map x
noncomputable def mpE (c : Cd) (a : Nat) (h : Int) (w : Bool) (n : Int) (N : Nat) (kd U V : Int) (x : Nat → Int) : Res :=
  cupto Try.prog tabMp (fun _ => false) 200 mpR (mpTl w n kd U V (.sl true 2 0 N 1) (.i true .i64 (Int.ofNat N))) (mpH c a h (zXL N x))
def okN (c : Cd) : Nat → Bool
  | 0 => true
  | n + 1 => okB c c.off c.len && okN c n
noncomputable def mpZ (c : Cd) (a : Nat) (h : Int) (w : Bool) (n : Int) (N : Nat) (kd U V : Int) (x : Nat → Int) (p : List Bool × List Nat) : List Bool × Option (AV × List AB × Bool) :=
  (condsP (mpE c a h w n N kd U V x) p.1, leafE Try.prog Try.f171.results.toList 2 p.2 ((mpE c a h w n N kd U V x).at p.1))
/-- What comes back: the number, the list, the source. -/
noncomputable def mpG (c : Cd) (n : Int) (ys : List Int) (a : Nat) (h : Int) (k : Nat) : Option (AV × List AB × Bool) := some (.tup [.i true .i64 n, .sl true 2 0 ys.length 1], mpH c a h ys, okN c k)
section
variable (c : Cd) (a : Nat) (h : Int) (U V : Int) (x : Nat → Int)
noncomputable def v30 : Int := nxV c a h 30
noncomputable def pk (m : Int) : Int := nxV c (nxA c a 30) (nxS h 30) m
/-- All ways, with what must hold and what comes back. -/
noncomputable def mpW (n : Int) (N : Nat) : List ((List Bool × List Nat) × (List Bool × Option (AV × List AB × Bool))) :=
  let z := eqQ false (v30 c a h) 0
  let p5 := fun v => mpG c n ((zXL N x).set 0 v) (nxA c (nxA c a 30) 5) (nxS (nxS h 30) 5) 2
  let p4 := fun m => mpG c m (zXL N x) (nxA c (nxA c a 30) 4) (nxS (nxS h 30) 4) 2
  let o := [!z, !eqQ false (v30 c a h) 1, eqQ false (v30 c a h) 2]
  [(([true, true], [3]), ([z, eqQ false (pk c a h 5) 4], p5 (-4611686018427387904))),
   (([true, false, true], [3]), ([z, !eqQ false (pk c a h 5) 4, eqQ false (pk c a h 5) 3], p5 100001)),
   (([true, false, false, true], [3]), ([z, !eqQ false (pk c a h 5) 4, !eqQ false (pk c a h 5) 3, eqQ false (pk c a h 5) 2], p5 100000)),
   (([true, false, false, false, true], [3]), ([z, !eqQ false (pk c a h 5) 4, !eqQ false (pk c a h 5) 3, !eqQ false (pk c a h 5) 2, eqQ false (pk c a h 5) 1], p5 (-1))),
   (([true, false, false, false, false], [3]), ([z, !eqQ false (pk c a h 5) 4, !eqQ false (pk c a h 5) 3, !eqQ false (pk c a h 5) 2, !eqQ false (pk c a h 5) 1], p5 64)),
   (([false, true], [2, 2]), ([!z, eqQ false (v30 c a h) 1], mpG c n (zXL N x ++ [0]) (nxA c a 30) (nxS h 30) 1)),
   (([false, false, true, true], [3]), (o ++ [eqQ false (pk c a h 4) 3], p4 (-1))),
   (([false, false, true, false, true], [3]), (o ++ [!eqQ false (pk c a h 4) 3, eqQ false (pk c a h 4) 2], p4 16)),
   (([false, false, true, false, false, true], [3]), (o ++ [!eqQ false (pk c a h 4) 3, !eqQ false (pk c a h 4) 2, eqQ false (pk c a h 4) 1], p4 3)),
   (([false, false, true, false, false, false], [3]), (o ++ [!eqQ false (pk c a h 4) 3, !eqQ false (pk c a h 4) 2, !eqQ false (pk c a h 4) 1], p4 0)),
   (([false, false, false], []), ([!z, !eqQ false (v30 c a h) 1, !eqQ false (v30 c a h) 2], mpG c n (zXL N x) (nxA c a 30) (nxS h 30) 1))]
theorem mpW_1 (w : Bool) (kd : Int) : (mpW c a h x 1 1).map (fun q => mpZ c a h w 1 1 kd U V x q.1) = (mpW c a h x 1 1).map (·.2) := by kernel_rfl
theorem mpW_2 (w : Bool) (kd : Int) : (mpW c a h x 2 4).map (fun q => mpZ c a h w 2 4 kd U V x q.1) = (mpW c a h x 2 4).map (·.2) := by kernel_rfl
theorem mpW_4 (w : Bool) (kd : Int) : (mpW c a h x 4 16).map (fun q => mpZ c a h w 4 16 kd U V x q.1) = (mpW c a h x 4 16).map (·.2) := by kernel_rfl
theorem mpW_8 (w : Bool) (kd : Int) : (mpW c a h x 8 64).map (fun q => mpZ c a h w 8 64 kd U V x q.1) = (mpW c a h x 8 64).map (·.2) := by kernel_rfl
end
/-- One of the ways is gone. -/
theorem mpW_some (c : Cd) (a : Nat) (h : Int) (x : Nat → Int) (n : Int) (N : Nat) : ∃ q ∈ mpW c a h x n N, allT q.2.1 = true := by
  cases h0 : eqQ false (v30 c a h) 0 with
  | true =>
    cases h4 : eqQ false (pk c a h 5) 4 with
    | true => exact ⟨(mpW c a h x n N)[0]'(by simp [mpW]), List.getElem_mem _, by simp [mpW, h0, h4, allT]⟩
    | false =>
      cases h3 : eqQ false (pk c a h 5) 3 with
      | true => exact ⟨(mpW c a h x n N)[1]'(by simp [mpW]), List.getElem_mem _, by simp [mpW, h0, h4, h3, allT]⟩
      | false =>
        cases h2 : eqQ false (pk c a h 5) 2 with
        | true => exact ⟨(mpW c a h x n N)[2]'(by simp [mpW]), List.getElem_mem _, by simp [mpW, h0, h4, h3, h2, allT]⟩
        | false =>
          cases h1 : eqQ false (pk c a h 5) 1 with
          | true => exact ⟨(mpW c a h x n N)[3]'(by simp [mpW]), List.getElem_mem _, by simp [mpW, h0, h4, h3, h2, h1, allT]⟩
          | false => exact ⟨(mpW c a h x n N)[4]'(by simp [mpW]), List.getElem_mem _, by simp [mpW, h0, h4, h3, h2, h1, allT]⟩
  | false =>
    cases g1 : eqQ false (v30 c a h) 1 with
    | true => exact ⟨(mpW c a h x n N)[5]'(by simp [mpW]), List.getElem_mem _, by simp [mpW, h0, g1, allT]⟩
    | false =>
      cases g2 : eqQ false (v30 c a h) 2 with
      | false => exact ⟨(mpW c a h x n N)[10]'(by simp [mpW]), List.getElem_mem _, by simp [mpW, h0, g1, g2, allT]⟩
      | true =>
        cases h3 : eqQ false (pk c a h 4) 3 with
        | true => exact ⟨(mpW c a h x n N)[6]'(by simp [mpW]), List.getElem_mem _, by simp [mpW, h0, g1, g2, h3, allT]⟩
        | false =>
          cases h2 : eqQ false (pk c a h 4) 2 with
          | true => exact ⟨(mpW c a h x n N)[7]'(by simp [mpW]), List.getElem_mem _, by simp [mpW, h0, g1, g2, h3, h2, allT]⟩
          | false =>
            cases h1 : eqQ false (pk c a h 4) 1 with
            | true => exact ⟨(mpW c a h x n N)[8]'(by simp [mpW]), List.getElem_mem _, by simp [mpW, h0, g1, g2, h3, h2, h1, allT]⟩
            | false => exact ⟨(mpW c a h x n N)[9]'(by simp [mpW]), List.getElem_mem _, by simp [mpW, h0, g1, g2, h3, h2, h1, allT]⟩
/-- What is no side, of all that is drawn. -/
def mpNo : List Int := [0, 3, 16, -1]
/-- What comes back by any way. -/
theorem mpW_back (c : Cd) (a : Nat) (h : Int) (x : Nat → Int) (n : Int) (N : Nat) : ∀ q ∈ mpW c a h x n N, ∃ (m : Int) (ys : List Int) (a' : Nat) (h' : Int) (k : Nat), (ys.length ≤ N + 1 ∧ (m = n ∨ m ∈ mpNo)) ∧ q.2.2 = mpG c m ys a' h' k := fun q hq => by
  simp only [mpW, List.mem_cons, List.not_mem_nil, or_false] at hq
  have hl : (zXL N x).length = N := by simp [zXL]
  rcases hq with rfl | rfl | rfl | rfl | rfl | rfl | rfl | rfl | rfl | rfl | rfl
  all_goals exact ⟨_, _, _, _, _, by simp [hl, mpNo], rfl⟩
end Go.Ax

/- laws.sum and laws.likeInts: rows. -/
namespace Go.Ax
open Go Go.Proofs

theorem ro_ints {σ τ : List (Nat × Nat)} {r : Bool} {k : IntKind} {xs : List Int} {z : Nat} {o : Option Obj} (h : BlkRel σ z (.cells r (.ints k xs)) o) : BlkRel τ z (.cells false (.ints k xs)) o := by
  obtain ⟨c, e, fr, h1, h2, h3, _⟩ := h
  refine ⟨c, e, fr, h1, fun j a ha => ?_, h3, fun h => by cases h⟩
  obtain ⟨v, hv, hr⟩ := h2 j a ha
  refine ⟨v, hv, below_free ?_ hr⟩
  simp only [Cells.toL, List.getElem?_map, Option.map_eq_some_iff] at ha
  obtain ⟨y, _, rfl⟩ := ha
  rfl
theorem getB_lt {H : List AB} {i : Nat} {r : Bool} {A : Cells} (h : getB H i = .cells r A) : i < H.length := by
  rcases Nat.lt_or_ge i H.length with h' | h'
  · exact h'
  · rw [getB_none h'] at h; cases h
def lb (xs : List Int) : List AB := [.cells false (.ints .i64 xs)]
def lb2 (xs ys : List Int) : List AB := [.cells false (.ints .i64 xs), .cells false (.ints .i64 ys)]
/-- A call that reads one list. -/
theorem call_read1 {P : Program} {f : FuncId} {xs : List Int} {v : AV} (h : CallOK P f [.sl false 0 0 xs.length 1] (lb xs) v (lb xs)) (hv : below 0 v = true) {H : List AB} {id : Nat} {r l : Bool} (hg : getB H id = .cells r (.ints .i64 xs)) : CallOK P f [.sl l id 0 xs.length 1] H v H := by
  have k := h.pick (fun i => by match i with
    | 0 => rfl
    | i + 1 => rfl) rfl [id] rfl H (fun i hi => by
      have : i = 0 := by simp [lb] at hi; exact hi
      subst this
      refine ⟨getB_lt hg, fun σ τ z o hb => ?_⟩
      have e : ([id] : List Nat).getD 0 0 = id := rfl
      rw [e, hg] at hb
      exact ro_ints hb)
  have e1 : (H ++ ((lb xs).drop (lb xs).length).map (mapB (pickI (lb xs).length H.length [id]))) = H := by simp [lb]
  rw [e1, mapV_low _ hv] at k
  exact k.bare rfl
theorem call_read2 {P : Program} {f : FuncId} {xs ys : List Int} {v : AV} (h : CallOK P f [.sl false 0 0 xs.length 1, .sl false 1 0 ys.length 1] (lb2 xs ys) v (lb2 xs ys)) (hv : below 0 v = true) {H : List AB} {id id' : Nat} {r r' l l' : Bool} (hg : getB H id = .cells r (.ints .i64 xs)) (hg' : getB H id' = .cells r' (.ints .i64 ys)) :
    CallOK P f [.sl l id 0 xs.length 1, .sl l' id' 0 ys.length 1] H v H := by
  have k := h.pick (fun i => by match i with
    | 0 => rfl
    | 1 => rfl
    | i + 2 => rfl) rfl [id, id'] rfl H (fun i hi => by
      match i, hi with
      | 0, _ =>
        refine ⟨getB_lt hg, fun σ τ z o hb => ?_⟩
        have e : ([id, id'] : List Nat).getD 0 0 = id := rfl
        rw [e, hg] at hb
        exact ro_ints hb
      | 1, _ =>
        refine ⟨getB_lt hg', fun σ τ z o hb => ?_⟩
        have e : ([id, id'] : List Nat).getD 1 0 = id' := rfl
        rw [e, hg'] at hb
        exact ro_ints hb
      | i + 2, hi => simp only [lb2, List.length_cons, List.length_nil] at hi; omega)
  have e1 : (H ++ ((lb2 xs ys).drop (lb2 xs ys).length).map (mapB (pickI (lb2 xs ys).length H.length [id, id']))) = H := by simp [lb2]
  rw [e1, mapV_low _ hv] at k
  exact k.bare rfl

/-! ### sum -/
def suA (xs : List Int) : Nat → Int
  | 0 => 0
  | i + 1 => wrapQ false .i64 (suA xs i + xs.getD i 0)
theorem ofNat_next {i : Nat} (h : i ≤ 5000) : wrapQ false .i64 (Int.ofNat i + 1) = Int.ofNat (i + 1) := by
  have : IntKind.i64.wrap (Int.ofNat i + 1) = Int.ofNat (i + 1) := by rw [wrap64_id] <;> simp <;> omega
  exact this
/-- Lists of whole numbers. -/
def intsAt (H : List AB) : AV → Option (List Int × List Bool)
  | .sl _ id off len z => match getB H id with
    | .cells _ (.ints k xs) => match Nat.beq (ikIx k) 3 with
      | true => some (xs, [decide (off = 0) && decide (z = 1), decide (len = xs.length), decide (len ≤ 5000)])
      | false => none
    | _ => none
  | _ => none
theorem intsAt_spec {H : List AB} {a : AV} {xs : List Int} {q : List Bool} (h : intsAt H a = some (xs, q)) (hq : allT q = true) : ∃ l id r, a = .sl l id 0 xs.length 1 ∧ getB H id = .cells r (.ints .i64 xs) ∧ xs.length ≤ 5000 := by
  unfold intsAt at h
  split at h <;> (try (cases h; done))
  rename_i l id off len z
  split at h <;> (try (cases h; done))
  rename_i r k ys hg
  split at h <;> cases h
  rename_i hk
  have hk := ikIx_inj (k := k) (k' := .i64) hk
  subst hk
  simp only [allT, Bool.and_eq_true, decide_eq_true_eq, Bool.and_true] at hq
  obtain ⟨⟨rfl, rfl⟩, rfl, h5⟩ := hq
  exact ⟨l, id, r, rfl, hg, h5⟩
def sumT : Table := fun _ args H nd K =>
  match args with
  | [a] => match intsAt H a with
    | some (xs, q) => K (.i false .i64 (suA xs xs.length)) H (q ++ nd)
    | none => .fail
  | _ => .fail
/-! ### likeInts -/
noncomputable def lkC : Code := Try.f42.body.getD .skip
noncomputable def lk0 (xs ys : List Int) : Res := jupto Try.prog noT atLoop 100 [.code lkC] (.sl false 0 0 xs.length 1 :: .sl false 1 0 ys.length 1 :: undefs 24) (lb2 xs ys)
noncomputable def lkL : List Item := ((lk0 [] []).at [false]).todo
noncomputable def lkR : List Item := toLp lkL
theorem lkR_eq : toLp lkR = lkR := by kernel_rfl
def lkT (xs ys : List Int) (i : Nat) : List AV := [.sl false 0 0 xs.length 1, .sl false 1 0 ys.length 1, .any, .any, .any, .i false .i64 (Int.ofNat i)] ++ List.replicate 20 .any
def lkN (xs ys : List Int) (i : Nat) : List AV := [.sl false 0 0 xs.length 1, .sl false 1 0 ys.length 1, .any, .any, .any, .i false .i64 (wrapQ false .i64 (Int.ofNat i + 1))] ++ List.replicate 20 .any
def lkM : List Bool := [false, false, true, true, true, false] ++ List.replicate 20 true
noncomputable def lkU (xs ys : List Int) (i : Nat) : Res := jupto Try.prog noT atLoop 100 lkR (lkT xs ys i) (lb2 xs ys)
theorem lk0_ok (xs ys : List Int) : (condsP (lk0 xs ys) [false], lfM lkM ((lk0 xs ys).at [false]), condsP (lk0 xs ys) [true], endOf Try.prog Try.f42.results.toList ((lk0 xs ys).at [true])) =
    ([!!eqQ false xs.length ys.length], (true, lkL, (lkT xs ys 0).map AV.bare, lb2 xs ys, []), [!eqQ false xs.length ys.length], some (some ([.b true false], []), lb2 xs ys, [])) := by kernel_rfl
def lkQ (xs ys : List Int) (i : Nat) : List Bool := [decide (0 + (Int.ofNat i).toNat * 1 < (Cells.ints IntKind.i64 ys).len), decide (0 ≤ Int.ofNat i) && decide (Int.ofNat i < ↑ys.length),
  decide (0 + (Int.ofNat i).toNat * 1 < (Cells.ints IntKind.i64 xs).len), decide (0 ≤ Int.ofNat i) && decide (Int.ofNat i < ↑xs.length)]
def lkE (xs ys : List Int) (i : Nat) : Bool := eqQ false (xs.getD (0 + (Int.ofNat i).toNat * 1) 0) (ys.getD (0 + (Int.ofNat i).toNat * 1) 0)
theorem lk_step (xs ys : List Int) (i : Nat) : (condsP (lkU xs ys i) [true, false], lfM lkM ((lkU xs ys i).at [true, false]), condsP (lkU xs ys i) [false], endOf Try.prog Try.f42.results.toList ((lkU xs ys i).at [false]), condsP (lkU xs ys i) [true, true], endOf Try.prog Try.f42.results.toList ((lkU xs ys i).at [true, true])) =
    ([ltQ false (Int.ofNat i) xs.length, !!lkE xs ys i], (true, lkR, (lkN xs ys i).map AV.bare, lb2 xs ys, lkQ xs ys i),
     [!ltQ false (Int.ofNat i) xs.length], some (some ([.b true true], []), lb2 xs ys, []),
     [ltQ false (Int.ofNat i) xs.length, !lkE xs ys i], some (some ([.b true false], []), lb2 xs ys, lkQ xs ys i)) := by kernel_rfl
theorem lk_go (xs ys : List Int) (hl : xs.length = ys.length) (hx : xs.length ≤ 5000) : ∀ (m i : Nat), i + m = xs.length → xs.take i = ys.take i → ∀ L, toLp L = lkR → ∃ t b, Ends Try.prog L (lkT xs ys i) (lb2 xs ys) t (lb2 xs ys) ∧ resV Try.prog t (lb2 xs ys) Try.f42.results.toList = some ([.b b (xs == ys)], [])
  | 0, i, hi, hp, L, hL => by
    have : i = xs.length := by omega
    subst this
    have h := lk_step xs ys xs.length
    simp only [Prod.mk.injEq] at h
    obtain ⟨_, _, c2, l2, _⟩ := h
    obtain ⟨t, e1, e2⟩ := way_ends (P := Try.prog) (T := noT) (stop := atLoop) (n := 100) (L := L) (R := lkR) (noT_sound _) (hL.trans lkR_eq.symm) (p := [false]) (t0 := lkT xs ys xs.length) (H0 := lb2 xs ys) (by
      show allT (condsP (lkU xs ys xs.length) [false]) = true
      rw [c2, ltQ_eq]; simp [allT]) l2 rfl
    refine ⟨t, true, e1, ?_⟩
    have : xs = ys := by
      have h1 : xs.take xs.length = xs := List.take_length
      have h2 : ys.take xs.length = ys := by rw [hl]; exact List.take_length
      rw [← h1, hp, h2]
    rw [e2, this]; simp
  | m + 1, i, hi, hp, L, hL => by
    have h := lk_step xs ys i
    simp only [Prod.mk.injEq] at h
    obtain ⟨c1, l1, _, _, c3, l3⟩ := h
    have hq : allT (lkQ xs ys i) = true := by simp [lkQ, allT, Cells.len]; omega
    have hlt : ltQ false (Int.ofNat i) xs.length = true := by rw [ltQ_eq]; simp; omega
    have hix : i < xs.length := by omega
    have hiy : i < ys.length := by omega
    have hE : lkE xs ys i = (xs[i] == ys[i]) := by
      unfold lkE
      rw [eqQ_eq]
      simp [List.getD_eq_getElem?_getD, hix, hiy]
    cases he : lkE xs ys i with
    | true =>
      have hr := way_reach (P := Try.prog) (T := noT) (stop := atLoop) (n := 100) (L := L) (R := lkR) (noT_sound _) (hL.trans lkR_eq.symm) (p := [true, false]) (t0 := lkT xs ys i) (H0 := lb2 xs ys) (by
        show allT (condsP (lkU xs ys i) [true, false]) = true
        rw [c1, hlt, he]; rfl) l1 hq
      have hN : lkN xs ys i = lkT xs ys (i + 1) := by
        unfold lkN lkT
        rw [ofNat_next (by omega)]
      rw [hN] at hr
      have he' := hE.symm.trans he
      rw [beq_iff_eq] at he'
      obtain ⟨t, b, e1, e2⟩ := lk_go xs ys hl hx m (i + 1) (by omega) (by
        rw [List.take_succ_eq_append_getElem hix, List.take_succ_eq_append_getElem hiy, hp, he']) lkR lkR_eq
      exact ⟨t, b, hr.ends e1, e2⟩
    | false =>
      obtain ⟨t, e1, e2⟩ := way_ends (P := Try.prog) (T := noT) (stop := atLoop) (n := 100) (L := L) (R := lkR) (noT_sound _) (hL.trans lkR_eq.symm) (p := [true, true]) (t0 := lkT xs ys i) (H0 := lb2 xs ys) (by
        show allT (condsP (lkU xs ys i) [true, true]) = true
        rw [c3, hlt, he]; rfl) l3 hq
      refine ⟨t, true, e1, ?_⟩
      have : (xs == ys) = false := by
        rw [hE] at he
        rw [beq_eq_false_iff_ne] at he ⊢
        intro h
        subst h
        exact he rfl
      rw [e2, this]
theorem like_ok (xs ys : List Int) (hx : xs.length ≤ 5000) : CallOK Try.prog 42 [.sl false 0 0 xs.length 1, .sl false 1 0 ys.length 1] (lb2 xs ys) (.b false (xs == ys)) (lb2 xs ys) := by
  have h := lk0_ok xs ys
  simp only [Prod.mk.injEq] at h
  obtain ⟨c1, l1, c2, l2⟩ := h
  have hb : Try.f42.body = some lkC := rfl
  by_cases hl : xs.length = ys.length
  · have hr := way_reach (P := Try.prog) (T := noT) (stop := atLoop) (n := 100) (L := [.code lkC]) (R := [.code lkC]) (noT_sound _) rfl (p := [false]) (t0 := .sl false 0 0 xs.length 1 :: .sl false 1 0 ys.length 1 :: undefs 24) (H0 := lb2 xs ys) (by
      show allT (condsP (lk0 xs ys) [false]) = true
      rw [c1, eqQ_eq, hl]; simp [allT]) l1 rfl
    obtain ⟨t, b, e1, e2⟩ := lk_go xs ys hl hx xs.length 0 (by omega) rfl lkL rfl
    have := call_of_ends (args := [.sl false 0 0 xs.length 1, .sl false 1 0 ys.length 1]) (m := []) Try.func42 hb (hr.ends e1) e2 rfl
    exact this.weaken fun σ x r => by cases r; exact .b _
  · obtain ⟨t, e1, e2⟩ := way_ends (P := Try.prog) (T := noT) (stop := atLoop) (n := 100) (L := [.code lkC]) (R := [.code lkC]) (noT_sound _) rfl (p := [true]) (t0 := .sl false 0 0 xs.length 1 :: .sl false 1 0 ys.length 1 :: undefs 24) (H0 := lb2 xs ys) (by
      show allT (condsP (lk0 xs ys) [true]) = true
      rw [c2, eqQ_eq]; simp [allT]; omega) l2 rfl
    have := call_of_ends (args := [.sl false 0 0 xs.length 1, .sl false 1 0 ys.length 1]) (m := []) Try.func42 hb e1 e2 rfl
    have e : (xs == ys) = false := by
      rw [beq_eq_false_iff_ne]
      intro h; exact hl (by rw [h])
    rw [e]
    exact this.weaken fun σ x r => by cases r; exact .b _
theorem like_nil : joinR 0 (tab0 42 [.slnil, .slnil] [] [] fun v H nd => .ret v H nd) = some (.b true true, []) := by kernel_rfl
def likeT : Table := fun _ args H nd K =>
  match args with
  | [a, b] => match intsAt H a, intsAt H b with
    | some (xs, q), some (ys, q') => K (.b false (xs == ys)) H (q ++ (q' ++ nd))
    | _, _ => match a, b with
      | .slnil, .slnil => K (.b true true) H nd
      | _, _ => .fail
  | _ => .fail
theorem like_at : SoundAt Try.prog 42 likeT := fun args H nd K => by
  unfold likeT
  split
  case h_2 => exact .inl rfl
  split
  · rename_i a b xs q ys q' hi hj
    refine .inr ⟨_, _, _, rfl, fun hn => ?_⟩
    rw [allT_append, allT_append, Bool.and_eq_true, Bool.and_eq_true] at hn
    obtain ⟨l, id, r, rfl, hg, h5⟩ := intsAt_spec hi hn.1
    obtain ⟨l', id', r', rfl, hg', _⟩ := intsAt_spec hj hn.2.1
    exact ⟨hn.2.2, call_read2 (like_ok xs ys h5) rfl hg hg'⟩
  · split
    case h_2 => exact .inl rfl
    exact .inr ⟨_, _, _, rfl, fun hn => ⟨hn, call_of_join tab0_sound like_nil rfl rfl H⟩⟩
end Go.Ax
