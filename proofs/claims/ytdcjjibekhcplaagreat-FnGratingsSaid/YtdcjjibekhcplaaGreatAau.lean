/- SlitMask of spec: the same as that of impl. -/
import Derived.Test.YtdcjjibekhcplaaGreatAat
namespace Go.Ax
open Go Go.Proofs

theorem gr_bad {n : Int} {bad : Bool} {re im : Nat → Nat} (e : grOK n bad = false) {σ : List (Nat × Nat)} {x : Value} (r : Rel σ (zeroV 2) x) : Rel σ (grR n bad re im) x := by
  have h := zero_wave (n := cond (grOK n bad) n 0) (X := grX n bad re im) (c := 2) (fun j => by simp [grX, e]) (by rw [e]; rfl) r
  unfold grR
  rw [e] at h ⊢
  exact h
theorem bar_eq {r : Option (AV × List Bool)} {l : List AV} {c : AV} (h : bar r = bar (some (.tup [.agg l, c], []))) : ∃ l' c', r = some (.tup [.agg l', c'], []) ∧ l'.map AV.bare = l.map AV.bare ∧ c'.bare = c.bare := by
  unfold bar at h
  split at h
  · rename_i l' c' nd
    simp only [Option.some.injEq, Prod.mk.injEq] at h
    obtain ⟨h1, h2, rfl⟩ := h
    exact ⟨l', c', rfl, h1, h2⟩
  · cases h
theorem sl_eq {n x w : Nat} (hn : n = 1 ∨ n = 2 ∨ n = 4 ∨ n = 8) (hx : x < n) (hw : x + w ≤ n) : bar (rSl (Int.ofNat n) x w) = bar (some (slV n x w, [])) := by
  rcases hn with rfl | rfl | rfl | rfl
  · exact List.map_inj_left.1 sl_1 (x, w) (slP_mem hx hw)
  · exact List.map_inj_left.1 sl_2 (x, w) (slP_mem hx hw)
  · exact List.map_inj_left.1 sl_4 (x, w) (slP_mem hx hw)
  · have hw' : w ∈ List.range (9 - x) := List.mem_range.2 (by omega)
    match x, hx with
    | 0, _ => exact List.map_inj_left.1 sl_8_0 w hw'
    | 1, _ => exact List.map_inj_left.1 sl_8_1 w hw'
    | 2, _ => exact List.map_inj_left.1 sl_8_2 w hw'
    | 3, _ => exact List.map_inj_left.1 sl_8_3 w hw'
    | 4, _ => exact List.map_inj_left.1 sl_8_4 w hw'
    | 5, _ => exact List.map_inj_left.1 sl_8_5 w hw'
    | 6, _ => exact List.map_inj_left.1 sl_8_6 w hw'
    | 7, _ => exact List.map_inj_left.1 sl_8_7 w hw'
    | x + 8, h => omega
theorem slB_good {n x w : Int} (hs : sideB n = true) (h : slB n x w = false) : ∃ a b : Nat, x = Int.ofNat a ∧ w = Int.ofNat b ∧ a < n.toNat ∧ a + b ≤ n.toNat := by
  have hn := sideB_iff.1 hs
  unfold slB at h
  cases h1 : inR 0 x (n - 1) with
  | false => rw [h1] at h; cases h
  | true =>
    rw [h1] at h
    have h2 : inR 0 w (wr (n - x)) = true := by simpa using h
    obtain ⟨a1, a2⟩ := inR_iff.1 h1
    have e : wr (n - x) = n - x := w64_id (by rcases hn with rfl | rfl | rfl | rfl <;> omega)
    rw [e] at h2
    obtain ⟨b1, b2⟩ := inR_iff.1 h2
    refine ⟨x.toNat, w.toNat, ?_, ?_, by omega, by omega⟩
    · show x = ((x.toNat : Nat) : Int); omega
    · show w = ((w.toNat : Nat) : Int); omega
theorem slit8_ok (n x w : Int) (H : List AB) : CallOK Tryz.prog 8 (grA false n [x, w]) H (grR n (slB n x w) (bit (slT n x w)) (zer (slT n x w))) H := by
  cases hs : sideB n with
  | false => exact gr_none (g8_no n x w) hs H
  | true =>
    have hm : n ∈ ([1, 2, 4, 8] : List Int) := by
      rcases sideB_iff.1 hs with rfl | rfl | rfl | rfl <;> simp
    cases hb : slB n x w with
    | true =>
      have e : grOK n true = false := by simp [grOK]
      cases h1 : inR 0 x (n - 1) with
      | false => exact ((call_of_join (args := [.i true .i64 n, .i false .i64 x, .i false .i64 w]) tabSl_sound (sl_badX n hm x w) (by rw [h1]; rfl) rfl H).bare (args' := grA false n [x, w]) rfl).weaken fun σ y r => gr_bad e r
      | true =>
        have h2 : inR 0 w (wr (n - x)) = false := by
          unfold slB at hb
          rw [h1] at hb
          simpa using hb
        obtain ⟨a1, a2⟩ := inR_iff.1 h1
        obtain ⟨a, rfl⟩ := Int.eq_ofNat_of_zero_le a1
        have k := List.map_inj_left.1 (sl_badW n hm w) a (List.mem_range.2 (by rcases sideB_iff.1 hs with rfl | rfl | rfl | rfl <;> simp at a2 ⊢ <;> omega))
        exact ((call_of_join (args := [.i true .i64 n, .i true .i64 (Int.ofNat a), .i false .i64 w]) tabSl_sound k (by
          have h2' : inR 0 w (wr (n - Int.ofNat a)) = false := h2
          rw [h2']; rfl) rfl H).bare (args' := grA false n [(a : Int), w]) rfl).weaken fun σ y r => gr_bad e r
    | false =>
      obtain ⟨a, b, rfl, rfl, h1, h2⟩ := slB_good hs hb
      obtain ⟨hn, _⟩ := (⟨by rcases sideB_iff.1 hs with rfl | rfl | rfl | rfl <;> simp, trivial⟩ : (n.toNat = 1 ∨ n.toNat = 2 ∨ n.toNat = 4 ∨ n.toNat = 8) ∧ True)
      have en : Int.ofNat n.toNat = n := by
        rcases sideB_iff.1 hs with rfl | rfl | rfl | rfl <;> rfl
      have k := sl_eq hn h1 h2
      rw [en] at k
      unfold slV mkV at k
      obtain ⟨l', c', k1, k2, k3⟩ := bar_eq k
      have k4 := (call_of_join (args := [.i true .i64 n, .i true .i64 (Int.ofNat a), .i true .i64 (Int.ofNat b)]) tabGr_sound k1 rfl rfl H).bare (args' := grA false n [Int.ofNat a, Int.ofNat b]) rfl
      refine k4.weaken fun σ y r => ?_
      have r2 := tup2_weak k2 k3 r
      rw [en] at r2
      exact gr_rel (bad := false) hs r2
end Go.Ax

/- Regions of open order in which calls that write to one block (and follow each other) stand among operations that leave memory alone. -/
namespace Go.Ax
open Go

section
variable {P : Program} {T : Table} {ops : Array Oper} {m : Nat}

/-- An operation of the one block that is written: its value, and memory behind it. -/
def EVal (P : Program) (ops : Array Oper) (k : Nat) (t : List AV) (H : List AB) (v : AV) (H1 : List AB) : Prop :=
  ∃ o, ops[k]? = some o ∧ ∀ (σ : List (Nat × Nat)) (w : World) (a : Act) (Q : Exit → Act → World → Prop) (next : Act → World → Prop), Sim σ H w →
    (∀ n ∈ looks ops o, Rel σ (getL t n) (a.tmps.getD n undef)) → a.tmps.size = t.length →
    (∀ rv w', Rel σ v rv → Sim σ H1 w' → Fr σ H w σ H1 w' → next (a.put o.dst rv) w') → wpOp P ops Q k next a w
theorem getB_setB {H : List AB} {src i : Nat} {B : AB} : getB (setB H src B) i = if i = src ∧ src < H.length then B else getB H i := by
  by_cases h : i = src
  · subst h
    by_cases h2 : i < H.length
    · rw [getB_setB_same h2, if_pos ⟨rfl, h2⟩]
    · rw [if_neg (fun e => h2 e.2)]
      have : ∀ (l : List AB) (n : Nat) (v : AB), l.length ≤ n → setB l n v = l := by
        intro l
        induction l with
        | nil => intros; rfl
        | cons a l ih => intro n v hn; cases n with
          | zero => simp at hn
          | succ n => simp only [setB]; rw [ih n v (by simpa using hn)]
      rw [this H i B (by omega)]
  · rw [getB_setB_ne (Ne.symm h), if_neg (fun e => h e.1)]
theorem QVal.alive {k src : Nat} {t : List AV} {G Hd : List AB} {v : AV} (h : QVal P ops k t Hd v) (e : setB G src .dead = Hd) (hrw : (getB G src).rw = true) : QVal P ops k t G v := by
  obtain ⟨o, ho, hq⟩ := h
  refine ⟨o, ho, fun σ w a Q next s r hsz q => ?_⟩
  subst e
  have hsl : src < G.length := by
    rcases Nat.lt_or_ge src G.length with h | h
    · exact h
    · rw [getB_none h] at hrw; cases hrw
  have sd : Sim σ (setB G src .dead) w := by
    refine ⟨by rw [setB_length]; exact s.len, fun i b z hb => ?_, fun i j b z z' hi hj hr hl => ?_⟩
    · rw [getB_setB]
      split
      · trivial
      · exact s.blk i b z hb
    · rw [getB_setB] at hr hl
      split at hr
      · cases hr
      · split at hl
        · cases hl
        · exact s.inj i j b z z' hi hj hr hl
  refine hq σ w a Q next sd r hsz fun rv w' hr s' f' => q rv w' hr ?_ ?_
  · refine ⟨s.len, fun i b z hb => ?_, s.inj⟩
    by_cases hi : i = src
    · subst hi
      have hlt := s.lt hb (rw_live hrw)
      rw [f'.old b hlt fun i' z' hr' hi' => ?_]
      · exact s.blk i b z hb
      · rw [getB_setB] at hr'
        split at hr'
        · cases hr'
        · rename_i hne
          exact hne ⟨s.inj i' i b z' z hi' hb hr' (rw_live hrw), hsl⟩
    · have := s'.blk i b z hb
      rwa [getB_setB, if_neg (fun e => hi e.1)] at this
  · refine ⟨f'.os, f'.tape, f'.output, f'.size, fun b hb hno => f'.old b hb fun i z hr' => ?_, Ext.refl _, fun i b z h h' => (by rw [h'] at h; cases h), fun _ _ h => h⟩
    rw [getB_setB] at hr'
    split at hr'
    · cases hr'
    · exact hno i z hr'

theorem any_mix (hok : drawOK ops m = true) (hmn : m ≤ ops.size) {t t' : List AV} {Hd H' : List AB} {val : Nat → AV} {eff : Nat → Bool} {mem : Nat → List AB} {src : Nat}
    (hq : ∀ i, i < m → eff i = false → QVal P ops i (stAt ops val t 0 i) Hd (val i) ∧ mem (i + 1) = mem i)
    (he : ∀ i, i < m → eff i = true → EVal P ops i (stAt ops val t 0 i) (mem i) (val i) (mem (i + 1)) ∧ ∀ k, k < i → eff k = true → aheadOf ops 10 i k = true)
    (hm : ∀ i, i ≤ m → setB (mem i) src .dead = Hd ∧ (getB (mem i) src).rw = true)
    (c : Chain P ops m (stAt ops val t 0 m) (mem m) ops.size t' H') {Q : Exit → Act → World → Prop} {σ : List (Nat × Nat)} :
    ∀ (fuel : Nat) (listed : Array Bool) (a : Act) (w : World) (k : Nat), listed.size = ops.size → Down ops listed →
      (left ops listed).length ≤ fuel → (∀ i, m ≤ i → ¬ Ls listed i) → k ≤ m → (∀ i, i < m → eff i = true → (Ls listed i ↔ i < k)) → Sim σ (mem k) w → a.tmps.size = t.length →
      (∀ x, (∀ i, i < m → Ls listed i → gDst ops i = some x → x < t.length → Rel σ (val i) (a.tmps.getD x undef)) ∧ ((∀ i, i < m → Ls listed i → gDst ops i ≠ some x) → Rel σ (getL t x) (a.tmps.getD x undef))) →
      (∀ a' w' σ', RelL σ' t' a'.tmps.toList → a'.defers = a.defers → Sim σ' H' w' → Fr σ (mem k) w σ' H' w' → Q .normal a' w') → wpAny P .any ops Q fuel listed a w := by
  have hdist : ∀ i i', i < m → i' < m → i' ≠ i → ∀ x, gDst ops i = some x → gDst ops i' ≠ some x := fun i i' hi hi' hne x hx => by
    have hoi : ops[i]? = some ops[i] := Array.getElem?_eq_getElem (by omega)
    have hd : ops[i].dst = some x := by simpa [gDst, hoi] using hx
    exact ((drawOK_spec hok i _ hoi).2.1 hi).2 i' hi' hne x hd
  -- memory stays where nothing of the one block comes between
  have hsame : ∀ (n k : Nat), k + n ≤ m → (∀ i, k ≤ i → i < k + n → eff i = false) → mem (k + n) = mem k := by
    intro n
    induction n with
    | zero => intros; rfl
    | succ n ih =>
      intro k hk hno
      rw [show k + (n + 1) = (k + n) + 1 by omega, (hq (k + n) (by omega) (hno _ (by omega) (by omega))).2]
      exact ih k (by omega) fun i h1 h2 => hno i h1 (by omega)
  have htail : ∀ (fuel : Nat) (listed : Array Bool) (a : Act) (w : World) (k : Nat), listed.size = ops.size → Down ops listed →
      (left ops listed).length ≤ fuel → (∀ i, m ≤ i → ¬ Ls listed i) → (∀ i, i < m → Ls listed i) → k ≤ m → (∀ i, i < m → eff i = true → (Ls listed i ↔ i < k)) → Sim σ (mem k) w → a.tmps.size = t.length →
      (∀ x, (∀ i, i < m → Ls listed i → gDst ops i = some x → x < t.length → Rel σ (val i) (a.tmps.getD x undef)) ∧ ((∀ i, i < m → Ls listed i → gDst ops i ≠ some x) → Rel σ (getL t x) (a.tmps.getD x undef))) →
      (∀ a' w' σ', RelL σ' t' a'.tmps.toList → a'.defers = a.defers → Sim σ' H' w' → Fr σ (mem k) w σ' H' w' → Q .normal a' w') → wpAny P .any ops Q fuel listed a w := by
    intro fuel listed a w k hsz hd hf hnm hall hkm hk s hat hx q
    have hmk : mem m = mem k := by
      have := hsame (m - k) k (by omega) fun i h1 h2 => by
        cases hei : eff i with
        | false => rfl
        | true => have := (hk i (by omega) hei).1 (hall i (by omega)); omega
      rwa [show k + (m - k) = m by omega] at this
    rw [← hmk] at s q
    refine any_tail hok fuel listed m _ (mem m) σ a w hsz hd hf (Nat.le_refl _) (fun i hi => ⟨fun h => ?_, fun h => hall i h⟩) c s ?_ q
    · rcases Nat.lt_or_ge i m with h' | h'
      · exact h'
      · exact absurd h (hnm i h')
    · refine RelL.of_get (by rw [stAt_length]; simpa using hat.symm) fun x b y hb hy => ?_
      have hxl : x < t.length := by
        rcases Nat.lt_or_ge x t.length with h' | h'
        · exact h'
        · rw [List.getElem?_eq_none (by rw [stAt_length]; exact h')] at hb; cases hb
      have hb' : b = getL (stAt ops val t 0 m) x := by
        rw [getL_some (by rw [stAt_length]; exact hxl)] at hb; cases hb; rfl
      have hy' : a.tmps.getD x undef = y := by
        have : a.tmps[x]? = some y := by simpa using hy
        rw [Array.getD_eq_getD_getElem?, this]; rfl
      subst hb'
      rw [← hy']
      by_cases hex : ∃ i, i < m ∧ gDst ops i = some x
      · obtain ⟨i, hi, hgi⟩ := hex
        rw [stAt_val ops val m 0 t i (by omega) (by omega) hgi hxl (fun i' _ h2 h3 => hdist i i' hi (by omega) h3 x hgi)]
        exact (hx x).1 i hi (hall i hi) hgi hxl
      · have hno : ∀ i, i < m → gDst ops i ≠ some x := fun i hi hg => hex ⟨i, hi, hg⟩
        rw [stAt_untouched ops val m 0 t (fun i _ h2 => hno i (by omega))]
        exact (hx x).2 fun i hi _ => hno i hi
  intro fuel
  induction fuel with
  | zero =>
    intro listed a w k hsz hd hf hnm hkm hk s hat hx q
    refine htail 0 listed a w k hsz hd hf hnm (fun i hi => ?_) hkm hk s hat hx q
    apply Classical.byContradiction
    intro hn
    have : i ∈ left ops listed := mem_left.2 ⟨by omega, hn⟩
    have := List.length_pos_of_mem this
    omega
  | succ fuel ih =>
    intro listed a w k hsz hd hf hnm hkm hk s hat hx q
    by_cases hall : ∀ i, i < m → Ls listed i
    · exact htail _ listed a w k hsz hd hf hnm hall hkm hk s hat hx q
    refine ⟨fun hr => ?_, fun j hj => ?_⟩
    · exfalso
      apply hall
      intro i hi
      apply Classical.byContradiction
      intro hn
      obtain ⟨y, hy⟩ := ready_some hok hsz i (by omega) hn
      rw [hr] at hy; cases hy
    · obtain ⟨hnl, o, ho, hafter⟩ := (mem_ready' hsz).1 hj
      have hjs := (Array.getElem?_eq_some_iff.1 ho).1
      have hjm : j < m := by
        rcases Nat.lt_or_ge j m with h | h
        · exact h
        · exfalso
          apply hall
          intro i hi
          exact ahead_ready hd hsz hj ((drawOK_spec hok j o ho).2.2 h i (by omega))
      have hdst : gDst ops j = o.dst := by simp [gDst, ho]
      have hlook : ∀ n ∈ looks ops o, Rel σ (getL (stAt ops val t 0 j) n) (a.tmps.getD n undef) := fun n hn => by
        by_cases hnl' : n < t.length
        · by_cases hex : ∃ i, i < m ∧ gDst ops i = some n
          · obtain ⟨i, hi, hgi⟩ := hex
            have hah := ((drawOK_spec hok j o ho).2.1 hjm).1 n hn i hi hgi
            have hil := ahead_ready hd hsz hj hah
            have him : i < m := hi
            have hij : i < j := aheadOf_lt hok 10 j i hah
            rw [stAt_val ops val j 0 t i (by omega) (by omega) hgi hnl' (fun i' _ h2 h3 => hdist i i' him (by omega) h3 n hgi)]
            exact (hx n).1 i him hil hgi hnl'
          · have hno : ∀ i, i < m → gDst ops i ≠ some n := fun i hi hg => hex ⟨i, hi, hg⟩
            rw [stAt_untouched ops val j 0 t (fun i _ h2 => hno i (by omega))]
            exact (hx n).2 fun i hi _ => hno i (by omega)
        · rw [getL_none (by rw [stAt_length]; omega)]
          have : a.tmps.getD n undef = undef := by
            rw [Array.getD_eq_getD_getElem?, Array.getElem?_eq_none (by omega)]; rfl
          rw [this]; exact .tup .nil
      -- behind the operation
      have hnext : ∀ (k' : Nat) (rv : Value) (w' : World), k' ≤ m → (∀ i, i < m → eff i = true → (Ls (listed.setIfInBounds j true) i ↔ i < k')) → Rel σ (val j) rv → Sim σ (mem k') w' → Fr σ (mem k) w σ (mem k') w' →
          wpAny P .any ops Q fuel (listed.setIfInBounds j true) (a.put o.dst rv) w' := fun k' rv w' hk'm hk' hrv s' f' => by
        refine ih (listed.setIfInBounds j true) (a.put o.dst rv) w' k' (by simpa using hsz) (hd.set hsz hj) ?_ (fun i hi => ?_) hk'm hk' s' ?_ (fun x => ⟨fun i hi hli hgi hxl => ?_, fun hno => ?_⟩) fun a2 w2 σ2 r2 d2 s2 f2 => q a2 w2 σ2 r2 (d2.trans (put_defers _ _ _)) s2 (f'.trans f2)
        · have := left_set hjs hsz hnl; omega
        · rw [Ls_set (by omega)]; rintro (rfl | h)
          · omega
          · exact hnm i hi h
        · cases o.dst <;> simp [Act.put, hat]
        · rw [Ls_set (by omega)] at hli
          by_cases hij : i = j
          · subst hij
            rw [hdst] at hgi
            rw [hgi]
            simp only [Act.put]
            rw [Array.getD_eq_getD_getElem?, Array.getElem?_setIfInBounds_self_of_lt (by omega)]
            exact hrv
          · have hne : o.dst ≠ some x := by rw [← hdst]; exact hdist i j hi hjm (Ne.symm hij) x hgi
            have : (a.put o.dst rv).tmps.getD x undef = a.tmps.getD x undef := by
              cases hod : o.dst with
              | none => rfl
              | some d =>
                have hdx : d ≠ x := fun e => hne (by rw [hod, e])
                simp [Act.put, Array.getD_eq_getD_getElem?, Array.getElem?_setIfInBounds_ne hdx]
            rw [this]
            exact (hx x).1 i hi (hli.resolve_left hij) hgi hxl
        · have hne : o.dst ≠ some x := by rw [← hdst]; exact hno j hjm ((Ls_set (by omega)).2 (.inl rfl))
          have : (a.put o.dst rv).tmps.getD x undef = a.tmps.getD x undef := by
            cases hod : o.dst with
            | none => rfl
            | some d =>
              have hdx : d ≠ x := fun e => hne (by rw [hod, e])
              simp [Act.put, Array.getD_eq_getD_getElem?, Array.getElem?_setIfInBounds_ne hdx]
          rw [this]
          exact (hx x).2 fun i hi hli => hno i hi ((Ls_set (by omega)).2 (.inr hli))
      cases hej : eff j with
      | false =>
        obtain ⟨o', ho', hqv⟩ := (hq j hjm hej).1.alive (hm k hkm).1 (hm k hkm).2
        rw [ho] at ho'; cases ho'
        refine hqv σ w a Q _ s hlook (by rw [stAt_length]; exact hat) fun rv w' hrv s' f' => hnext k rv w' hkm (fun i hi hei => ?_) hrv s' f'
        rw [Ls_set (by omega)]
        have hij : i ≠ j := fun e => by rw [e, hej] at hei; cases hei
        rw [← hk i hi hei]
        exact ⟨fun h => h.resolve_left hij, .inr⟩
      | true =>
        obtain ⟨hev, hahead⟩ := he j hjm hej
        have hkj : k ≤ j := by
          rcases Nat.lt_or_ge j k with h | h
          · exact absurd ((hk j hjm hej).2 h) hnl
          · exact h
        have hmj : mem j = mem k := by
          have := hsame (j - k) k (by omega) fun i h1 h2 => by
            cases hei : eff i with
            | false => rfl
            | true =>
              have := (hk i (by omega) hei).1 (ahead_ready hd hsz hj (hahead i (by omega) hei))
              omega
          rwa [show k + (j - k) = j by omega] at this
        obtain ⟨o', ho', hqv⟩ := hev
        rw [ho] at ho'; cases ho'
        rw [hmj] at hqv
        refine hqv σ w a Q _ s hlook (by rw [stAt_length]; exact hat) fun rv w' hrv s' f' => hnext (j + 1) rv w' (by omega) (fun i hi hei => ?_) hrv s' f'
        rw [Ls_set (by omega)]
        constructor
        · rintro (rfl | h)
          · omega
          · have := (hk i hi hei).1 h; omega
        · intro h
          by_cases hij : i = j
          · exact .inl hij
          · exact .inr (ahead_ready hd hsz hj (hahead i (by omega) hei))
end

/-! ### Their evaluation -/
def roBut (src : Nat) (H : List AB) : List AB := setB (roH H) src (getB H src)
theorem roBut_get (src : Nat) (H : List AB) (i : Nat) : getB (roBut src H) i = if i = src then getB H i else roB (getB H i) := by
  unfold roBut
  rw [getB_setB, roH_length, getB_roH]
  by_cases h : i = src
  · subst h
    rw [if_pos rfl]
    by_cases h2 : i < H.length
    · rw [if_pos ⟨rfl, h2⟩]
    · rw [if_neg (fun e => h2 e.2), getB_none (by omega)]; rfl
  · rw [if_neg (fun e => h e.1), if_neg h]
theorem Sim.roBut {σ : List (Nat × Nat)} {H : List AB} {w : World} (s : Sim σ H w) (src : Nat) : Sim σ (roBut src H) w := by
  have hl : ∀ j, (getB (Go.Ax.roBut src H) j).live = true → (getB H j).live = true := fun j h => by
    rw [roBut_get] at h
    split at h
    · exact h
    · cases hg : getB H j <;> rw [hg] at h
      · exact h
      · rfl
      · rfl
  have hrw : ∀ j, (getB (Go.Ax.roBut src H) j).rw = true → (getB H j).rw = true := fun j h => by
    rw [roBut_get] at h
    split at h
    · exact h
    · rw [roB_rw] at h; cases h
  refine ⟨by unfold Go.Ax.roBut; rw [setB_length, roH_length]; exact s.len, fun i b z hb => ?_, fun i j b z z' hi hj hr hlv => s.inj i j b z z' hi hj (hrw i hr) (hl j hlv)⟩
  rw [roBut_get]
  split
  · exact s.blk i b z hb
  · have := s.ro.blk i b z hb
    rwa [getB_roH] at this
/-- Back from a call that was given one block to write to. -/
theorem Sim.back_one {σ σ' : List (Nat × Nat)} {H H' : List AB} {w w' : World} {src : Nat} (s : Sim σ H w) (hrw : (getB H src).rw = true) (s' : Sim σ' H' w') (f : Fr σ (Go.Ax.roBut src H) w σ' H' w')
    (hlow : lowB H.length (getB H' src) = true) (hrw' : (getB H' src).rw = true) : Sim σ (setB H src (getB H' src)) w' ∧ Fr σ H w σ (setB H src (getB H' src)) w' := by
  have hsl : src < H.length := by
    rcases Nat.lt_or_ge src H.length with h | h
    · exact h
    · rw [getB_none h] at hrw; cases hrw
  have hold : ∀ b, b < w.heap.size → (∀ z, σ[src]? ≠ some (b, z)) → w'.heap[b]? = w.heap[b]? := fun b hb hno => f.old b hb fun i z hr hi => by
    rw [roBut_get] at hr
    split at hr
    · rename_i e; subst e; exact hno z hi
    · rw [roB_rw] at hr; cases hr
  have hkey : ∀ i, (getB (setB H src (getB H' src)) i).rw = (getB H i).rw ∧ (getB (setB H src (getB H' src)) i).live = (getB H i).live := fun i => by
    rw [getB_setB]
    split
    · rename_i e
      rw [e.1, hrw', hrw]
      exact ⟨rfl, by rw [rw_live hrw', rw_live hrw]⟩
    · exact ⟨rfl, rfl⟩
  refine ⟨⟨by rw [setB_length]; exact s.len, fun i b z hb => ?_, fun i j b z z' hi hj hr hl => s.inj i j b z z' hi hj (by rw [← (hkey i).1]; exact hr) (by rw [← (hkey j).2]; exact hl)⟩, ?_⟩
  · rw [getB_setB]
    split
    · rename_i e
      have e1 := e.1
      subst e1
      exact low_blk f.ext s.len hlow (s'.blk i b z (f.ext i _ hb))
    · rename_i hne
      have hb0 := s.blk i b z hb
      cases hg : getB H i with
      | dead => trivial
      | cells r A =>
        rw [hg] at hb0
        have hlt := s.lt hb (by rw [hg]; rfl)
        rw [hold b hlt fun z' hs => hne ⟨(s.inj src i b z' z hs hb hrw (by rw [hg]; rfl)).symm, hsl⟩]
        exact hb0
      | code o0 xs0 =>
        rw [hg] at hb0
        have hlt := s.lt hb (by rw [hg]; rfl)
        rw [hold b hlt fun z' hs => hne ⟨(s.inj src i b z' z hs hb hrw (by rw [hg]; rfl)).symm, hsl⟩]
        exact hb0
  · exact ⟨f.os, f.tape, f.output, f.size, fun b hb hno => hold b hb fun z hs => hno src z hrw hs, Ext.refl _, fun i b z h h' => (by rw [h'] at h; cases h), fun i _ hr => by rwa [(hkey i).1] at hr⟩

def isEffCall (E : List FuncId) (o : Oper) : Bool :=
  match o.op with
  | .call c => match c.callee with
    | .value f => match f with
      | .func g => E.any (Nat.beq g)
      | _ => false
    | _ => false
  | .store _ _ _ => E.any (Nat.beq 0)
  | _ => false
def effAt (E : List FuncId) (ops : Array Oper) (i : Nat) : Bool :=
  match ops[i]? with
  | some o => isEffCall E o
  | none => false
def effOK (E : List FuncId) (ops : Array Oper) (m : Nat) : Bool := (List.range m).all fun j => !effAt E ops j || (List.range j).all fun i => !effAt E ops i || aheadOf ops 10 j i
section
variable (P : Program) (T : Table) (E : List FuncId) (src : Nat)
def runM : List Oper → List AV → List AB → List Bool → KT → Res
  | [], t, H, nd, K => K t H nd
  | o :: rest, t, H, nd, K =>
    match o.guard with
    | some _ => .fail
    | none => match isEffCall E o with
      | false => stepQ P T o t (setB H src .dead) nd fun t nd => runM rest t H nd K
      | true => if o.op.operands.all okOpd then
          match o.op with
          | .call c => match aCall c (evA t) with
            | some (g, args) => match P.funcs[g]? with
              | some fn => match fn.body with
                | some _ => match fn.name == "runtime.NumGoroutine" with
                  | true => .fail
                  | false => T g args (roBut src H) nd fun v H' nd' => match below H.length v && lowB H.length (getB H' src) && (getB H' src).rw with
                    | true => runM rest (putT t o.dst v) (setB H src (getB H' src)) nd' K
                    | false => .fail
                | none => .fail
              | none => .fail
            | none => .fail
          | .store ty x y => match eop P (.store ty x y) (evA t) (roBut src H) with
            | some (v, H', n) => match below H.length v && lowB H.length (getB H' src) && (getB H' src).rw with
              | true => runM rest (putT t o.dst v) (setB H src (getB H' src)) (n ++ nd) K
              | false => .fail
            | none => .fail
          | _ => .fail
        else .fail
end
inductive MChain (P : Program) (E : List FuncId) (ops : Array Oper) (src : Nat) (Hd : List AB) : Nat → List AV → List AB → Nat → List AV → List AB → Prop
  | nil {k : Nat} {t : List AV} {H : List AB} (hH : setB H src .dead = Hd) (hrw : (getB H src).rw = true) : MChain P E ops src Hd k t H k t H
  | q {k j : Nat} {t t' : List AV} {H H' : List AB} {v : AV} (he : effAt E ops k = false) (h : QVal P ops k t Hd v) (hH : setB H src .dead = Hd) (hrw : (getB H src).rw = true) (c : MChain P E ops src Hd (k + 1) (putT t (gDst ops k) v) H j t' H') : MChain P E ops src Hd k t H j t' H'
  | e {k j : Nat} {t t' : List AV} {H H1 H' : List AB} {v : AV} (he : effAt E ops k = true) (h : EVal P ops k t H v H1) (hH : setB H src .dead = Hd) (hrw : (getB H src).rw = true) (c : MChain P E ops src Hd (k + 1) (putT t (gDst ops k) v) H1 j t' H') : MChain P E ops src Hd k t H j t' H'
theorem MChain.vals {P : Program} {E : List FuncId} {ops : Array Oper} {src : Nat} {Hd : List AB} {k j : Nat} {t t' : List AV} {H H' : List AB} (c : MChain P E ops src Hd k t H j t' H') :
    ∃ (val : Nat → AV) (mem : Nat → List AB), k ≤ j ∧ t' = stAt ops val t k (j - k) ∧ mem k = H ∧ mem j = H' ∧ (∀ i, k ≤ i → i ≤ j → setB (mem i) src .dead = Hd ∧ (getB (mem i) src).rw = true) ∧
      ∀ i, k ≤ i → i < j → (effAt E ops i = false → QVal P ops i (stAt ops val t k (i - k)) Hd (val i) ∧ mem (i + 1) = mem i) ∧ (effAt E ops i = true → EVal P ops i (stAt ops val t k (i - k)) (mem i) (val i) (mem (i + 1))) := by
  have hcongr : ∀ (val : Nat → AV) (v : AV) (k n k' : Nat) (t : List AV), k < k' → stAt ops (fun i => if i = k then v else val i) t k' n = stAt ops val t k' n := by
    intro val v k n
    induction n with
    | zero => intros; rfl
    | succ n ihn => intro k' t hk; simp only [stAt]; rw [if_neg (by omega)]; exact ihn _ _ (by omega)
  have step : ∀ {k j : Nat} {t t' : List AV} {H H1 H' : List AB} {v : AV}, (setB H src .dead = Hd ∧ (getB H src).rw = true) →
      ((effAt E ops k = false → QVal P ops k t Hd v ∧ H1 = H) ∧ (effAt E ops k = true → EVal P ops k t H v H1)) →
      (∃ (val : Nat → AV) (mem : Nat → List AB), k + 1 ≤ j ∧ t' = stAt ops val (putT t (gDst ops k) v) (k + 1) (j - (k + 1)) ∧ mem (k + 1) = H1 ∧ mem j = H' ∧ (∀ i, k + 1 ≤ i → i ≤ j → setB (mem i) src .dead = Hd ∧ (getB (mem i) src).rw = true) ∧
        ∀ i, k + 1 ≤ i → i < j → (effAt E ops i = false → QVal P ops i (stAt ops val (putT t (gDst ops k) v) (k + 1) (i - (k + 1))) Hd (val i) ∧ mem (i + 1) = mem i) ∧ (effAt E ops i = true → EVal P ops i (stAt ops val (putT t (gDst ops k) v) (k + 1) (i - (k + 1))) (mem i) (val i) (mem (i + 1)))) →
      ∃ (val : Nat → AV) (mem : Nat → List AB), k ≤ j ∧ t' = stAt ops val t k (j - k) ∧ mem k = H ∧ mem j = H' ∧ (∀ i, k ≤ i → i ≤ j → setB (mem i) src .dead = Hd ∧ (getB (mem i) src).rw = true) ∧
        ∀ i, k ≤ i → i < j → (effAt E ops i = false → QVal P ops i (stAt ops val t k (i - k)) Hd (val i) ∧ mem (i + 1) = mem i) ∧ (effAt E ops i = true → EVal P ops i (stAt ops val t k (i - k)) (mem i) (val i) (mem (i + 1))) := by
    intro k j t t' H H1 H' v hH h ⟨val, mem, hle, e1, e2, e3, e4, e5⟩
    refine ⟨fun i => if i = k then v else val i, fun i => if i = k then H else mem i, by omega, ?_, by simp, by simp only []; rw [if_neg (by omega)]; exact e3, fun i h1 h2 => ?_, fun i h1 h2 => ?_⟩
    · rw [show j - k = (j - (k + 1)) + 1 by omega, e1]
      simp only [stAt, if_true]
      exact (hcongr _ _ _ _ _ _ (by omega)).symm
    · by_cases hik : i = k
      · simp only [hik, if_true]; exact hH
      · simp only [hik, if_false]; exact e4 i (by omega) h2
    · by_cases hik : i = k
      · subst hik
        simp only [Nat.sub_self, if_true, show ¬ i + 1 = i by omega, if_false, e2]
        exact h
      · have e6 : i - k = (i - (k + 1)) + 1 := by omega
        rw [e6]
        simp only [stAt, if_true, hik, if_false, show ¬ i + 1 = k by omega]
        rw [hcongr _ _ _ _ _ _ (by omega)]
        exact e5 i (by omega) h2
  induction c with
  | @nil k t H hH hrw => exact ⟨fun _ => .tup [], fun _ => H, Nat.le_refl _, (by rw [Nat.sub_self]; rfl), rfl, rfl, fun _ _ _ => ⟨hH, hrw⟩, fun i h1 h2 => by omega⟩
  | q he h hH hrw c ih => exact step ⟨hH, hrw⟩ ⟨fun _ => ⟨h, rfl⟩, fun h' => (by rw [he] at h'; cases h')⟩ ih
  | e he h hH hrw c ih => exact step ⟨hH, hrw⟩ ⟨fun h' => (by rw [he] at h'; cases h'), fun _ => h⟩ ih

section
variable {P : Program} {T : Table} {E : List FuncId} {src : Nat} {ops : Array Oper}
theorem runM_sound (hT : SoundT P T) (K : KT) {m : Nat} (hm : m ≤ ops.size) : ∀ (l : List Oper) (k : Nat) (t : List AV) (H Hd : List AB) (nd : List Bool), l = (ops.toList.take m).drop k → k ≤ m → setB H src .dead = Hd → (getB H src).rw = true →
    (runM P T E src l t H nd K).sel = .fail ∨ ∃ t' H' nd', (runM P T E src l t H nd K).sel = (K t' H' nd').sel ∧ (allT nd' = true → allT nd = true ∧ MChain P E ops src Hd k t H m t' H')
  | [], k, t, H, Hd, nd, hl, hk, hH, hrw => by
    have : m ≤ k := by
      have := congrArg List.length hl
      simp at this; omega
    have : k = m := by omega
    subst this
    exact .inr ⟨t, H, nd, rfl, fun h => ⟨h, .nil hH hrw⟩⟩
  | o :: rest, k, t, H, Hd, nd, hl, hk, hH, hrw => by
    obtain ⟨ho, hrest⟩ := drop_cons hl
    have hks : k < m := by
      rcases Nat.lt_or_ge k m with h' | h'
      · exact h'
      · rw [List.getElem?_eq_none (by simp; omega)] at ho; cases ho
    have ho' : ops[k]? = some o := by
      rw [List.getElem?_take_of_lt hks] at ho; simpa using ho
    have hgd : gDst ops k = o.dst := by simp [gDst, ho']
    unfold runM
    cases hg : o.guard with
    | some g => exact .inl rfl
    | none =>
      dsimp only
      have hw : ∀ (Q : Exit → Act → World → Prop) (next : Act → World → Prop) (a : Act) (w : World), (o.wp P a w next Q → wpOp P ops Q k next a w) := fun Q next a w h => by
        simp only [wpOp, ho']
        rw [if_pos (by simp [Region.wanted, hg])]
        exact .inl h
      cases he : isEffCall E o with
      | false =>
        have heff : effAt E ops k = false := by simp [effAt, ho', he]
        rcases stepQ_sound (H := setB H src .dead) hT o t nd (fun t nd => runM P T E src rest t H nd K) with h2 | ⟨v, nd2, h2, h3⟩
        · exact .inl h2
        rw [h2]
        rcases runM_sound hT K hm rest (k + 1) (putT t o.dst v) H Hd nd2 hrest hks hH hrw with h4 | ⟨t', H', nd', h4, h5⟩
        · exact .inl h4
        refine .inr ⟨t', H', nd', h4, fun hn => ?_⟩
        obtain ⟨h6, c⟩ := h5 hn
        obtain ⟨h8, hok, h9⟩ := h3 h6
        rw [← hgd] at c
        rw [hH] at h9
        exact ⟨h8, .q heff ⟨o, ho', fun σ w a Q next s r _ q => hw Q next a w (h9 σ w a Q next s (opds_looks hok fun n hn => r n hn) q)⟩ hH hrw c⟩
      | true =>
        have heff : effAt E ops k = true := by simp [effAt, ho', he]
        dsimp only
        split
        case isFalse => exact .inl rfl
        rename_i hok
        cases hop : o.op
        case call c =>
          dsimp only
          cases hcall : aCall c (evA t) with
          | none => exact .inl rfl
          | some x =>
            obtain ⟨g, args⟩ := x
            dsimp only
            cases hfn : P.funcs[g]? with
            | none => exact .inl rfl
            | some fn =>
              dsimp only
              cases hb : fn.body with
              | none => exact .inl rfl
              | some body =>
                dsimp only
                cases hname : (fn.name == "runtime.NumGoroutine") with
                | true => exact .inl rfl
                | false =>
                  dsimp only
                  rcases hT g args (roBut src H) nd (fun v H' nd' => match below H.length v && lowB H.length (getB H' src) && (getB H' src).rw with
                    | true => runM P T E src rest (putT t o.dst v) (setB H src (getB H' src)) nd' K
                    | false => .fail) with h | ⟨v, H1, nd1, h1, h2⟩
                  · exact .inl h
                  rw [h1]
                  cases hc3 : below H.length v && lowB H.length (getB H1 src) && (getB H1 src).rw with
                  | false => exact .inl rfl
                  | true =>
                    simp only [Bool.and_eq_true] at hc3
                    obtain ⟨⟨hbl, hlow⟩, hrw1⟩ := hc3
                    dsimp only
                    have hsl : src < H.length := by
                      rcases Nat.lt_or_ge src H.length with h | h
                      · exact h
                      · rw [getB_none h] at hrw; cases hrw
                    have hH1 : setB (setB H src (getB H1 src)) src .dead = Hd := by
                      rw [← hH]
                      have : ∀ (l : List AB) (n : Nat) (x y : AB), setB (setB l n x) n y = setB l n y := by
                        intro l
                        induction l with
                        | nil => intros; rfl
                        | cons a l ih => intro n x y; cases n with
                          | zero => rfl
                          | succ n => simp only [setB]; rw [ih]
                      exact this _ _ _ _
                    rcases runM_sound hT K hm rest (k + 1) (putT t o.dst v) (setB H src (getB H1 src)) Hd nd1 hrest hks hH1 (by rw [getB_setB_same hsl]; exact hrw1) with h4 | ⟨t', H', nd', h4, h5⟩
                    · exact .inl h4
                    refine .inr ⟨t', H', nd', h4, fun hn => ?_⟩
                    obtain ⟨h6, ch⟩ := h5 hn
                    obtain ⟨h8, h9⟩ := h2 h6
                    rw [← hgd] at ch
                    refine ⟨h8, .e heff ⟨o, ho', fun σ w a Q next s r _ q => hw Q next a w ?_⟩ hH hrw ch⟩
                    have hopd := opds_looks hok fun n hn => r n hn
                    obtain ⟨rargs, hra, hrun⟩ := call_run (w := w) (P := P) hop hcall hopd
                    show o.upon P a next Q ((execOp a.eval o).run P w)
                    rw [hrun, callFunc_enter hfn hb hname]
                    refine (h9 σ w rargs (s.roBut src) hra).mono ?_
                    rintro e w' ⟨rv, rfl, σ', e2, e3, e4⟩
                    obtain ⟨s', f'⟩ := s.back_one hrw e3 e4 hlow hrw1
                    exact q _ _ (below_rel e4.ext s.len hbl e2) s' f'
        case store ty x y =>
          dsimp only
          cases heop : eop P (.store ty x y) (evA t) (roBut src H) with
          | none => exact .inl rfl
          | some z =>
            obtain ⟨v, H1, n⟩ := z
            dsimp only
            cases hc3 : below H.length v && lowB H.length (getB H1 src) && (getB H1 src).rw with
            | false => exact .inl rfl
            | true =>
              simp only [Bool.and_eq_true] at hc3
              obtain ⟨⟨hbl, hlow⟩, hrw1⟩ := hc3
              dsimp only
              have hsl : src < H.length := by
                rcases Nat.lt_or_ge src H.length with h | h
                · exact h
                · rw [getB_none h] at hrw; cases hrw
              have hH1 : setB (setB H src (getB H1 src)) src .dead = Hd := by
                rw [← hH]
                have : ∀ (l : List AB) (n : Nat) (x y : AB), setB (setB l n x) n y = setB l n y := by
                  intro l
                  induction l with
                  | nil => intros; rfl
                  | cons a l ih => intro n x y; cases n with
                    | zero => rfl
                    | succ n => simp only [setB]; rw [ih]
                exact this _ _ _ _
              rcases runM_sound hT K hm rest (k + 1) (putT t o.dst v) (setB H src (getB H1 src)) Hd (n ++ nd) hrest hks hH1 (by rw [getB_setB_same hsl]; exact hrw1) with h4 | ⟨t', H', nd', h4, h5⟩
              · exact .inl h4
              refine .inr ⟨t', H', nd', h4, fun hn => ?_⟩
              obtain ⟨h6, ch⟩ := h5 hn
              rw [allT_append, Bool.and_eq_true] at h6
              rw [← hgd] at ch
              refine ⟨h6.2, .e heff ⟨o, ho', fun σ w a Q next s r _ q => hw Q next a w ?_⟩ hH hrw ch⟩
              have hopd := opds_looks hok fun n hn => r n hn
              rw [← hop] at heop
              obtain ⟨rv, w', e1, σ', e2, e3, e4⟩ := eop_out (ρ := a.eval) heop h6.1 (s.roBut src) hopd
              obtain ⟨s', f'⟩ := s.back_one hrw e3 e4 hlow hrw1
              have hrel := below_rel e4.ext s.len hbl e2
              show o.upon P a next Q ((execOp a.eval o).run P w)
              rcases e1 with e1 | ⟨e1, rfl⟩
              · rw [e1]; exact q _ _ hrel s' f'
              · rw [e1]; exact q _ _ hrel s' f'
        all_goals exact .inl rfl

/-- A region of the mixed kind. -/
theorem mix_reach (hT : SoundT P T) (hf : P.follows .mixedOrders = true) {m : Nat} (hm : m ≤ ops.size) (hok : drawOK ops m = true) (heff : effOK E ops m = true) {id : Nat} {k : List Item} {t t' : List AV} {H H' : List AB} {nd : List Bool} (hrw : (getB H src).rw = true)
    (h : (runM P T E src (ops.toList.take m) t H [] fun t H nd => runOps P T ops (ops.toList.drop m) t H nd fun t H nd => .stop [] t H nd).sel = .stop [] t' H' nd) (hn : allT nd = true) : Reach P (.code (.region id ops true) :: k) t H k t' H' := by
  rcases runM_sound (src := src) (E := E) (ops := ops) hT (fun t H nd => runOps P T ops (ops.toList.drop m) t H nd fun t H nd => .stop [] t H nd) hm (ops.toList.take m) 0 t H _ [] (by simp) (Nat.zero_le _) rfl hrw with h1 | ⟨t1, H1, nd1, h1, h2⟩
  · rw [h] at h1; cases h1
  rw [h1] at h
  rcases runOps_sound (ops := ops) hT (fun t H nd => .stop [] t H nd) (ops.toList.drop m) m t1 H1 nd1 rfl hm with h3 | ⟨t2, H2, nd2, h3, h4⟩
  · rw [h] at h3; cases h3
  rw [h] at h3
  cases h3
  obtain ⟨h5, ch⟩ := h4 hn
  obtain ⟨_, mc⟩ := h2 h5
  obtain ⟨val, mem, _, e1, e2, e3, e4, e5⟩ := mc.vals
  rw [Nat.sub_zero] at e1
  rw [e1, ← e3] at ch
  refine region_reach fun σ w a Q s r q => wp_region_any hf ?_
  have hnl : ∀ i, ¬ Ls (Array.replicate ops.size false) i := fun i => by
    unfold Ls
    rw [Array.getD_eq_getD_getElem?]
    by_cases hi : i < ops.size
    · simp [hi]
    · simp [hi]
  have hsm : Same w { w with drawn := w.drawn + 1 } := Same.drew w
  refine any_mix (eff := effAt E ops) hok hm (fun i hi hei => ?_) (fun i hi hei => ⟨?_, fun j hj hej => ?_⟩) (fun i hi => e4 i (Nat.zero_le _) hi) ch ops.size _ a _ 0 (by simp) (fun i o _ hl => absurd hl (hnl i)) ?_ (fun i _ => hnl i) (Nat.zero_le _) (fun i hi hei => ⟨fun h => absurd h (hnl i), fun h => by omega⟩)
    (by rw [e2]; exact hsm.sim s) ?_ (fun x => ⟨fun i _ hl => absurd hl (hnl i), fun _ => r.getD x⟩) fun a' w' σ' r' d' s' f' => q a' w' σ' r' d' s' (by rw [e2] at f'; exact hsm.fr.trans f')
  · have := (e5 i (Nat.zero_le _) hi).1 hei
    rwa [Nat.sub_zero] at this
  · have := (e5 i (Nat.zero_le _) hi).2 hei
    rwa [Nat.sub_zero] at this
  · unfold effOK at heff
    simp only [List.all_eq_true, List.mem_range, Bool.or_eq_true, Bool.not_eq_true'] at heff
    rcases heff i hi with h | h
    · rw [hei] at h; cases h
    · rcases h j hj with h | h
      · rw [hej] at h; cases h
      · exact h
  · have := List.length_filter_le (fun i => !(Array.replicate ops.size false).getD i false) (List.range ops.size)
    simp only [List.length_range] at this
    exact this
  · have := r.length; simpa using this.symm
end
end Go.Ax

/- Regions of open order in which one block is made among operations that leave memory alone. -/
namespace Go.Ax
open Go

section
variable {P : Program} {T : Table} {ops : Array Oper} {m e : Nat}

/-- The operation that makes a block. -/
def BVal (P : Program) (ops : Array Oper) (e : Nat) (H : List AB) (v : AV) (B : AB) : Prop :=
  ∃ o, ops[e]? = some o ∧ ∀ (σ : List (Nat × Nat)) (w : World) (a : Act) (Q : Exit → Act → World → Prop) (next : Act → World → Prop), Sim σ H w →
    (∀ rv w' x, Rel (σ ++ [x]) v rv → Sim (σ ++ [x]) (H ++ [B]) w' → Fr σ H w (σ ++ [x]) (H ++ [B]) w' → next (a.put o.dst rv) w') → wpOp P ops Q e next a w
theorem Sim.less {σ : List (Nat × Nat)} {x : Nat × Nat} {H : List AB} {B : AB} {w : World} (s : Sim (σ ++ [x]) (H ++ [B]) w) (hlow : lowH H.length H = true) : Sim σ H w := by
  have hlen : σ.length = H.length := by simpa using s.len
  have hx : ∀ {i : Nat} {p : Nat × Nat}, σ[i]? = some p → (σ ++ [x])[i]? = some p := fun h => Ext.append σ [x] _ _ h
  have hg : ∀ {i : Nat} {p : Nat × Nat}, σ[i]? = some p → getB (H ++ [B]) i = getB H i := fun h => getB_append_left (by rw [← hlen]; exact isSome_lt h)
  refine ⟨hlen, fun i b z hi => ?_, fun i j b z z' hi hj hr hl => s.inj i j b z z' (hx hi) (hx hj) (by rw [hg hi]; exact hr) (by rw [hg hj]; exact hl)⟩
  have := s.blk i b z (hx hi)
  rw [hg hi] at this
  exact low_blk (Ext.append σ [x]) hlen (lowH_get hlow i) this
theorem Sim.more {σ : List (Nat × Nat)} {x : Nat × Nat} {H : List AB} {B : AB} {w w' : World} (s1 : Sim (σ ++ [x]) (H ++ [B]) w) (hl : B.live = true) (s' : Sim σ H w') (f : Fr σ H w σ H w') :
    Sim (σ ++ [x]) (H ++ [B]) w' ∧ Fr (σ ++ [x]) (H ++ [B]) w (σ ++ [x]) (H ++ [B]) w' := by
  have hlen : σ.length = H.length := s'.len
  have hx : ∀ {i : Nat} {p : Nat × Nat}, σ[i]? = some p → (σ ++ [x])[i]? = some p := fun h => Ext.append σ [x] _ _ h
  have hg : ∀ {i : Nat} {p : Nat × Nat}, σ[i]? = some p → getB (H ++ [B]) i = getB H i := fun h => getB_append_left (by rw [← hlen]; exact isSome_lt h)
  have hgB : getB (H ++ [B]) σ.length = B := by rw [getB_append_right (by omega), hlen, Nat.sub_self]; rfl
  have hxB : (σ ++ [x])[σ.length]? = some x := by simp
  refine ⟨⟨s1.len, fun i b z hi => ?_, s1.inj⟩, f.os, f.tape, f.output, f.size, fun b hb hno => f.old b hb fun i z hr hi => ?_, Ext.refl _, fun i b z h h' => (by rw [h'] at h; cases h), fun _ _ h => h⟩
  · rcases Nat.lt_or_ge i σ.length with h | h
    · have hi' : σ[i]? = some (b, z) := by rw [List.getElem?_append_left h] at hi; exact hi
      rw [hg hi']
      exact (s'.blk i b z hi').mono (Ext.append σ [x])
    · have hlt := isSome_lt hi
      simp only [List.length_append, List.length_cons, List.length_nil] at hlt
      have : i = σ.length := by omega
      subst this
      have hb := s1.lt hi (by rw [hgB]; exact hl)
      rw [f.old b hb fun i' z' hr' hi' => ?_]
      · exact s1.blk _ b z hi
      · have := s1.inj i' σ.length b z' z (hx hi') hi (by rw [hg hi']; exact hr') (by rw [hgB]; exact hl)
        have := isSome_lt hi'
        omega
  · exact hno i z (by rw [hg hi]; exact hr) (hx hi)

theorem any_box (hok : drawOK ops m = true) (hmn : m ≤ ops.size) (hem : e < m) {t t' : List AV} {H H' : List AB} {B : AB} {val : Nat → AV} (hv : ∀ i, i < m → i ≠ e → QVal P ops i (stAt ops val t 0 i) H (val i)) (hb : BVal P ops e H (val e) B)
    (hlk : ∀ i, i < m → i ≠ e → ∀ o, ops[i]? = some o → ∀ n ∈ looks ops o, gDst ops e ≠ some n) (hlow : lowH H.length H = true) (hlive : B.live = true)
    (c : Chain P ops m (stAt ops val t 0 m) (H ++ [B]) ops.size t' H') {Q : Exit → Act → World → Prop} {σ : List (Nat × Nat)} :
    ∀ (fuel : Nat) (listed : Array Bool) (a : Act) (w : World) (σ1 : List (Nat × Nat)) (H1 : List AB), listed.size = ops.size → Down ops listed →
      (left ops listed).length ≤ fuel → (∀ i, m ≤ i → ¬ Ls listed i) → ((σ1 = σ ∧ H1 = H ∧ ¬ Ls listed e) ∨ (∃ x, σ1 = σ ++ [x] ∧ H1 = H ++ [B] ∧ Ls listed e)) → Sim σ1 H1 w → a.tmps.size = t.length →
      (∀ x, (∀ i, i < m → Ls listed i → gDst ops i = some x → x < t.length → Rel (if i = e then σ1 else σ) (val i) (a.tmps.getD x undef)) ∧ ((∀ i, i < m → Ls listed i → gDst ops i ≠ some x) → Rel σ (getL t x) (a.tmps.getD x undef))) →
      (∀ a' w' σ', RelL σ' t' a'.tmps.toList → a'.defers = a.defers → Sim σ' H' w' → Fr σ1 H1 w σ' H' w' → Q .normal a' w') → wpAny P .any ops Q fuel listed a w := by
  have hdist : ∀ i i', i < m → i' < m → i' ≠ i → ∀ x, gDst ops i = some x → gDst ops i' ≠ some x := fun i i' hi hi' hne x hx => by
    have hoi : ops[i]? = some ops[i] := Array.getElem?_eq_getElem (by omega)
    have hd : ops[i].dst = some x := by simpa [gDst, hoi] using hx
    exact ((drawOK_spec hok i _ hoi).2.1 hi).2 i' hi' hne x hd
  have htail : ∀ (fuel : Nat) (listed : Array Bool) (a : Act) (w : World) (σ1 : List (Nat × Nat)) (H1 : List AB), listed.size = ops.size → Down ops listed →
      (left ops listed).length ≤ fuel → (∀ i, m ≤ i → ¬ Ls listed i) → (∀ i, i < m → Ls listed i) → ((σ1 = σ ∧ H1 = H ∧ ¬ Ls listed e) ∨ (∃ x, σ1 = σ ++ [x] ∧ H1 = H ++ [B] ∧ Ls listed e)) → Sim σ1 H1 w → a.tmps.size = t.length →
      (∀ x, (∀ i, i < m → Ls listed i → gDst ops i = some x → x < t.length → Rel (if i = e then σ1 else σ) (val i) (a.tmps.getD x undef)) ∧ ((∀ i, i < m → Ls listed i → gDst ops i ≠ some x) → Rel σ (getL t x) (a.tmps.getD x undef))) →
      (∀ a' w' σ', RelL σ' t' a'.tmps.toList → a'.defers = a.defers → Sim σ' H' w' → Fr σ1 H1 w σ' H' w' → Q .normal a' w') → wpAny P .any ops Q fuel listed a w := by
    intro fuel listed a w σ1 H1 hsz hd hf hnm hall hcase s hat hx q
    obtain ⟨x0, rfl, rfl, _⟩ : ∃ x, σ1 = σ ++ [x] ∧ H1 = H ++ [B] ∧ Ls listed e := by
      rcases hcase with ⟨_, _, h⟩ | h
      · exact absurd (hall e hem) h
      · exact h
    have hext : Ext σ (σ ++ [x0]) := Ext.append σ [x0]
    refine any_tail hok fuel listed m _ (H ++ [B]) (σ ++ [x0]) a w hsz hd hf (Nat.le_refl _) (fun i hi => ⟨fun h => ?_, fun h => hall i h⟩) c s ?_ q
    · rcases Nat.lt_or_ge i m with h' | h'
      · exact h'
      · exact absurd h (hnm i h')
    · refine RelL.of_get (by rw [stAt_length]; simpa using hat.symm) fun x b y hb hy => ?_
      have hxl : x < t.length := by
        rcases Nat.lt_or_ge x t.length with h' | h'
        · exact h'
        · rw [List.getElem?_eq_none (by rw [stAt_length]; exact h')] at hb; cases hb
      have hb' : b = getL (stAt ops val t 0 m) x := by
        rw [getL_some (by rw [stAt_length]; exact hxl)] at hb; cases hb; rfl
      have hy' : a.tmps.getD x undef = y := by
        have : a.tmps[x]? = some y := by simpa using hy
        rw [Array.getD_eq_getD_getElem?, this]; rfl
      subst hb'
      rw [← hy']
      by_cases hex : ∃ i, i < m ∧ gDst ops i = some x
      · obtain ⟨i, hi, hgi⟩ := hex
        rw [stAt_val ops val m 0 t i (by omega) (by omega) hgi hxl (fun i' _ h2 h3 => hdist i i' hi (by omega) h3 x hgi)]
        have := (hx x).1 i hi (hall i hi) hgi hxl
        split at this
        · exact this
        · exact this.mono hext
      · have hno : ∀ i, i < m → gDst ops i ≠ some x := fun i hi hg => hex ⟨i, hi, hg⟩
        rw [stAt_untouched ops val m 0 t (fun i _ h2 => hno i (by omega))]
        exact ((hx x).2 fun i hi _ => hno i hi).mono hext
  intro fuel
  induction fuel with
  | zero =>
    intro listed a w σ1 H1 hsz hd hf hnm hcase s hat hx q
    refine htail 0 listed a w σ1 H1 hsz hd hf hnm (fun i hi => ?_) hcase s hat hx q
    apply Classical.byContradiction
    intro hn
    have : i ∈ left ops listed := mem_left.2 ⟨by omega, hn⟩
    have := List.length_pos_of_mem this
    omega
  | succ fuel ih =>
    intro listed a w σ1 H1 hsz hd hf hnm hcase s hat hx q
    by_cases hall : ∀ i, i < m → Ls listed i
    · exact htail _ listed a w σ1 H1 hsz hd hf hnm hall hcase s hat hx q
    refine ⟨fun hr => ?_, fun j hj => ?_⟩
    · exfalso
      apply hall
      intro i hi
      apply Classical.byContradiction
      intro hn
      obtain ⟨y, hy⟩ := ready_some hok hsz i (by omega) hn
      rw [hr] at hy; cases hy
    · obtain ⟨hnl, o, ho, hafter⟩ := (mem_ready' hsz).1 hj
      have hjs := (Array.getElem?_eq_some_iff.1 ho).1
      have hjm : j < m := by
        rcases Nat.lt_or_ge j m with h | h
        · exact h
        · exfalso
          apply hall
          intro i hi
          exact ahead_ready hd hsz hj ((drawOK_spec hok j o ho).2.2 h i (by omega))
      have hdst : gDst ops j = o.dst := by simp [gDst, ho]
      -- behind the operation
      have hnext : ∀ (σ2 : List (Nat × Nat)) (H2 : List AB) (rv : Value) (w' : World), ((σ2 = σ ∧ H2 = H ∧ ¬ Ls (listed.setIfInBounds j true) e) ∨ (∃ x, σ2 = σ ++ [x] ∧ H2 = H ++ [B] ∧ Ls (listed.setIfInBounds j true) e)) → Rel (if j = e then σ2 else σ) (val j) rv →
          (∀ x, Ls listed e → Rel σ1 (val e) x → Rel σ2 (val e) x) → Sim σ2 H2 w' → Fr σ1 H1 w σ2 H2 w' → wpAny P .any ops Q fuel (listed.setIfInBounds j true) (a.put o.dst rv) w' := fun σ2 H2 rv w' hcase' hrv hkeep s' f' => by
        refine ih (listed.setIfInBounds j true) (a.put o.dst rv) w' σ2 H2 (by simpa using hsz) (hd.set hsz hj) ?_ (fun i hi => ?_) hcase' s' ?_ (fun x => ⟨fun i hi hli hgi hxl => ?_, fun hno => ?_⟩) fun a2 w2 σ3 r2 d2 s2 f2 => q a2 w2 σ3 r2 (d2.trans (put_defers _ _ _)) s2 (f'.trans f2)
        · have := left_set hjs hsz hnl; omega
        · rw [Ls_set (by omega)]; rintro (rfl | h)
          · omega
          · exact hnm i hi h
        · cases o.dst <;> simp [Act.put, hat]
        · rw [Ls_set (by omega)] at hli
          by_cases hij : i = j
          · subst hij
            rw [hdst] at hgi
            rw [hgi]
            simp only [Act.put]
            rw [Array.getD_eq_getD_getElem?, Array.getElem?_setIfInBounds_self_of_lt (by omega)]
            exact hrv
          · have hne : o.dst ≠ some x := by rw [← hdst]; exact hdist i j hi hjm (Ne.symm hij) x hgi
            have : (a.put o.dst rv).tmps.getD x undef = a.tmps.getD x undef := by
              cases hod : o.dst with
              | none => rfl
              | some d =>
                have hdx : d ≠ x := fun e => hne (by rw [hod, e])
                simp [Act.put, Array.getD_eq_getD_getElem?, Array.getElem?_setIfInBounds_ne hdx]
            rw [this]
            have hl := hli.resolve_left hij
            have h0 := (hx x).1 i hi hl hgi hxl
            by_cases hie : i = e
            · subst hie
              rw [if_pos rfl] at h0 ⊢
              exact hkeep _ hl h0
            · rw [if_neg hie] at h0 ⊢
              exact h0
        · have hne : o.dst ≠ some x := by rw [← hdst]; exact hno j hjm ((Ls_set (by omega)).2 (.inl rfl))
          have : (a.put o.dst rv).tmps.getD x undef = a.tmps.getD x undef := by
            cases hod : o.dst with
            | none => rfl
            | some d =>
              have hdx : d ≠ x := fun e => hne (by rw [hod, e])
              simp [Act.put, Array.getD_eq_getD_getElem?, Array.getElem?_setIfInBounds_ne hdx]
          rw [this]
          exact (hx x).2 fun i hi hli => hno i hi ((Ls_set (by omega)).2 (.inr hli))
      by_cases hje : j = e
      · subst hje
        obtain ⟨rfl, rfl, _⟩ : σ1 = σ ∧ H1 = H ∧ ¬ Ls listed j := by
          rcases hcase with h | ⟨_, _, _, h⟩
          · exact h
          · exact absurd h hnl
        obtain ⟨o', ho', hbv⟩ := hb
        rw [ho] at ho'; cases ho'
        exact hbv σ1 w a Q _ s fun rv w' x hrv s' f' => hnext (σ1 ++ [x]) (H1 ++ [B]) rv w' (.inr ⟨x, rfl, rfl, (Ls_set (by omega)).2 (.inl rfl)⟩) (by rw [if_pos rfl]; exact hrv) (fun _ h => absurd h hnl) s' f'
      · obtain ⟨o', ho', hq⟩ := hv j hjm hje
        rw [ho] at ho'; cases ho'
        have s0 : Sim σ H w := by
          rcases hcase with ⟨rfl, rfl, _⟩ | ⟨x, rfl, rfl, _⟩
          · exact s
          · exact s.less hlow
        have hLe : Ls (listed.setIfInBounds j true) e ↔ Ls listed e := by
          rw [Ls_set (by omega)]
          exact ⟨fun h => h.resolve_left fun h' => hje h'.symm, .inr⟩
        refine hq σ w a Q _ s0 (fun n hn => ?_) (by rw [stAt_length]; exact hat) fun rv w' hrv s' f' => ?_
        · by_cases hnl' : n < t.length
          · by_cases hex : ∃ i, i < m ∧ gDst ops i = some n
            · obtain ⟨i, hi, hgi⟩ := hex
              have hie : i ≠ e := fun h => hlk j hjm hje o ho n hn (by rw [← h]; exact hgi)
              have hah := ((drawOK_spec hok j o ho).2.1 hjm).1 n hn i hi hgi
              have hil := ahead_ready hd hsz hj hah
              have hij : i < j := aheadOf_lt hok 10 j i hah
              rw [stAt_val ops val j 0 t i (by omega) (by omega) hgi hnl' (fun i' _ h2 h3 => hdist i i' hi (by omega) h3 n hgi)]
              have := (hx n).1 i hi hil hgi hnl'
              rwa [if_neg hie] at this
            · have hno : ∀ i, i < m → gDst ops i ≠ some n := fun i hi hg => hex ⟨i, hi, hg⟩
              rw [stAt_untouched ops val j 0 t (fun i _ h2 => hno i (by omega))]
              exact (hx n).2 fun i hi _ => hno i (by omega)
          · rw [getL_none (by rw [stAt_length]; omega)]
            have : a.tmps.getD n undef = undef := by
              rw [Array.getD_eq_getD_getElem?, Array.getElem?_eq_none (by omega)]; rfl
            rw [this]; exact .tup .nil
        · rcases hcase with ⟨rfl, rfl, h⟩ | ⟨x, rfl, rfl, h⟩
          · exact hnext σ1 H1 rv w' (.inl ⟨rfl, rfl, by rw [hLe]; exact h⟩) (by rw [if_neg hje]; exact hrv) (fun _ _ h => h) s' f'
          · obtain ⟨s2, f2⟩ := s.more hlive s' f'
            exact hnext (σ ++ [x]) (H ++ [B]) rv w' (.inr ⟨x, rfl, rfl, by rw [hLe]; exact h⟩) (by rw [if_neg hje]; exact hrv) (fun _ _ h => h) s2 f2

/-! ### Their evaluation -/
/-- The first operations: the e-th makes a block that v points to, the others leave memory alone. -/
def runX (P : Program) (T : Table) (e : Nat) (v : AV) : Nat → List Oper → List AV → List AB → List Bool → (List AV → List Bool → Res) → Res
  | _, [], t, _, nd, K => K t nd
  | k, o :: rest, t, H, nd, K =>
    match o.guard with
    | some _ => .fail
    | none => match Nat.beq k e with
      | true => runX P T e v (k + 1) rest (putT t o.dst v) H nd K
      | false => stepQ P T o t H nd fun t nd => runX P T e v (k + 1) rest t H nd K
theorem runX_sound {H : List AB} {v : AV} (hT : SoundT P T) (K : List AV → List Bool → Res) {m : Nat} (hm : m ≤ ops.size) : ∀ (l : List Oper) (k : Nat) (t : List AV) (nd : List Bool), l = (ops.toList.take m).drop k → k ≤ m → (runX P T e v k l t H nd K).sel = .fail ∨
    ∃ t' nd', (runX P T e v k l t H nd K).sel = (K t' nd').sel ∧ (allT nd' = true → allT nd = true ∧ ∃ val : Nat → AV, (k ≤ e → e < m → val e = v) ∧ t' = stAt ops val t k (m - k) ∧ ∀ i, k ≤ i → i < m → i ≠ e → QVal P ops i (stAt ops val t k (i - k)) H (val i))
  | [], k, t, nd, hl, hk => by
    have : m ≤ k := by
      have := congrArg List.length hl
      simp at this; omega
    have : k = m := by omega
    subst this
    exact .inr ⟨t, nd, rfl, fun h => ⟨h, fun _ => v, fun _ _ => rfl, by rw [Nat.sub_self]; rfl, fun i h1 h2 => by omega⟩⟩
  | o :: rest, k, t, nd, hl, hk => by
    obtain ⟨ho, hrest⟩ := drop_cons hl
    have hks : k < m := by
      rcases Nat.lt_or_ge k m with h' | h'
      · exact h'
      · rw [List.getElem?_eq_none (by simp; omega)] at ho; cases ho
    have ho' : ops[k]? = some o := by
      rw [List.getElem?_take_of_lt hks] at ho; simpa using ho
    have hgd : gDst ops k = o.dst := by simp [gDst, ho']
    have hcongr : ∀ (val : Nat → AV) (v : AV) (k n k' : Nat) (t : List AV), k < k' → stAt ops (fun i => if i = k then v else val i) t k' n = stAt ops val t k' n := by
      intro val v k n
      induction n with
      | zero => intros; rfl
      | succ n ihn => intro k' t hk; simp only [stAt]; rw [if_neg (by omega)]; exact ihn _ _ (by omega)
    have fin : ∀ {t' : List AV} {v1 : AV} {val : Nat → AV}, (k = e → v1 = v) → (k ≠ e → QVal P ops k t H v1) → (k + 1 ≤ e → e < m → val e = v) → t' = stAt ops val (putT t o.dst v1) (k + 1) (m - (k + 1)) → (∀ i, k + 1 ≤ i → i < m → i ≠ e → QVal P ops i (stAt ops val (putT t o.dst v1) (k + 1) (i - (k + 1))) H (val i)) →
        ∃ val : Nat → AV, (k ≤ e → e < m → val e = v) ∧ t' = stAt ops val t k (m - k) ∧ ∀ i, k ≤ i → i < m → i ≠ e → QVal P ops i (stAt ops val t k (i - k)) H (val i) := fun {t' v1 val} h1 h2 h3 h4 h5 => by
      refine ⟨fun i => if i = k then v1 else val i, fun a b => ?_, ?_, fun i a b hne => ?_⟩
      · dsimp only
        by_cases hek : e = k
        · rw [if_pos hek]; exact h1 hek.symm
        · rw [if_neg hek]; exact h3 (by omega) b
      · rw [show m - k = (m - (k + 1)) + 1 by omega, h4]
        simp only [stAt, if_true, hgd]
        exact (hcongr _ _ _ _ _ _ (by omega)).symm
      · by_cases hik : i = k
        · subst hik
          simp only [Nat.sub_self, if_true]
          exact h2 hne
        · rw [show i - k = (i - (k + 1)) + 1 by omega]
          simp only [stAt, if_true, hik, if_false, hgd]
          rw [hcongr _ _ _ _ _ _ (by omega)]
          exact h5 i (by omega) b hne
    unfold runX
    cases hg : o.guard with
    | some g => exact .inl rfl
    | none =>
      dsimp only
      have hw : ∀ (Q : Exit → Act → World → Prop) (next : Act → World → Prop) (a : Act) (w : World), (o.wp P a w next Q → wpOp P ops Q k next a w) := fun Q next a w h => by
        simp only [wpOp, ho']
        rw [if_pos (by simp [Region.wanted, hg])]
        exact .inl h
      cases hbe : Nat.beq k e with
      | true =>
        have hke : k = e := Nat.eq_of_beq_eq_true hbe
        dsimp only
        rcases runX_sound hT K hm rest (k + 1) (putT t o.dst v) nd hrest hks with h4 | ⟨t', nd', h4, h5⟩
        · exact .inl h4
        refine .inr ⟨t', nd', h4, fun hn => ?_⟩
        obtain ⟨h6, val, g1, g2, g3⟩ := h5 hn
        exact ⟨h6, fin (fun _ => rfl) (fun h => absurd hke h) g1 g2 g3⟩
      | false =>
        have hke : k ≠ e := fun h => by rw [h, Nat.beq_refl] at hbe; cases hbe
        dsimp only
        rcases stepQ_sound (H := H) hT o t nd (fun t nd => runX P T e v (k + 1) rest t H nd K) with h2 | ⟨v1, nd2, h2, h3⟩
        · exact .inl h2
        rw [h2]
        rcases runX_sound hT K hm rest (k + 1) (putT t o.dst v1) nd2 hrest hks with h4 | ⟨t', nd', h4, h5⟩
        · exact .inl h4
        refine .inr ⟨t', nd', h4, fun hn => ?_⟩
        obtain ⟨h6, val, g1, g2, g3⟩ := h5 hn
        obtain ⟨h8, hok, h9⟩ := h3 h6
        exact ⟨h8, fin (fun h => absurd h hke) (fun _ => ⟨o, ho', fun σ w a Q next s r _ q => hw Q next a w (h9 σ w a Q next s (opds_looks hok fun n hn => r n hn) q)⟩) g1 g2 g3⟩
/-- No operation but the e-th looks at what the e-th makes, and the e-th makes a variable. -/
def boxOK (ops : Array Oper) (m e : Nat) : Bool := (List.range m).all fun i => match Nat.beq i e with
  | true => match ops[i]? with
    | some o => match o.op, o.guard with
      | .alloc _, none => true
      | _, _ => false
    | none => false
  | false => match ops[i]? with
    | some o => (looks ops o).all fun n => !(gDst ops e == some n)
    | none => false
/-- A region in which one block is made. -/
theorem box_reach (hT : SoundT P T) (hf : P.follows .mixedOrders = true) (m e : Nat) (hm : m ≤ ops.size) (hem : e < m) (hok : drawOK ops m = true) (hbx : boxOK ops m e = true) {id : Nat} {k : List Item} {t t' : List AV} {H H' : List AB} {nd : List Bool} {l : List AV}
    (hz : (match ops[e]? with | some o => (match o.op with | .alloc ty => (zeroA P ty).map cellsA | _ => none) | none => none) = some l) (hlow : lowH H.length H = true)
    (h : (runX P T e (.p true H.length 0) 0 (ops.toList.take m) t H [] fun t nd => runOps P T ops (ops.toList.drop m) t (H ++ [.cells true (.lit l)]) nd fun t H nd => .stop [] t H nd).sel = .stop [] t' H' nd) (hn : allT nd = true) : Reach P (.code (.region id ops true) :: k) t H k t' H' := by
  rcases runX_sound (H := H) (v := .p true H.length 0) (ops := ops) (e := e) hT (fun t nd => runOps P T ops (ops.toList.drop m) t (H ++ [.cells true (.lit l)]) nd fun t H nd => .stop [] t H nd) hm (ops.toList.take m) 0 t [] (by simp) (Nat.zero_le _) with h1 | ⟨t1, nd1, h1, h2⟩
  · rw [h] at h1; cases h1
  rw [h1] at h
  rcases runOps_sound (ops := ops) hT (fun t H nd => .stop [] t H nd) (ops.toList.drop m) m t1 (H ++ [.cells true (.lit l)]) nd1 rfl hm with h3 | ⟨t2, H2, nd2, h3, h4⟩
  · rw [h] at h3; cases h3
  rw [h] at h3
  cases h3
  obtain ⟨h5, ch⟩ := h4 hn
  obtain ⟨_, val, e1, e2, e3⟩ := h2 h5
  rw [Nat.sub_zero] at e2
  rw [e2] at ch
  have hall : ∀ i, i < m → (match Nat.beq i e with
      | true => match ops[i]? with
        | some o => match o.op, o.guard with
          | .alloc _, none => true
          | _, _ => false
        | none => false
      | false => match ops[i]? with
        | some o => (looks ops o).all fun n => !(gDst ops e == some n)
        | none => false) = true := fun i hi => List.all_eq_true.1 hbx i (List.mem_range.2 hi)
  refine region_reach fun σ w a Q s r q => wp_region_any hf ?_
  have hnl : ∀ i, ¬ Ls (Array.replicate ops.size false) i := fun i => by
    unfold Ls
    rw [Array.getD_eq_getD_getElem?]
    by_cases hi : i < ops.size
    · simp [hi]
    · simp [hi]
  have hsm : Same w { w with drawn := w.drawn + 1 } := Same.drew w
  refine any_box (val := val) (B := .cells true (.lit l)) hok hm hem (fun i hi hne => by have := e3 i (Nat.zero_le _) hi hne; rwa [Nat.sub_zero] at this) ?_ (fun i hi hne o ho n hn' => ?_) hlow rfl ch ops.size _ a _ σ H (by simp) (fun i o _ hl => absurd hl (hnl i)) ?_ (fun i _ => hnl i) (.inl ⟨rfl, rfl, hnl e⟩)
    (hsm.sim s) ?_ (fun x => ⟨fun i _ hl => absurd hl (hnl i), fun _ => r.getD x⟩) fun a' w' σ' r' d' s' f' => q a' w' σ' r' d' s' (hsm.fr.trans f')
  · have he := hall e hem
    rw [Nat.beq_refl] at he
    cases hoe : ops[e]? with
    | none => rw [hoe] at he; cases he
    | some o =>
      rw [hoe] at he hz
      dsimp only at he hz
      refine ⟨o, hoe, fun σ w a Q next s q => ?_⟩
      cases hop : o.op
      case alloc ty =>
        rw [hop] at he hz
        cases hg : o.guard with
        | some g => rw [hg] at he; cases he
        | none =>
          dsimp only at hz
          cases hzz : zeroA P ty with
          | none => rw [hzz] at hz; cases hz
          | some z =>
            rw [hzz] at hz
            cases hz
            have heop : eop P o.op (evA t) H = some (.p true H.length 0, H ++ [.cells true (.lit (cellsA z))], []) := by
              rw [hop]; unfold eop; dsimp only; rw [hzz]
            obtain ⟨rv, w', e1', σ', r2, s2, f2⟩ := eop_out (ρ := a.eval) heop rfl s (by rw [hop]; intro x hx; simp [Op.operands] at hx)
            obtain ⟨x, hx⟩ : ∃ x, σ' = σ ++ [x] := by
              have hl1 := s2.len
              have hl0 := s.len
              simp only [List.length_append, List.length_cons, List.length_nil] at hl1
              have hlt : σ.length < σ'.length := by omega
              refine ⟨σ'[σ.length], ?_⟩
              apply List.ext_getElem?
              intro i
              rcases Nat.lt_or_ge i σ.length with h' | h'
              · rw [List.getElem?_append_left h']
                exact f2.ext i _ (List.getElem?_eq_getElem h') |>.trans (List.getElem?_eq_getElem h').symm
              · rcases Nat.lt_or_ge i (σ.length + 1) with h'' | h''
                · have : i = σ.length := by omega
                  subst this
                  simp [List.getElem?_eq_getElem hlt]
                · rw [List.getElem?_eq_none (by omega), List.getElem?_eq_none (by simp; omega)]
            subst hx
            rw [e1 (Nat.zero_le _) hem] at q
            simp only [wpOp, hoe]
            rw [if_pos (by simp [Region.wanted, hg])]
            refine .inl ?_
            show o.upon P a next Q ((execOp a.eval o).run P w)
            rcases e1' with e1' | ⟨e1', rfl⟩
            · rw [e1']; exact q _ _ x r2 s2 f2
            · rw [e1']; exact q _ _ x r2 s2 f2
      all_goals (rw [hop] at he; cases he)
  · have hi' := hall i hi
    have : Nat.beq i e = false := by
      cases hbe : Nat.beq i e with
      | false => rfl
      | true => exact absurd (Nat.eq_of_beq_eq_true hbe) hne
    rw [this, ho] at hi'
    have := List.all_eq_true.1 hi' n hn'
    intro h
    rw [h] at this
    simp at this
  · have := List.length_filter_le (fun i => !(Array.replicate ops.size false).getD i false) (List.range ops.size)
    simp only [List.length_range] at this
    exact this
  · have := r.length; simpa using this.symm
end
end Go.Ax

/- A function in stages: what is kept at a place. -/
namespace Go.Ax
open Go Go.Proofs

def lk (i : Nat) : List (Nat × AV) → AV
  | [] => .any
  | (j, a) :: l => match Nat.beq i j with
    | true => a
    | false => lk i l
def lkB (i : Nat) : List (Nat × AV) → Bool
  | [] => true
  | (j, _) :: l => match Nat.beq i j with
    | true => false
    | false => lkB i l
/-- Temporaries of which only some are of use. -/
def tmpsOf (n : Nat) (l : List (Nat × AV)) : List AV := (List.range n).map fun i => lk i l
def maskOf (n : Nat) (l : List (Nat × AV)) : List Bool := (List.range n).map fun i => lkB i l
noncomputable def lfK (k : Nat) (M : List Bool) (r : Res) : Bool × List Item × List AV × List AB × List Bool := (r.isStop, r.todo, bareBlur M r.tOf, r.HOf.take k, r.nds)
theorem way_keep {P : Program} {T : Table} {stop : List Item → Bool} {n k : Nat} {L todo' : List Item} {p M nd : List Bool} {t0 t' : List AV} {H0 H1 : List AB} (hT : SoundT P T) (hc : allT (condsP (jupto P T stop n L t0 H0) p) = true)
    (hl : lfK k M ((jupto P T stop n L t0 H0).at p) = (true, todo', t'.map AV.bare, H1, nd)) (hn : allT nd = true) (hk : H0.length ≤ H1.length) (ht : belowL H1.length t' = true) (hB : belowH H1.length H1 = true) : Reach P L t0 H0 todo' t' H1 := by
  simp only [lfK, Prod.mk.injEq] at hl
  obtain ⟨a1, a2, a3, a4, a5⟩ := hl
  have h := way_reach (stop := stop) (n := n) (R := L) (p := p) (M := M) (nd := nd) (t' := t') (todo' := todo') (H' := ((jupto P T stop n L t0 H0).at p).HOf) hT rfl hc (by simp only [lfM, a1, a2, a3, a5]) hn
  rw [← List.take_append_drop k (((jupto P T stop n L t0 H0).at p).HOf), a4] at h
  exact h.keep hk ht hB
theorem way_pre {P : Program} {T : Table} {stop : List Item → Bool} {n k : Nat} {L todo' : List Item} {p M nd : List Bool} {t0 t' : List AV} {H0 H1 : List AB} (hT : SoundT P T) (hc : allT (condsP (jupto P T stop n L t0 H0) p) = true)
    (hl : lfK k M ((jupto P T stop n L t0 H0).at p) = (true, todo', t'.map AV.bare, H1, nd)) (hn : allT nd = true) : ∃ G, Reach P L t0 H0 todo' t' (H1 ++ G) := by
  simp only [lfK, Prod.mk.injEq] at hl
  obtain ⟨a1, a2, a3, a4, a5⟩ := hl
  have h := way_reach (stop := stop) (n := n) (R := L) (p := p) (M := M) (nd := nd) (t' := t') (todo' := todo') (H' := ((jupto P T stop n L t0 H0).at p).HOf) hT rfl hc (by simp only [lfM, a1, a2, a3, a5]) hn
  rw [← List.take_append_drop k (((jupto P T stop n L t0 H0).at p).HOf), a4] at h
  exact ⟨_, h⟩
/-- The end's answer, without its memory. -/
noncomputable def endV (P : Program) (rs : List ResultVar) (r : Res) : Option (Option (List AV × List Bool) × List Bool) := match endOf P rs r with
  | some (x, _, nd) => some (x, nd)
  | none => none
theorem endV_ends {P : Program} {T : Table} {stop : List Item → Bool} {n : Nat} {L : List Item} {p nd : List Bool} {t0 : List AV} {H0 : List AB} {rs : List ResultVar} {x : Option (List AV × List Bool)} (hT : SoundT P T) (hc : allT (condsP (jupto P T stop n L t0 H0) p) = true)
    (hl : endV P rs ((jupto P T stop n L t0 H0).at p) = some (x, nd)) (hn : allT nd = true) : ∃ t H', Ends P L t0 H0 t H' ∧ resV P t H' rs = x := by
  unfold endV at hl
  split at hl <;> cases hl
  rename_i he
  obtain ⟨t, e1, e2⟩ := way_ends (stop := stop) (n := n) (R := L) hT rfl hc he hn
  exact ⟨t, _, e1, e2⟩
theorem box_way {P : Program} {T : Table} {ops : Array Oper} (hT : SoundT P T) (hf : P.follows .mixedOrders = true) (m e : Nat) (hm : m ≤ ops.size) (hem : e < m) (hok : drawOK ops m = true) (hbx : boxOK ops m e = true) {id : Nat} {k : List Item} {t t' : List AV} {H H' : List AB} {M nd : List Bool} {l : List AV}
    (hz : (match ops[e]? with | some o => (match o.op with | .alloc ty => (zeroA P ty).map cellsA | _ => none) | none => none) = some l) (hlow : lowH H.length H = true)
    (h : lfM M (runX P T e (.p true H.length 0) 0 (ops.toList.take m) t H [] fun t nd => runOps P T ops (ops.toList.drop m) t (H ++ [.cells true (.lit l)]) nd fun t H nd => .stop [] t H nd) = (true, [], t'.map AV.bare, H', nd)) (hn : allT nd = true) : Reach P (.code (.region id ops true) :: k) t H k t' H' := by
  simp only [lfM, Prod.mk.injEq] at h
  obtain ⟨a1, a2, a3, a4, a5⟩ := h
  have hs := Res.isStop_eq a1
  have hr := box_reach (k := k) (id := id) hT hf m e hm hem hok hbx (t := t) (H := H) (l := l) hz hlow (t' := _) (H' := _) (nd := _) (by conv => { lhs; rw [hs] }; rw [a2]; rfl) (by rw [a5]; exact hn)
  rw [a4] at hr
  exact (hr.weak (blur_eqv M _)).weak (eqv_of_bare a3)
end Go.Ax

/- Quarter turns of both sides. -/
namespace Go.Ax
open Go Go.Proofs

def tuI (n j : Nat) : Nat := n * (n - 1 - j % n) + j / n
def tuX (n : Int) (X : Nat → Nat × Nat) (j : Nat) : Nat × Nat := match Nat.blt j (n.toNat * n.toNat) with
  | true => X (tuI n.toNat j)
  | false => (0, 0)
noncomputable def qC : Code := Tryz.f89.body.getD .skip
noncomputable def qZ (n : Int) (X : Nat → Nat × Nat) : Res := jupto Tryz.prog tabGr (atReg 3) 200 [.code qC] (wvT true n X :: undefs 45) []
noncomputable def qLp : List Item := ((qZ 1 fun _ => (0, 0)).at [false]).todo
noncomputable def qOps : Array Oper := match qLp with
  | .code (.region _ ops _) :: _ => ops
  | _ => #[]
noncomputable def qK : List Item := qLp.drop 1
def qBox (n : Int) (X : Nat → Nat × Nat) : List AV := .i true .i64 n :: (List.range 64).map (cx X)
def zL (n : Int) : List AV := .i true .i64 n :: List.replicate 64 (.c true .f32 0 0)
def qH (n : Int) (X : Nat → Nat × Nat) : List AB := [.cells true (.lit (qBox n X)), .cells true (.lit (zL 0))]
def qL3 : List (Nat × AV) := [(1, .p true 0 0), (2, .p true 1 0), (3, .i true .i64 0)]
def qL4 (n : Int) : List (Nat × AV) := [(1, .p true 0 0), (2, .p true 1 0), (3, .i true .i64 0), (4, .i true .i64 n), (5, .p true 2 0)]
def qT3 : List AV := tmpsOf 46 qL3
def qT4 (n : Int) : List AV := tmpsOf 46 (qL4 n)
def qM3 : List Bool := maskOf 46 qL3
def qM4 : List Bool := maskOf 46 (qL4 0)
theorem qLp_eq : qLp = .code (.region 3 qOps true) :: qK := by kernel_rfl
theorem qZ_no (n : Int) (hn : n ∈ ([1, 2, 4, 8] : List Int)) (X : Nat → Nat × Nat) : (condsP (qZ n X) [true], endV Tryz.prog Tryz.f89.results.toList ((qZ n X).at [true])) = ([!isWaveB n (reX X)], some (some ([.agg (zL 0), .i true .i64 1], []), [])) := by
  simp only [List.mem_cons, List.not_mem_nil, or_false] at hn
  rcases hn with rfl | rfl | rfl | rfl <;> kernel_rfl
theorem qZ_ok (n : Int) (hn : n ∈ ([1, 2, 4, 8] : List Int)) (X : Nat → Nat × Nat) : (condsP (qZ n X) [false], lfM qM3 ((qZ n X).at [false])) = ([!!isWaveB n (reX X)], (true, qLp, qT3.map AV.bare, qH n X, [])) := by
  simp only [List.mem_cons, List.not_mem_nil, or_false] at hn
  rcases hn with rfl | rfl | rfl | rfl <;> kernel_rfl
noncomputable def qR (n : Int) (X : Nat → Nat × Nat) : Res := runX Tryz.prog tabGr 5 (.p true (qH n X).length 0) 0 (qOps.toList.take 6) qT3 (qH n X) [] fun t nd => runOps Tryz.prog tabGr qOps (qOps.toList.drop 6) t (qH n X ++ [.cells true (.lit (zL 0))]) nd fun t H nd => .stop [] t H nd
theorem qR_ok (n : Int) (hn : n ∈ ([1, 2, 4, 8] : List Int)) (X : Nat → Nat × Nat) : lfM qM4 (qR n X) = (true, [], (qT4 n).map AV.bare, qH n X ++ [.cells true (.lit (zL n))], []) := by
  simp only [List.mem_cons, List.not_mem_nil, or_false] at hn
  rcases hn with rfl | rfl | rfl | rfl <;> kernel_rfl
noncomputable def qE (n : Int) (X : Nat → Nat × Nat) : Res := jupto Tryz.prog tabGr (atCut 99) 3000 qK (qT4 n) (qH n X ++ [.cells true (.lit (zL n))])
def qA (N : Nat) (n : Int) (X : Nat → Nat × Nat) : List AV := .i true .i64 n :: (List.range 64).map fun j => match Nat.blt j N with
  | true => .c false .f32 (X (tuI n.toNat j)).1 (X (tuI n.toNat j)).2
  | false => .c true .f32 0 0
theorem qE_ok (N : Nat) (n : Int) (hn : (N, n) ∈ doNs) (X : Nat → Nat × Nat) : (condsP (qE n X) [], endV Tryz.prog Tryz.f89.results.toList ((qE n X).at [])) = ([], some (some ([.agg (qA N n X), .i true .i64 0], []), [])) := by
  simp only [doNs, List.mem_cons, Prod.mk.injEq, List.not_mem_nil, or_false] at hn
  rcases hn with ⟨rfl, rfl⟩ | ⟨rfl, rfl⟩ | ⟨rfl, rfl⟩ | ⟨rfl, rfl⟩ <;> kernel_rfl
end Go.Ax
