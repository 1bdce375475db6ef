/- Regions of open order in which several variables are made among operations that leave memory alone. -/
import Derived.Test.YtaboeibkmknocaaDoorAag
namespace Go.Ax
open Go

section
variable {P : Program} {T : Table} {ops : Array Oper} {m : Nat}

/-- Memory with some of K new blocks made. -/
structure Boxed (σ : List (Nat × Nat)) (H : List AB) (K : Nat) (B : Nat → AB) (ps : Nat → Nat × Nat) (made : Nat → Prop) (w0 w : World) : Prop where
  s : Sim σ H w
  fr : Fr σ H w0 σ H w
  new : ∀ k, k < K → made k → w0.heap.size ≤ (ps k).1
  lt : ∀ k, k < K → made k → (ps k).1 < w.heap.size
  blk : ∀ k, k < K → made k → BlkRel σ (ps k).2 (B k) w.heap[(ps k).1]?
  ne : ∀ k k', k < K → k' < K → made k → made k' → (ps k).1 = (ps k').1 → k = k'
theorem Boxed.quiet {σ : List (Nat × Nat)} {H : List AB} {K : Nat} {B : Nat → AB} {ps : Nat → Nat × Nat} {made : Nat → Prop} {w0 w w' : World} (b : Boxed σ H K B ps made w0 w) (s0 : Sim σ H w0) (s' : Sim σ H w') (f : Fr σ H w σ H w') : Boxed σ H K B ps made w0 w' :=
  ⟨s', b.fr.trans f, b.new, fun k hk hm => Nat.lt_of_lt_of_le (b.lt k hk hm) f.size, fun k hk hm => by
    rw [f.old _ (b.lt k hk hm) fun i z hr hi => ?_]
    · exact b.blk k hk hm
    · have := s0.lt hi (rw_live hr)
      have := b.new k hk hm
      omega, b.ne⟩
theorem Boxed.weaken {σ : List (Nat × Nat)} {H : List AB} {K : Nat} {B : Nat → AB} {ps : Nat → Nat × Nat} {made made' : Nat → Prop} {w0 w : World} (b : Boxed σ H K B ps made w0 w) (h : ∀ k, k < K → made' k → made k) : Boxed σ H K B ps made' w0 w :=
  ⟨b.s, b.fr, fun k hk hm => b.new k hk (h k hk hm), fun k hk hm => b.lt k hk (h k hk hm), fun k hk hm => b.blk k hk (h k hk hm), fun k k' hk hk' hm hm' => b.ne k k' hk hk' (h k hk hm) (h k' hk' hm')⟩
theorem Boxed.made {σ : List (Nat × Nat)} {x : Nat × Nat} {H : List AB} {K : Nat} {B : Nat → AB} {ps : Nat → Nat × Nat} {made : Nat → Prop} {w0 w w' : World} (b : Boxed σ H K B ps made w0 w) (s0 : Sim σ H w0) (hlow : lowH H.length H = true) {k : Nat} (hBl : lowB H.length (B k) = true)
    (hlive : (B k).live = true) (s' : Sim (σ ++ [x]) (H ++ [B k]) w') (f : Fr σ H w (σ ++ [x]) (H ++ [B k]) w') (made' : Nat → Prop) (hmd : ∀ i, i < K → made' i → i = k ∨ (i ≠ k ∧ made i)) : Boxed σ H K B (fun i => if i = k then x else ps i) made' w0 w' := by
  have hlen : σ.length = H.length := b.s.len
  have hxB : (σ ++ [x])[σ.length]? = some x := by simp
  have hgB : getB (H ++ [B k]) σ.length = B k := by rw [getB_append_right (by omega), hlen, Nat.sub_self]; rfl
  have hg : ∀ {i : Nat} {p : Nat × Nat}, σ[i]? = some p → getB (H ++ [B k]) i = getB H i := fun h => getB_append_left (by rw [← hlen]; exact isSome_lt h)
  have hf : Fr σ H w σ H w' := ⟨f.os, f.tape, f.output, f.size, f.old, Ext.refl _, fun i b z h h' => (by rw [h'] at h; cases h), fun _ _ h => h⟩
  have q := b.quiet s0 (s'.less hlow) hf
  have hge : w.heap.size ≤ x.1 := by
    rcases f.new σ.length x.1 x.2 hxB (by simp) with h | ⟨j, z', hr, hj⟩
    · exact h
    · have := s'.inj j σ.length x.1 z' x.2 (Ext.append σ [x] _ _ hj) hxB (by rw [hg hj]; exact hr) (by rw [hgB]; exact hlive)
      have := isSome_lt hj
      omega
  have hlt : x.1 < w'.heap.size := s'.lt hxB (by rw [hgB]; exact hlive)
  refine ⟨q.s, q.fr, fun i hi hm => ?_, fun i hi hm => ?_, fun i hi hm => ?_, fun i j hi hj hm hm' he => ?_⟩
  · rcases hmd i hi hm with rfl | ⟨h1, h2⟩
    · rw [if_pos rfl]; exact Nat.le_trans b.fr.size hge
    · rw [if_neg h1]; exact q.new i hi h2
  · rcases hmd i hi hm with rfl | ⟨h1, h2⟩
    · rw [if_pos rfl]; exact hlt
    · rw [if_neg h1]; exact q.lt i hi h2
  · rcases hmd i hi hm with rfl | ⟨h1, h2⟩
    · rw [if_pos rfl]
      have := s'.blk σ.length x.1 x.2 hxB
      rw [hgB] at this
      exact low_blk (Ext.append σ [x]) hlen hBl this
    · rw [if_neg h1]; exact q.blk i hi h2
  · rcases hmd i hi hm with rfl | ⟨h1, h2⟩
    · rcases hmd j hj hm' with rfl | ⟨h3, h4⟩
      · rfl
      · rw [if_pos rfl, if_neg h3] at he
        have := b.lt j hj h4
        omega
    · rcases hmd j hj hm' with rfl | ⟨h3, h4⟩
      · rw [if_pos rfl, if_neg h1] at he
        have := b.lt i hi h2
        omega
      · rw [if_neg h1, if_neg h3] at he
        exact q.ne i j hi hj h2 h4 he
theorem getB_range (H : List AB) (K : Nat) (B : Nat → AB) {k : Nat} (hk : k < K) : getB (H ++ (List.range K).map B) (H.length + k) = B k := by
  have : ∀ (l : List AB) (n : Nat), getB l n = (l[n]?).getD .dead := fun l => by
    induction l with
    | nil => intro n; rfl
    | cons a l ih => intro n; cases n with
      | zero => rfl
      | succ n => simpa [getB] using ih n
  rw [this, List.getElem?_append_right (by omega)]
  simp [hk]
theorem range_get (σ : List (Nat × Nat)) (K : Nat) (ps : Nat → Nat × Nat) {k : Nat} (hk : k < K) : (σ ++ (List.range K).map ps)[σ.length + k]? = some (ps k) := by
  rw [List.getElem?_append_right (by omega)]
  simp [hk]
/-- All of them made. -/
theorem Boxed.all {σ : List (Nat × Nat)} {H : List AB} {K : Nat} {B : Nat → AB} {ps : Nat → Nat × Nat} {made : Nat → Prop} {w0 w : World} (b : Boxed σ H K B ps made w0 w) (s0 : Sim σ H w0) (hall : ∀ k, k < K → made k) :
    Sim (σ ++ (List.range K).map ps) (H ++ (List.range K).map B) w ∧ Fr σ H w0 (σ ++ (List.range K).map ps) (H ++ (List.range K).map B) w := by
  have hlen : σ.length = H.length := b.s.len
  have hext := Ext.append σ ((List.range K).map ps)
  have hcase : ∀ {i : Nat} {p : Nat × Nat}, (σ ++ (List.range K).map ps)[i]? = some p → (σ[i]? = some p ∧ i < σ.length) ∨ ∃ k, k < K ∧ i = σ.length + k ∧ p = ps k := fun {i p} h => by
    rcases Nat.lt_or_ge i σ.length with h' | h'
    · rw [List.getElem?_append_left h'] at h; exact .inl ⟨h, h'⟩
    · have hlt := isSome_lt h
      simp only [List.length_append, List.length_map, List.length_range] at hlt
      refine .inr ⟨i - σ.length, by omega, by omega, ?_⟩
      have he : i = σ.length + (i - σ.length) := by omega
      rw [he, range_get σ K ps (by omega)] at h
      cases h
      congr 1
  have hgl : ∀ {i : Nat}, i < σ.length → getB (H ++ (List.range K).map B) i = getB H i := fun h => getB_append_left (by omega)
  have hgr : ∀ {k : Nat}, k < K → getB (H ++ (List.range K).map B) (σ.length + k) = B k := fun h => by rw [hlen]; exact getB_range H K B h
  refine sim_fr s0 (by simp [hlen]) (fun i p z hi => ?_) (fun i j p z z' hi hj hr hl => ?_) ⟨b.fr.os, b.fr.tape, b.fr.output, b.fr.size, b.fr.old, hext, fun i p z hi hn => ?_, fun i hi hr => ?_⟩
  · rcases hcase hi with ⟨h1, h2⟩ | ⟨k, hk, rfl, h2⟩
    · rw [hgl h2]; exact (b.s.blk i p z h1).mono hext
    · rw [hgr hk]
      have := b.blk k hk (hall k hk)
      rw [← h2] at this
      exact this.mono hext
  · rcases hcase hi with ⟨h1, h2⟩ | ⟨k, hk, rfl, h2⟩
    · rcases hcase hj with ⟨h3, h4⟩ | ⟨k', hk', rfl, h4⟩
      · rw [hgl h2] at hr; rw [hgl h4] at hl
        exact b.s.inj i j p z z' h1 h3 hr hl
      · rw [hgl h2] at hr
        have h5 := s0.lt h1 (rw_live hr)
        have h6 := b.new k' hk' (hall k' hk')
        rw [← h4] at h6
        exact absurd h6 (Nat.not_le_of_lt h5)
    · rcases hcase hj with ⟨h3, h4⟩ | ⟨k', hk', rfl, h4⟩
      · rw [hgl h4] at hl
        have h5 := s0.lt h3 hl
        have h6 := b.new k hk (hall k hk)
        rw [← h2] at h6
        exact absurd h6 (Nat.not_le_of_lt h5)
      · rw [b.ne k k' hk hk' (hall k hk) (hall k' hk') (by rw [← h2, ← h4])]
  · rcases hcase hi with ⟨h1, h2⟩ | ⟨k, hk, rfl, h2⟩
    · rw [h1] at hn; cases hn
    · have := b.new k hk (hall k hk)
      rw [← h2] at this
      exact .inl this
  · rwa [hgl hi] at hr

/-- The first operations, in any order: K of them make a variable each. -/
theorem any_boxes (hok : drawOK ops m = true) (hmn : m ≤ ops.size) {K : Nat} {E : Nat → Nat} {B : Nat → AB} (hE : ∀ k, k < K → E k < m) (hinj : ∀ k k', k < K → k' < K → E k = E k' → k = k') {t t' : List AV} {H H' : List AB} {val : Nat → AV}
    (hv : ∀ i, i < m → (∀ k, k < K → E k ≠ i) → QVal P ops i (stAt ops val t 0 i) H (val i)) (hb : ∀ k, k < K → BVal P ops (E k) H (.p true H.length 0) (B k)) (hve : ∀ k, k < K → val (E k) = .p true (H.length + k) 0)
    (hlk : ∀ i, i < m → (∀ k, k < K → E k ≠ i) → ∀ o, ops[i]? = some o → ∀ n ∈ looks ops o, ∀ k, k < K → gDst ops (E k) ≠ some n) (hlow : lowH H.length H = true) (hlive : ∀ k, k < K → (B k).live = true ∧ lowB H.length (B k) = true)
    (c : Chain P ops m (stAt ops val t 0 m) (H ++ (List.range K).map B) ops.size t' H') {Q : Exit → Act → World → Prop} {σ : List (Nat × Nat)} {w0 : World} (s0 : Sim σ H w0) :
    ∀ (fuel : Nat) (listed : Array Bool) (a : Act) (w : World) (ps : Nat → Nat × Nat), listed.size = ops.size → Down ops listed →
      (left ops listed).length ≤ fuel → (∀ i, m ≤ i → ¬ Ls listed i) → Boxed σ H K B ps (fun k => Ls listed (E k)) w0 w → a.tmps.size = t.length →
      (∀ x, (∀ i, i < m → Ls listed i → gDst ops i = some x → x < t.length → (∀ k, k < K → E k = i → a.tmps.getD x undef = .pointer (some ⟨(ps k).1, 0, none⟩)) ∧ ((∀ k, k < K → E k ≠ i) → Rel σ (val i) (a.tmps.getD x undef))) ∧
        ((∀ i, i < m → Ls listed i → gDst ops i ≠ some x) → Rel σ (getL t x) (a.tmps.getD x undef))) →
      (∀ a' w' σ', RelL σ' t' a'.tmps.toList → a'.defers = a.defers → Sim σ' H' w' → Fr σ H w0 σ' H' w' → Q .normal a' w') → wpAny P .any ops Q fuel listed a w := by
  have hdist : ∀ i i', i < m → i' < m → i' ≠ i → ∀ x, gDst ops i = some x → gDst ops i' ≠ some x := fun i i' hi hi' hne x hx => by
    have hoi : ops[i]? = some ops[i] := Array.getElem?_eq_getElem (by omega)
    have hd : ops[i].dst = some x := by simpa [gDst, hoi] using hx
    exact ((drawOK_spec hok i _ hoi).2.1 hi).2 i' hi' hne x hd
  have htail : ∀ (fuel : Nat) (listed : Array Bool) (a : Act) (w : World) (ps : Nat → Nat × Nat), listed.size = ops.size → Down ops listed →
      (left ops listed).length ≤ fuel → (∀ i, m ≤ i → ¬ Ls listed i) → (∀ i, i < m → Ls listed i) → Boxed σ H K B ps (fun k => Ls listed (E k)) w0 w → a.tmps.size = t.length →
      (∀ x, (∀ i, i < m → Ls listed i → gDst ops i = some x → x < t.length → (∀ k, k < K → E k = i → a.tmps.getD x undef = .pointer (some ⟨(ps k).1, 0, none⟩)) ∧ ((∀ k, k < K → E k ≠ i) → Rel σ (val i) (a.tmps.getD x undef))) ∧
        ((∀ i, i < m → Ls listed i → gDst ops i ≠ some x) → Rel σ (getL t x) (a.tmps.getD x undef))) →
      (∀ a' w' σ', RelL σ' t' a'.tmps.toList → a'.defers = a.defers → Sim σ' H' w' → Fr σ H w0 σ' H' w' → Q .normal a' w') → wpAny P .any ops Q fuel listed a w := by
    intro fuel listed a w ps hsz hd hf hnm hall hbx hat hx q
    obtain ⟨sa, fa⟩ := hbx.all s0 fun k hk => hall _ (hE k hk)
    have hext : Ext σ (σ ++ (List.range K).map ps) := Ext.append σ _
    have hlen : σ.length = H.length := s0.len
    refine any_tail hok fuel listed m _ _ _ a w hsz hd hf (Nat.le_refl _) (fun i hi => ⟨fun h => ?_, fun h => hall i h⟩) c sa ?_ fun a2 w2 σ2 r2 d2 s2 f2 => q a2 w2 σ2 r2 d2 s2 (fa.trans f2)
    · rcases Nat.lt_or_ge i m with h' | h'
      · exact h'
      · exact absurd h (hnm i h')
    · refine RelL.of_get (by rw [stAt_length]; simpa using hat.symm) fun x b y hb hy => ?_
      have hxl : x < t.length := by
        rcases Nat.lt_or_ge x t.length with h' | h'
        · exact h'
        · rw [List.getElem?_eq_none (by rw [stAt_length]; exact h')] at hb; cases hb
      have hb' : b = getL (stAt ops val t 0 m) x := by
        rw [getL_some (by rw [stAt_length]; exact hxl)] at hb; cases hb; rfl
      have hy' : a.tmps.getD x undef = y := by
        have : a.tmps[x]? = some y := by simpa using hy
        rw [Array.getD_eq_getD_getElem?, this]; rfl
      subst hb'
      rw [← hy']
      by_cases hex : ∃ i, i < m ∧ gDst ops i = some x
      · obtain ⟨i, hi, hgi⟩ := hex
        rw [stAt_val ops val m 0 t i (by omega) (by omega) hgi hxl (fun i' _ h2 h3 => hdist i i' hi (by omega) h3 x hgi)]
        have h0 := (hx x).1 i hi (hall i hi) hgi hxl
        by_cases hk : ∃ k, k < K ∧ E k = i
        · obtain ⟨k, hk, rfl⟩ := hk
          rw [h0.1 k hk rfl, hve k hk, ← hlen]
          exact .p (range_get σ K ps hk)
        · exact (h0.2 fun k hk' he => hk ⟨k, hk', he⟩).mono hext
      · have hno : ∀ i, i < m → gDst ops i ≠ some x := fun i hi hg => hex ⟨i, hi, hg⟩
        rw [stAt_untouched ops val m 0 t (fun i _ h2 => hno i (by omega))]
        exact ((hx x).2 fun i hi _ => hno i hi).mono hext
  intro fuel
  induction fuel with
  | zero =>
    intro listed a w ps hsz hd hf hnm hbx hat hx q
    refine htail 0 listed a w ps hsz hd hf hnm (fun i hi => ?_) hbx hat hx q
    apply Classical.byContradiction
    intro hn
    have : i ∈ left ops listed := mem_left.2 ⟨by omega, hn⟩
    have := List.length_pos_of_mem this
    omega
  | succ fuel ih =>
    intro listed a w ps hsz hd hf hnm hbx hat hx q
    by_cases hall : ∀ i, i < m → Ls listed i
    · exact htail _ listed a w ps hsz hd hf hnm hall hbx hat hx q
    refine ⟨fun hr => ?_, fun j hj => ?_⟩
    · exfalso
      apply hall
      intro i hi
      apply Classical.byContradiction
      intro hn
      obtain ⟨y, hy⟩ := ready_some hok hsz i (by omega) hn
      rw [hr] at hy; cases hy
    · obtain ⟨hnl, o, ho, hafter⟩ := (mem_ready' hsz).1 hj
      have hjs := (Array.getElem?_eq_some_iff.1 ho).1
      have hjm : j < m := by
        rcases Nat.lt_or_ge j m with h | h
        · exact h
        · exfalso
          apply hall
          intro i hi
          exact ahead_ready hd hsz hj ((drawOK_spec hok j o ho).2.2 h i (by omega))
      have hdst : gDst ops j = o.dst := by simp [gDst, ho]
      -- behind the operation
      have hnext : ∀ (ps2 : Nat → Nat × Nat) (rv : Value) (w' : World), Boxed σ H K B ps2 (fun k => Ls (listed.setIfInBounds j true) (E k)) w0 w' → (∀ k, k < K → E k ≠ j → Ls listed (E k) → ps2 k = ps k) →
          ((∀ k, k < K → E k = j → rv = .pointer (some ⟨(ps2 k).1, 0, none⟩)) ∧ ((∀ k, k < K → E k ≠ j) → Rel σ (val j) rv)) → wpAny P .any ops Q fuel (listed.setIfInBounds j true) (a.put o.dst rv) w' := fun ps2 rv w' hbx' hsame hrv => by
        refine ih (listed.setIfInBounds j true) (a.put o.dst rv) w' ps2 (by simpa using hsz) (hd.set hsz hj) ?_ (fun i hi => ?_) hbx' ?_ (fun x => ⟨fun i hi hli hgi hxl => ?_, fun hno => ?_⟩) fun a2 w2 σ3 r2 d2 s2 f2 => q a2 w2 σ3 r2 (d2.trans (put_defers _ _ _)) s2 f2
        · have := left_set hjs hsz hnl; omega
        · rw [Ls_set (by omega)]; rintro (rfl | h)
          · omega
          · exact hnm i hi h
        · cases o.dst <;> simp [Act.put, hat]
        · rw [Ls_set (by omega)] at hli
          by_cases hij : i = j
          · subst hij
            rw [hdst] at hgi
            rw [hgi]
            simp only [Act.put]
            rw [Array.getD_eq_getD_getElem?, Array.getElem?_setIfInBounds_self_of_lt (by omega)]
            exact hrv
          · have hne : o.dst ≠ some x := by rw [← hdst]; exact hdist i j hi hjm (Ne.symm hij) x hgi
            have : (a.put o.dst rv).tmps.getD x undef = a.tmps.getD x undef := by
              cases hod : o.dst with
              | none => rfl
              | some d =>
                have hdx : d ≠ x := fun e => hne (by rw [hod, e])
                simp [Act.put, Array.getD_eq_getD_getElem?, Array.getElem?_setIfInBounds_ne hdx]
            rw [this]
            have hl := hli.resolve_left hij
            have h0 := (hx x).1 i hi hl hgi hxl
            refine ⟨fun k hk he => ?_, h0.2⟩
            rw [hsame k hk (by rw [he]; exact hij) (by rw [he]; exact hl)]
            exact h0.1 k hk he
        · have hne : o.dst ≠ some x := by rw [← hdst]; exact hno j hjm ((Ls_set (by omega)).2 (.inl rfl))
          have : (a.put o.dst rv).tmps.getD x undef = a.tmps.getD x undef := by
            cases hod : o.dst with
            | none => rfl
            | some d =>
              have hdx : d ≠ x := fun e => hne (by rw [hod, e])
              simp [Act.put, Array.getD_eq_getD_getElem?, Array.getElem?_setIfInBounds_ne hdx]
          rw [this]
          exact (hx x).2 fun i hi hli => hno i hi ((Ls_set (by omega)).2 (.inr hli))
      by_cases hje : ∃ k, k < K ∧ E k = j
      · obtain ⟨k, hk, rfl⟩ := hje
        obtain ⟨o', ho', hbv⟩ := hb k hk
        rw [ho] at ho'; cases ho'
        refine hbv σ w a Q _ hbx.s fun rv w' x hrv s' f' => hnext (fun i => if i = k then x else ps i) rv w' (hbx.made s0 hlow (hlive k hk).2 (hlive k hk).1 s' f' _ fun i hiK hi => ?_) (fun i hi hne _ => ?_) ⟨fun i hi he => ?_, fun h => absurd rfl (h k hk)⟩
        · by_cases hik : i = k
          · exact .inl hik
          · refine .inr ⟨hik, ?_⟩
            exact ((Ls_set (by omega)).1 hi).resolve_left fun h => hik (hinj i k hiK hk h)
        · rw [if_neg fun e => hne (by rw [e])]
        · have : i = k := hinj i k hi hk he
          subst this
          rw [if_pos rfl]
          cases hrv with
          | p h =>
            have h1 : (σ ++ [x])[H.length]? = some x := by rw [← s0.len]; simp
            rw [h1] at h
            cases h
            rfl
      · have hne : ∀ k, k < K → E k ≠ j := fun k hk he => hje ⟨k, hk, he⟩
        obtain ⟨o', ho', hq⟩ := hv j hjm hne
        rw [ho] at ho'; cases ho'
        refine hq σ w a Q _ hbx.s (fun n hn => ?_) (by rw [stAt_length]; exact hat) fun rv w' hrv s' f' => ?_
        · by_cases hnl' : n < t.length
          · by_cases hex : ∃ i, i < m ∧ gDst ops i = some n
            · obtain ⟨i, hi, hgi⟩ := hex
              have hie : ∀ k, k < K → E k ≠ i := fun k hk h => hlk j hjm hne o ho n hn k hk (by rw [h]; exact hgi)
              have hah := ((drawOK_spec hok j o ho).2.1 hjm).1 n hn i hi hgi
              have hil := ahead_ready hd hsz hj hah
              have hij : i < j := aheadOf_lt hok 10 j i hah
              rw [stAt_val ops val j 0 t i (by omega) (by omega) hgi hnl' (fun i' _ h2 h3 => hdist i i' hi (by omega) h3 n hgi)]
              exact ((hx n).1 i hi hil hgi hnl').2 hie
            · have hno : ∀ i, i < m → gDst ops i ≠ some n := fun i hi hg => hex ⟨i, hi, hg⟩
              rw [stAt_untouched ops val j 0 t (fun i _ h2 => hno i (by omega))]
              exact (hx n).2 fun i hi _ => hno i (by omega)
          · rw [getL_none (by rw [stAt_length]; omega)]
            have : a.tmps.getD n undef = undef := by
              rw [Array.getD_eq_getD_getElem?, Array.getElem?_eq_none (by omega)]; rfl
            rw [this]; exact .tup .nil
        · exact hnext ps rv w' ((hbx.quiet s0 s' f').weaken fun k hk h => ((Ls_set (by omega)).1 h).resolve_left (hne k hk)) (fun _ _ _ _ => rfl) ⟨fun k hk he => absurd he (hne k hk), fun _ => hrv⟩

/-! ### Their evaluation -/
/-- The first operations: some make a block that a value told points to, the others leave memory alone. -/
def runZ (P : Program) (T : Table) (mk : Nat → Option AV) : Nat → List Oper → List AV → List AB → List Bool → (List AV → List Bool → Res) → Res
  | _, [], t, _, nd, K => K t nd
  | k, o :: rest, t, H, nd, K =>
    match o.guard with
    | some _ => .fail
    | none => match mk k with
      | some v => runZ P T mk (k + 1) rest (putT t o.dst v) H nd K
      | none => stepQ P T o t H nd fun t nd => runZ P T mk (k + 1) rest t H nd K
theorem runZ_sound {H : List AB} {mk : Nat → Option AV} (hT : SoundT P T) (K : List AV → List Bool → Res) {m : Nat} (hm : m ≤ ops.size) : ∀ (l : List Oper) (k : Nat) (t : List AV) (nd : List Bool), l = (ops.toList.take m).drop k → k ≤ m → (runZ P T mk k l t H nd K).sel = .fail ∨
    ∃ t' nd', (runZ P T mk k l t H nd K).sel = (K t' nd').sel ∧ (allT nd' = true → allT nd = true ∧ ∃ val : Nat → AV, (∀ e v, k ≤ e → e < m → mk e = some v → val e = v) ∧ t' = stAt ops val t k (m - k) ∧ ∀ i, k ≤ i → i < m → mk i = none → QVal P ops i (stAt ops val t k (i - k)) H (val i))
  | [], k, t, nd, hl, hk => by
    have : m ≤ k := by
      have := congrArg List.length hl
      simp at this; omega
    have : k = m := by omega
    subst this
    exact .inr ⟨t, nd, rfl, fun h => ⟨h, fun _ => .any, fun e v h1 h2 => by omega, by rw [Nat.sub_self]; rfl, fun i h1 h2 => by omega⟩⟩
  | o :: rest, k, t, nd, hl, hk => by
    obtain ⟨ho, hrest⟩ := drop_cons hl
    have hks : k < m := by
      rcases Nat.lt_or_ge k m with h' | h'
      · exact h'
      · rw [List.getElem?_eq_none (by simp; omega)] at ho; cases ho
    have ho' : ops[k]? = some o := by
      rw [List.getElem?_take_of_lt hks] at ho; simpa using ho
    have hgd : gDst ops k = o.dst := by simp [gDst, ho']
    have hcongr : ∀ (val : Nat → AV) (v : AV) (k n k' : Nat) (t : List AV), k < k' → stAt ops (fun i => if i = k then v else val i) t k' n = stAt ops val t k' n := by
      intro val v k n
      induction n with
      | zero => intros; rfl
      | succ n ihn => intro k' t hk; simp only [stAt]; rw [if_neg (by omega)]; exact ihn _ _ (by omega)
    have fin : ∀ {t' : List AV} {v1 : AV} {val : Nat → AV}, (∀ v, mk k = some v → v1 = v) → (mk k = none → QVal P ops k t H v1) → (∀ e v, k + 1 ≤ e → e < m → mk e = some v → val e = v) → t' = stAt ops val (putT t o.dst v1) (k + 1) (m - (k + 1)) → (∀ i, k + 1 ≤ i → i < m → mk i = none → QVal P ops i (stAt ops val (putT t o.dst v1) (k + 1) (i - (k + 1))) H (val i)) →
        ∃ val : Nat → AV, (∀ e v, k ≤ e → e < m → mk e = some v → val e = v) ∧ t' = stAt ops val t k (m - k) ∧ ∀ i, k ≤ i → i < m → mk i = none → QVal P ops i (stAt ops val t k (i - k)) H (val i) := fun {t' v1 val} h1 h2 h3 h4 h5 => by
      refine ⟨fun i => if i = k then v1 else val i, fun e v a b hme => ?_, ?_, fun i a b hne => ?_⟩
      · dsimp only
        by_cases hek : e = k
        · rw [if_pos hek]; exact h1 v (by rw [← hek]; exact hme)
        · rw [if_neg hek]; exact h3 e v (by omega) b hme
      · rw [show m - k = (m - (k + 1)) + 1 by omega, h4]
        simp only [stAt, if_true, hgd]
        exact (hcongr _ _ _ _ _ _ (by omega)).symm
      · by_cases hik : i = k
        · subst hik
          simp only [Nat.sub_self, if_true]
          exact h2 hne
        · rw [show i - k = (i - (k + 1)) + 1 by omega]
          simp only [stAt, if_true, hik, if_false, hgd]
          rw [hcongr _ _ _ _ _ _ (by omega)]
          exact h5 i (by omega) b hne
    unfold runZ
    cases hg : o.guard with
    | some g => exact .inl rfl
    | none =>
      dsimp only
      have hw : ∀ (Q : Exit → Act → World → Prop) (next : Act → World → Prop) (a : Act) (w : World), (o.wp P a w next Q → wpOp P ops Q k next a w) := fun Q next a w h => by
        simp only [wpOp, ho']
        rw [if_pos (by simp [Region.wanted, hg])]
        exact .inl h
      cases hbe : mk k with
      | some v =>
        dsimp only
        rcases runZ_sound hT K hm rest (k + 1) (putT t o.dst v) nd hrest hks with h4 | ⟨t', nd', h4, h5⟩
        · exact .inl h4
        refine .inr ⟨t', nd', h4, fun hn => ?_⟩
        obtain ⟨h6, val, g1, g2, g3⟩ := h5 hn
        exact ⟨h6, fin (fun u hu => by rw [hbe] at hu; cases hu; rfl) (fun h => by rw [hbe] at h; cases h) g1 g2 g3⟩
      | none =>
        dsimp only
        rcases stepQ_sound (H := H) hT o t nd (fun t nd => runZ P T mk (k + 1) rest t H nd K) with h2 | ⟨v1, nd2, h2, h3⟩
        · exact .inl h2
        rw [h2]
        rcases runZ_sound hT K hm rest (k + 1) (putT t o.dst v1) nd2 hrest hks with h4 | ⟨t', nd', h4, h5⟩
        · exact .inl h4
        refine .inr ⟨t', nd', h4, fun hn => ?_⟩
        obtain ⟨h6, val, g1, g2, g3⟩ := h5 hn
        obtain ⟨h8, hok, h9⟩ := h3 h6
        exact ⟨h8, fin (fun u hu => by rw [hbe] at hu; cases hu) (fun _ => ⟨o, ho', fun σ w a Q next s r _ q => hw Q next a w (h9 σ w a Q next s (opds_looks hok fun n hn => r n hn) q)⟩) g1 g2 g3⟩
/-- The makers' places, in the order of their blocks. -/
def mkOf (n : Nat) : List Nat → Nat → Option AV
  | [], _ => none
  | e :: l, i => match Nat.beq i e with
    | true => some (.p true n 0)
    | false => mkOf (n + 1) l i
/-- No operation ahead of the tail looks at what a maker makes; the makers make variables. -/
def boxesOK (ops : Array Oper) (m : Nat) (es : List Nat) : Bool := (List.range m).all fun i => match es.any (Nat.beq i) with
  | true => match ops[i]? with
    | some o => match o.op, o.guard with
      | .alloc _, none => true
      | _, _ => false
    | none => false
  | false => match ops[i]? with
    | some o => (looks ops o).all fun n => es.all fun e => !(gDst ops e == some n)
    | none => false
def zerB (P : Program) (ops : Array Oper) (e : Nat) : AB := match ops[e]? with
  | some o => match o.op with
    | .alloc ty => match zeroA P ty with
      | some z => .cells true (.lit (cellsA z))
      | none => .dead
    | _ => .dead
  | none => .dead
theorem mkOf_get {n : Nat} : ∀ {es : List Nat} {k : Nat}, es.Nodup → (h : k < es.length) → mkOf n es es[k] = some (.p true (n + k) 0)
  | e :: l, 0, _, _ => by simp [mkOf, Nat.beq_refl]
  | e :: l, k + 1, hd, h => by
    have hd' := List.nodup_cons.1 hd
    have hk : k < l.length := by simpa using h
    have hne : Nat.beq l[k] e = false := by
      cases hb : Nat.beq l[k] e with
      | false => rfl
      | true => exact absurd (by rw [← Nat.eq_of_beq_eq_true hb]; exact List.getElem_mem hk) hd'.1
    simp only [List.getElem_cons_succ, mkOf, hne]
    rw [mkOf_get hd'.2 hk, Nat.add_right_comm, Nat.add_assoc]
theorem mkOf_none {n i : Nat} : ∀ {es : List Nat}, i ∉ es → mkOf n es i = none
  | [], _ => rfl
  | e :: l, h => by
    have hne : Nat.beq i e = false := by
      cases hb : Nat.beq i e with
      | false => rfl
      | true => exact absurd (by rw [Nat.eq_of_beq_eq_true hb]; simp) h
    simp only [mkOf, hne]
    exact mkOf_none fun h' => h (by simp [h'])
/-- A region in which several variables are made. -/
theorem boxes_reach (hT : SoundT P T) (hf : P.follows .mixedOrders = true) (m : Nat) (es : List Nat) (hm : m ≤ ops.size) (hem : ∀ e ∈ es, e < m) (hnd : es.Nodup) (hok : drawOK ops m = true) (hbx : boxesOK ops m es = true) {id : Nat} {k : List Item} {t t' : List AV} {H H' : List AB} {nd : List Bool}
    (hz : ∀ e ∈ es, (zerB P ops e).live = true ∧ lowB H.length (zerB P ops e) = true) (hlow : lowH H.length H = true)
    (h : (runZ P T (mkOf H.length es) 0 (ops.toList.take m) t H [] fun t nd => runOps P T ops (ops.toList.drop m) t (H ++ es.map (zerB P ops)) nd fun t H nd => .stop [] t H nd).sel = .stop [] t' H' nd) (hn : allT nd = true) : Reach P (.code (.region id ops true) :: k) t H k t' H' := by
  rcases runZ_sound (H := H) (mk := mkOf H.length es) (ops := ops) hT (fun t nd => runOps P T ops (ops.toList.drop m) t (H ++ es.map (zerB P ops)) nd fun t H nd => .stop [] t H nd) hm (ops.toList.take m) 0 t [] (by simp) (Nat.zero_le _) with h1 | ⟨t1, nd1, h1, h2⟩
  · rw [h] at h1; cases h1
  rw [h1] at h
  rcases runOps_sound (ops := ops) hT (fun t H nd => .stop [] t H nd) (ops.toList.drop m) m t1 (H ++ es.map (zerB P ops)) nd1 rfl hm with h3 | ⟨t2, H2, nd2, h3, h4⟩
  · rw [h] at h3; cases h3
  rw [h] at h3
  cases h3
  obtain ⟨h5, ch⟩ := h4 hn
  obtain ⟨_, val, e1, e2, e3⟩ := h2 h5
  rw [Nat.sub_zero] at e2
  rw [e2] at ch
  have hmap : es.map (zerB P ops) = (List.range es.length).map fun k => zerB P ops (es.getD k 0) := by
    apply List.ext_getElem?
    intro i
    rcases Nat.lt_or_ge i es.length with h' | h'
    · simp [h', List.getD_eq_getElem?_getD]
    · rw [List.getElem?_eq_none (by simpa using h'), List.getElem?_eq_none (by simpa using h')]
  rw [hmap] at ch
  have hEg : ∀ k, (hk : k < es.length) → es.getD k 0 = es[k] := fun k hk => by simp [List.getD_eq_getElem?_getD, hk]
  have hEm : ∀ k, k < es.length → es.getD k 0 ∈ es := fun k hk => by rw [hEg k hk]; exact List.getElem_mem hk
  have hmem : ∀ i, (∀ k, k < es.length → es.getD k 0 ≠ i) → i ∉ es := fun i hi hmi => by
    obtain ⟨k, hk, he⟩ := List.getElem_of_mem hmi
    exact hi k hk (by rw [hEg k hk]; exact he)
  have hany : ∀ {i}, es.any (Nat.beq i) = true ↔ i ∈ es := fun {i} => by
    rw [List.any_eq_true]
    exact ⟨fun ⟨x, hx, hb⟩ => by rw [Nat.eq_of_beq_eq_true hb]; exact hx, fun h => ⟨i, h, Nat.beq_refl i⟩⟩
  have hall := fun i (hi : i < m) => List.all_eq_true.1 hbx i (List.mem_range.2 hi)
  refine region_reach fun σ w a Q s r q => wp_region_any hf ?_
  have hnl : ∀ i, ¬ Ls (Array.replicate ops.size false) i := fun i => by
    unfold Ls
    rw [Array.getD_eq_getD_getElem?]
    by_cases hi : i < ops.size
    · simp [hi]
    · simp [hi]
  have hsm : Same w { w with drawn := w.drawn + 1 } := Same.drew w
  have sw := hsm.sim s
  refine any_boxes (K := es.length) (E := fun k => es.getD k 0) (B := fun k => zerB P ops (es.getD k 0)) (val := val) hok hm (fun k hk => hem _ (hEm k hk)) (fun k k' hk hk' he => ?_) (fun i hi hne => ?_) (fun k hk => ?_) (fun k hk => ?_) (fun i hi hne o ho n hn' k hk => ?_) hlow (fun k hk => hz _ (hEm k hk)) ch sw ops.size _ a _ (fun _ => (0, 0)) (by simp) (fun i o _ hl => absurd hl (hnl i)) ?_ (fun i _ => hnl i)
    ⟨sw, Fr.refl _ _ _, fun k _ h => absurd h (hnl _), fun k _ h => absurd h (hnl _), fun k _ h => absurd h (hnl _), fun k k' _ _ h => absurd h (hnl _)⟩ ?_ (fun x => ⟨fun i _ hl => absurd hl (hnl i), fun _ => r.getD x⟩) fun a' w' σ' r' d' s' f' => q a' w' σ' r' d' s' (hsm.fr.trans f')
  · rw [hEg k hk, hEg k' hk'] at he
    exact (List.getElem_inj hnd).1 he
  · have := e3 i (Nat.zero_le _) hi (mkOf_none (hmem i hne))
    rwa [Nat.sub_zero] at this
  · have he := hall _ (hem _ (hEm k hk))
    rw [hany.2 (hEm k hk)] at he
    have hzk := (hz _ (hEm k hk)).1
    cases hoe : ops[es.getD k 0]? with
    | none => rw [hoe] at he; cases he
    | some o =>
      rw [hoe] at he
      dsimp only at he
      refine ⟨o, hoe, fun σ w a Q next s q => ?_⟩
      cases hop : o.op
      case alloc ty =>
        rw [hop] at he
        cases hg : o.guard with
        | some g => rw [hg] at he; cases he
        | none =>
          have hzb : zerB P ops (es.getD k 0) = match zeroA P ty with
              | some z => .cells true (.lit (cellsA z))
              | none => .dead := by unfold zerB; rw [hoe]; dsimp only; rw [hop]
          cases hzz : zeroA P ty with
          | none => rw [hzb, hzz] at hzk; cases hzk
          | some z =>
            rw [hzz] at hzb
            dsimp only at hzb
            rw [hzb] at q
            have heop : eop P o.op (evA t) H = some (.p true H.length 0, H ++ [.cells true (.lit (cellsA z))], []) := by
              rw [hop]; unfold eop; dsimp only; rw [hzz]
            obtain ⟨rv, w', e1', σ', r2, s2, f2⟩ := eop_out (ρ := a.eval) heop rfl s (by rw [hop]; intro x hx; simp [Op.operands] at hx)
            obtain ⟨x, hx⟩ : ∃ x, σ' = σ ++ [x] := by
              have hl1 := s2.len
              have hl0 := s.len
              simp only [List.length_append, List.length_cons, List.length_nil] at hl1
              have hlt : σ.length < σ'.length := by omega
              refine ⟨σ'[σ.length], ?_⟩
              apply List.ext_getElem?
              intro i
              rcases Nat.lt_or_ge i σ.length with h' | h'
              · rw [List.getElem?_append_left h']
                exact f2.ext i _ (List.getElem?_eq_getElem h') |>.trans (List.getElem?_eq_getElem h').symm
              · rcases Nat.lt_or_ge i (σ.length + 1) with h'' | h''
                · have : i = σ.length := by omega
                  subst this
                  simp [List.getElem?_eq_getElem hlt]
                · rw [List.getElem?_eq_none (by omega), List.getElem?_eq_none (by simp; omega)]
            subst hx
            simp only [wpOp, hoe]
            rw [if_pos (by simp [Region.wanted, hg])]
            refine .inl ?_
            show o.upon P a next Q ((execOp a.eval o).run P w)
            rcases e1' with e1' | ⟨e1', rfl⟩
            · rw [e1']; exact q _ _ x r2 s2 f2
            · rw [e1']; exact q _ _ x r2 s2 f2
      all_goals (rw [hop] at he; cases he)
  · have := e1 (es.getD k 0) (.p true (H.length + k) 0) (Nat.zero_le _) (hem _ (hEm k hk)) (by rw [hEg k hk]; exact mkOf_get hnd hk)
    exact this
  · have hi' := hall i hi
    have hni := hmem i hne
    have : es.any (Nat.beq i) = false := by
      cases hb : es.any (Nat.beq i) with
      | false => rfl
      | true => exact absurd (hany.1 hb) hni
    rw [this, ho] at hi'
    have h1 := List.all_eq_true.1 (List.all_eq_true.1 hi' n hn') _ (hEm k hk)
    intro h
    rw [h] at h1
    simp at h1
  · have := List.length_filter_le (fun i => !(Array.replicate ops.size false).getD i false) (List.range ops.size)
    simp only [List.length_range] at this
    exact this
  · have := r.length; simpa using this.symm
end
end Go.Ax

/- Regions of open order in which a call makes one block, and later operations look at it. -/
namespace Go.Ax
open Go

section
variable {P : Program} {T : Table} {ops : Array Oper} {m e : Nat}

/-- The operation that makes a block. -/
def BVal2 (P : Program) (ops : Array Oper) (e : Nat) (t : List AV) (H : List AB) (v : AV) (B : AB) : Prop :=
  ∃ o, ops[e]? = some o ∧ ∀ (σ : List (Nat × Nat)) (w : World) (a : Act) (Q : Exit → Act → World → Prop) (next : Act → World → Prop), Sim σ H w →
    (∀ n ∈ looks ops o, Rel σ (getL t n) (a.tmps.getD n undef)) → a.tmps.size = t.length →
    (∀ rv w' x, Rel (σ ++ [x]) v rv → Sim (σ ++ [x]) (H ++ [B]) w' → Fr σ H w (σ ++ [x]) (H ++ [B]) w' → next (a.put o.dst rv) w') → wpOp P ops Q e next a w
theorem any_box2 (hok : drawOK ops m = true) (hmn : m ≤ ops.size) (hem : e < m) {t t' : List AV} {H H' : List AB} {B : AB} {val : Nat → AV} {d : Nat → Bool} (hde : d e = true) (hv : ∀ i, i < m → d i = false → QVal P ops i (stAt ops val t 0 i) H (val i)) (hb : BVal2 P ops e (stAt ops val t 0 e) H (val e) B)
    (hd2 : ∀ i, i < m → d i = true → i ≠ e → QVal P ops i (stAt ops val t 0 i) (H ++ [B]) (val i) ∧ aheadOf ops 10 i e = true)
    (hlk : ∀ i, i < m → (d i = false ∨ i = e) → ∀ o, ops[i]? = some o → ∀ n ∈ looks ops o, ∀ k, k < m → d k = true → gDst ops k ≠ some n) (hlow : lowH H.length H = true) (hlive : B.live = true)
    (c : Chain P ops m (stAt ops val t 0 m) (H ++ [B]) ops.size t' H') {Q : Exit → Act → World → Prop} {σ : List (Nat × Nat)} :
    ∀ (fuel : Nat) (listed : Array Bool) (a : Act) (w : World) (σ1 : List (Nat × Nat)) (H1 : List AB), listed.size = ops.size → Down ops listed →
      (left ops listed).length ≤ fuel → (∀ i, m ≤ i → ¬ Ls listed i) → ((σ1 = σ ∧ H1 = H ∧ ¬ Ls listed e) ∨ (∃ x, σ1 = σ ++ [x] ∧ H1 = H ++ [B] ∧ Ls listed e)) → Sim σ1 H1 w → a.tmps.size = t.length →
      (∀ x, (∀ i, i < m → Ls listed i → gDst ops i = some x → x < t.length → Rel (if d i = true then σ1 else σ) (val i) (a.tmps.getD x undef)) ∧ ((∀ i, i < m → Ls listed i → gDst ops i ≠ some x) → Rel σ (getL t x) (a.tmps.getD x undef))) →
      (∀ a' w' σ', RelL σ' t' a'.tmps.toList → a'.defers = a.defers → Sim σ' H' w' → Fr σ1 H1 w σ' H' w' → Q .normal a' w') → wpAny P .any ops Q fuel listed a w := by
  have hdist : ∀ i i', i < m → i' < m → i' ≠ i → ∀ x, gDst ops i = some x → gDst ops i' ≠ some x := fun i i' hi hi' hne x hx => by
    have hoi : ops[i]? = some ops[i] := Array.getElem?_eq_getElem (by omega)
    have hd : ops[i].dst = some x := by simpa [gDst, hoi] using hx
    exact ((drawOK_spec hok i _ hoi).2.1 hi).2 i' hi' hne x hd
  have htail : ∀ (fuel : Nat) (listed : Array Bool) (a : Act) (w : World) (σ1 : List (Nat × Nat)) (H1 : List AB), listed.size = ops.size → Down ops listed →
      (left ops listed).length ≤ fuel → (∀ i, m ≤ i → ¬ Ls listed i) → (∀ i, i < m → Ls listed i) → ((σ1 = σ ∧ H1 = H ∧ ¬ Ls listed e) ∨ (∃ x, σ1 = σ ++ [x] ∧ H1 = H ++ [B] ∧ Ls listed e)) → Sim σ1 H1 w → a.tmps.size = t.length →
      (∀ x, (∀ i, i < m → Ls listed i → gDst ops i = some x → x < t.length → Rel (if d i = true then σ1 else σ) (val i) (a.tmps.getD x undef)) ∧ ((∀ i, i < m → Ls listed i → gDst ops i ≠ some x) → Rel σ (getL t x) (a.tmps.getD x undef))) →
      (∀ a' w' σ', RelL σ' t' a'.tmps.toList → a'.defers = a.defers → Sim σ' H' w' → Fr σ1 H1 w σ' H' w' → Q .normal a' w') → wpAny P .any ops Q fuel listed a w := by
    intro fuel listed a w σ1 H1 hsz hd hf hnm hall hcase s hat hx q
    obtain ⟨x0, rfl, rfl, _⟩ : ∃ x, σ1 = σ ++ [x] ∧ H1 = H ++ [B] ∧ Ls listed e := by
      rcases hcase with ⟨_, _, h⟩ | h
      · exact absurd (hall e hem) h
      · exact h
    have hext : Ext σ (σ ++ [x0]) := Ext.append σ [x0]
    refine any_tail hok fuel listed m _ (H ++ [B]) (σ ++ [x0]) a w hsz hd hf (Nat.le_refl _) (fun i hi => ⟨fun h => ?_, fun h => hall i h⟩) c s ?_ q
    · rcases Nat.lt_or_ge i m with h' | h'
      · exact h'
      · exact absurd h (hnm i h')
    · refine RelL.of_get (by rw [stAt_length]; simpa using hat.symm) fun x b y hb hy => ?_
      have hxl : x < t.length := by
        rcases Nat.lt_or_ge x t.length with h' | h'
        · exact h'
        · rw [List.getElem?_eq_none (by rw [stAt_length]; exact h')] at hb; cases hb
      have hb' : b = getL (stAt ops val t 0 m) x := by
        rw [getL_some (by rw [stAt_length]; exact hxl)] at hb; cases hb; rfl
      have hy' : a.tmps.getD x undef = y := by
        have : a.tmps[x]? = some y := by simpa using hy
        rw [Array.getD_eq_getD_getElem?, this]; rfl
      subst hb'
      rw [← hy']
      by_cases hex : ∃ i, i < m ∧ gDst ops i = some x
      · obtain ⟨i, hi, hgi⟩ := hex
        rw [stAt_val ops val m 0 t i (by omega) (by omega) hgi hxl (fun i' _ h2 h3 => hdist i i' hi (by omega) h3 x hgi)]
        have := (hx x).1 i hi (hall i hi) hgi hxl
        split at this
        · exact this
        · exact this.mono hext
      · have hno : ∀ i, i < m → gDst ops i ≠ some x := fun i hi hg => hex ⟨i, hi, hg⟩
        rw [stAt_untouched ops val m 0 t (fun i _ h2 => hno i (by omega))]
        exact ((hx x).2 fun i hi _ => hno i hi).mono hext
  intro fuel
  induction fuel with
  | zero =>
    intro listed a w σ1 H1 hsz hd hf hnm hcase s hat hx q
    refine htail 0 listed a w σ1 H1 hsz hd hf hnm (fun i hi => ?_) hcase s hat hx q
    apply Classical.byContradiction
    intro hn
    have : i ∈ left ops listed := mem_left.2 ⟨by omega, hn⟩
    have := List.length_pos_of_mem this
    omega
  | succ fuel ih =>
    intro listed a w σ1 H1 hsz hd hf hnm hcase s hat hx q
    by_cases hall : ∀ i, i < m → Ls listed i
    · exact htail _ listed a w σ1 H1 hsz hd hf hnm hall hcase s hat hx q
    refine ⟨fun hr => ?_, fun j hj => ?_⟩
    · exfalso
      apply hall
      intro i hi
      apply Classical.byContradiction
      intro hn
      obtain ⟨y, hy⟩ := ready_some hok hsz i (by omega) hn
      rw [hr] at hy; cases hy
    · obtain ⟨hnl, o, ho, hafter⟩ := (mem_ready' hsz).1 hj
      have hjs := (Array.getElem?_eq_some_iff.1 ho).1
      have hjm : j < m := by
        rcases Nat.lt_or_ge j m with h | h
        · exact h
        · exfalso
          apply hall
          intro i hi
          exact ahead_ready hd hsz hj ((drawOK_spec hok j o ho).2.2 h i (by omega))
      have hdst : gDst ops j = o.dst := by simp [gDst, ho]
      -- behind the operation
      have hnext : ∀ (σ2 : List (Nat × Nat)) (H2 : List AB) (rv : Value) (w' : World), ((σ2 = σ ∧ H2 = H ∧ ¬ Ls (listed.setIfInBounds j true) e) ∨ (∃ x, σ2 = σ ++ [x] ∧ H2 = H ++ [B] ∧ Ls (listed.setIfInBounds j true) e)) → Rel (if d j = true then σ2 else σ) (val j) rv →
          (∀ (b : AV) x, Ls listed e → Rel σ1 b x → Rel σ2 b x) → Sim σ2 H2 w' → Fr σ1 H1 w σ2 H2 w' → wpAny P .any ops Q fuel (listed.setIfInBounds j true) (a.put o.dst rv) w' := fun σ2 H2 rv w' hcase' hrv hkeep s' f' => by
        refine ih (listed.setIfInBounds j true) (a.put o.dst rv) w' σ2 H2 (by simpa using hsz) (hd.set hsz hj) ?_ (fun i hi => ?_) hcase' s' ?_ (fun x => ⟨fun i hi hli hgi hxl => ?_, fun hno => ?_⟩) fun a2 w2 σ3 r2 d2 s2 f2 => q a2 w2 σ3 r2 (d2.trans (put_defers _ _ _)) s2 (f'.trans f2)
        · have := left_set hjs hsz hnl; omega
        · rw [Ls_set (by omega)]; rintro (rfl | h)
          · omega
          · exact hnm i hi h
        · cases o.dst <;> simp [Act.put, hat]
        · rw [Ls_set (by omega)] at hli
          by_cases hij : i = j
          · subst hij
            rw [hdst] at hgi
            rw [hgi]
            simp only [Act.put]
            rw [Array.getD_eq_getD_getElem?, Array.getElem?_setIfInBounds_self_of_lt (by omega)]
            exact hrv
          · have hne : o.dst ≠ some x := by rw [← hdst]; exact hdist i j hi hjm (Ne.symm hij) x hgi
            have : (a.put o.dst rv).tmps.getD x undef = a.tmps.getD x undef := by
              cases hod : o.dst with
              | none => rfl
              | some d =>
                have hdx : d ≠ x := fun e => hne (by rw [hod, e])
                simp [Act.put, Array.getD_eq_getD_getElem?, Array.getElem?_setIfInBounds_ne hdx]
            rw [this]
            have hl := hli.resolve_left hij
            have h0 := (hx x).1 i hi hl hgi hxl
            cases hdi : d i with
            | true =>
              rw [hdi, if_pos rfl] at h0
              rw [if_pos rfl]
              have hle : Ls listed e := by
                by_cases hie : i = e
                · rw [← hie]; exact hl
                · exact ahead_listed hd hl (by omega) (hd2 i hi hdi hie).2
              exact hkeep _ _ hle h0
            | false =>
              rw [hdi, if_neg (by simp)] at h0
              rw [if_neg (by simp)]
              exact h0
        · have hne : o.dst ≠ some x := by rw [← hdst]; exact hno j hjm ((Ls_set (by omega)).2 (.inl rfl))
          have : (a.put o.dst rv).tmps.getD x undef = a.tmps.getD x undef := by
            cases hod : o.dst with
            | none => rfl
            | some d =>
              have hdx : d ≠ x := fun e => hne (by rw [hod, e])
              simp [Act.put, Array.getD_eq_getD_getElem?, Array.getElem?_setIfInBounds_ne hdx]
          rw [this]
          exact (hx x).2 fun i hi hli => hno i hi ((Ls_set (by omega)).2 (.inr hli))
      -- what it looks at, where no later value stands
      have hlook : ∀ τ, Ext σ τ → ((d j = false ∨ j = e) ∨ τ = σ1) → ∀ n ∈ looks ops o, Rel τ (getL (stAt ops val t 0 j) n) (a.tmps.getD n undef) := fun τ hτ hcs n hn => by
        by_cases hnl' : n < t.length
        · by_cases hex : ∃ i, i < m ∧ gDst ops i = some n
          · obtain ⟨i, hi, hgi⟩ := hex
            have hah := ((drawOK_spec hok j o ho).2.1 hjm).1 n hn i hi hgi
            have hil := ahead_ready hd hsz hj hah
            have hij : i < j := aheadOf_lt hok 10 j i hah
            rw [stAt_val ops val j 0 t i (by omega) (by omega) hgi hnl' (fun i' _ h2 h3 => hdist i i' hi (by omega) h3 n hgi)]
            have h0 := (hx n).1 i hi hil hgi hnl'
            cases hdi : d i with
            | false =>
              rw [hdi, if_neg (by simp)] at h0
              exact h0.mono hτ
            | true =>
              rw [hdi, if_pos rfl] at h0
              rcases hcs with hcs | rfl
              · exact absurd hgi (hlk j hjm hcs o ho n hn i hi hdi)
              · exact h0
          · have hno : ∀ i, i < m → gDst ops i ≠ some n := fun i hi hg => hex ⟨i, hi, hg⟩
            rw [stAt_untouched ops val j 0 t (fun i _ h2 => hno i (by omega))]
            exact ((hx n).2 fun i hi _ => hno i (by omega)).mono hτ
        · rw [getL_none (by rw [stAt_length]; omega)]
          have : a.tmps.getD n undef = undef := by
            rw [Array.getD_eq_getD_getElem?, Array.getElem?_eq_none (by omega)]; rfl
          rw [this]; exact .tup .nil
      by_cases hje : j = e
      · subst hje
        obtain ⟨rfl, rfl, _⟩ : σ1 = σ ∧ H1 = H ∧ ¬ Ls listed j := by
          rcases hcase with h | ⟨_, _, _, h⟩
          · exact h
          · exact absurd h hnl
        obtain ⟨o', ho', hbv⟩ := hb
        rw [ho] at ho'; cases ho'
        exact hbv σ1 w a Q _ s (hlook σ1 (Ext.refl _) (.inl (.inr rfl))) (by rw [stAt_length]; exact hat) fun rv w' x hrv s' f' => hnext (σ1 ++ [x]) (H1 ++ [B]) rv w' (.inr ⟨x, rfl, rfl, (Ls_set (by omega)).2 (.inl rfl)⟩) (by rw [if_pos hde]; exact hrv) (fun _ _ h => absurd h hnl) s' f'
      · have hLe : Ls (listed.setIfInBounds j true) e ↔ Ls listed e := by
          rw [Ls_set (by omega)]
          exact ⟨fun h => h.resolve_left fun h' => hje h'.symm, .inr⟩
        cases hdj : d j with
        | true =>
          obtain ⟨⟨o', ho', hq⟩, hah⟩ := hd2 j hjm hdj hje
          rw [ho] at ho'; cases ho'
          have hle := ahead_ready hd hsz hj hah
          obtain ⟨x, rfl, rfl, _⟩ : ∃ x, σ1 = σ ++ [x] ∧ H1 = H ++ [B] ∧ Ls listed e := by
            rcases hcase with ⟨_, _, h⟩ | h
            · exact absurd hle h
            · exact h
          refine hq (σ ++ [x]) w a Q _ s (hlook _ (Ext.append σ [x]) (.inr rfl)) (by rw [stAt_length]; exact hat) fun rv w' hrv s' f' => ?_
          exact hnext (σ ++ [x]) (H ++ [B]) rv w' (.inr ⟨x, rfl, rfl, by rw [hLe]; exact hle⟩) (by rw [if_pos hdj]; exact hrv) (fun _ _ _ h => h) s' f'
        | false =>
          obtain ⟨o', ho', hq⟩ := hv j hjm hdj
          rw [ho] at ho'; cases ho'
          have s0 : Sim σ H w := by
            rcases hcase with ⟨rfl, rfl, _⟩ | ⟨x, rfl, rfl, _⟩
            · exact s
            · exact s.less hlow
          refine hq σ w a Q _ s0 (hlook σ (Ext.refl _) (.inl (.inl hdj))) (by rw [stAt_length]; exact hat) fun rv w' hrv s' f' => ?_
          rcases hcase with ⟨rfl, rfl, h⟩ | ⟨x, rfl, rfl, h⟩
          · exact hnext σ1 H1 rv w' (.inl ⟨rfl, rfl, by rw [hLe]; exact h⟩) (by rw [if_neg (by rw [hdj]; simp)]; exact hrv) (fun _ _ _ h => h) s' f'
          · obtain ⟨s2, f2⟩ := s.more hlive s' f'
            exact hnext (σ ++ [x]) (H ++ [B]) rv w' (.inr ⟨x, rfl, rfl, by rw [hLe]; exact h⟩) (by rw [if_neg (by rw [hdj]; simp)]; exact hrv) (fun _ _ _ h => h) s2 f2

/-! ### Their evaluation -/
/-- The first operations: the e-th is a call that makes a block, those of d look at it, the others leave memory alone. -/
def runY (P : Program) (T : Table) (e : Nat) (d : Nat → Bool) : Nat → List Oper → List AV → List AB → AB → List Bool → (List AV → AB → List Bool → Res) → Res
  | _, [], t, _, B, nd, K => K t B nd
  | k, o :: rest, t, H, B, nd, K =>
    match o.guard with
    | some _ => .fail
    | none => match Nat.beq k e with
      | true => if o.op.operands.all okOpd then
          match o.op with
          | .call c => match aCall c (evA t) with
            | some (g, args) => match P.funcs[g]? with
              | some fn => match fn.body with
                | some _ => match fn.name == "runtime.NumGoroutine" with
                  | true => .fail
                  | false => T g args (roH H) nd fun v H' nd' => match (Nat.blt H.length H'.length && lowB (H.length + 1) (getB H' H.length)) && (below (H.length + 1) v && (getB H' H.length).live) with
                    | true => runY P T e d (k + 1) rest (putT t o.dst v) H (getB H' H.length) nd' K
                    | false => .fail
                | none => .fail
              | none => .fail
            | none => .fail
          | _ => .fail
        else .fail
      | false => match d k with
        | false => stepQ P T o t H nd fun t nd => runY P T e d (k + 1) rest t H B nd K
        | true => match Nat.blt e k with
          | true => stepQ P T o t (H ++ [B]) nd fun t nd => runY P T e d (k + 1) rest t H B nd K
          | false => .fail
theorem roH_no_rw (H : List AB) (i : Nat) : (getB (roH H) i).rw = false := by rw [getB_roH, roB_rw]
/-- Behind a call that was given nothing to write to, and made a block. -/
theorem Sim.made {σ σ' : List (Nat × Nat)} {H H' : List AB} {w w' : World} (s : Sim σ H w) (s' : Sim σ' H' w') (f : Fr σ (roH H) w σ' H' w') (hlen : H.length < H'.length) (hlow : lowB (H.length + 1) (getB H' H.length) = true) :
    ∃ x, Ext (σ ++ [x]) σ' ∧ Sim (σ ++ [x]) (H ++ [getB H' H.length]) w' ∧ Fr σ H w (σ ++ [x]) (H ++ [getB H' H.length]) w' := by
  have hs := s.len
  have hs' := s'.len
  have hold : ∀ b, b < w.heap.size → w'.heap[b]? = w.heap[b]? := fun b hb => f.old b hb fun i z hr => by rw [roH_no_rw] at hr; cases hr
  have hx : σ'[H.length]? = some (σ'[H.length]'(by omega)) := List.getElem?_eq_getElem (by omega)
  generalize σ'[H.length]'(by omega) = x at hx
  obtain ⟨b0, z0⟩ := x
  have hfresh : w.heap.size ≤ b0 := by
    rcases f.new H.length b0 z0 hx (List.getElem?_eq_none (by omega)) with h | ⟨j, z', hr, _⟩
    · exact h
    · rw [roH_no_rw] at hr; cases hr
  have hext : Ext (σ ++ [(b0, z0)]) σ' := fun i p hi => by
    rcases Nat.lt_or_ge i σ.length with h | h
    · rw [List.getElem?_append_left h] at hi; exact f.ext i p hi
    · have hlt := isSome_lt hi
      simp only [List.length_append, List.length_cons, List.length_nil] at hlt
      have : i = H.length := by omega
      subst this
      rw [← hs] at hi
      simp at hi
      rw [← hi]; exact hx
  have hgl : ∀ {i : Nat}, i < σ.length → getB (H ++ [getB H' H.length]) i = getB H i := fun h => getB_append_left (by omega)
  have hgn : getB (H ++ [getB H' H.length]) σ.length = getB H' H.length := by rw [getB_append_right (by omega), hs, Nat.sub_self]; rfl
  have hget : ∀ {i : Nat} {p : Nat × Nat}, (σ ++ [(b0, z0)])[i]? = some p → (i < σ.length ∧ σ[i]? = some p) ∨ (i = σ.length ∧ p = (b0, z0)) := fun {i p} h => by
    rcases Nat.lt_or_ge i σ.length with h1 | h1
    · rw [List.getElem?_append_left h1] at h; exact .inl ⟨h1, h⟩
    · have hlt := isSome_lt h
      simp only [List.length_append, List.length_cons, List.length_nil] at hlt
      have : i = σ.length := by omega
      subst this
      simp at h
      exact .inr ⟨rfl, h.symm⟩
  refine ⟨(b0, z0), hext, sim_fr s (by simp [hs]) (fun i b z hi => ?_) (fun i j b z z' hi hj hr hl => ?_) ⟨f.os, f.tape, f.output, f.size, fun b hb _ => hold b hb, Ext.append σ _, fun i b z hi hn => ?_, fun i hi hr => ?_⟩⟩
  · rcases hget hi with ⟨h1, h2⟩ | ⟨rfl, h2⟩
    · rw [hgl h1]
      have k := (s.blk i b z h2).mono (Ext.append σ [(b0, z0)])
      cases hg : getB H i with
      | dead => trivial
      | cells r A =>
        have hlt := s.lt h2 (by rw [hg]; rfl)
        rw [hold b hlt, ← hg]; exact k
      | code o0 xs0 =>
        have hlt := s.lt h2 (by rw [hg]; rfl)
        rw [hold b hlt, ← hg]; exact k
    · cases h2
      rw [hgn]
      exact low_blk hext (by simp [hs]) hlow (s'.blk H.length b0 z0 hx)
  · rcases hget hi with ⟨h1, h2⟩ | ⟨rfl, h2⟩
    · rcases hget hj with ⟨h3, h4⟩ | ⟨rfl, h4⟩
      · rw [hgl h1] at hr
        rw [hgl h3] at hl
        exact s.inj i j b z z' h2 h4 hr hl
      · cases h4
        rw [hgl h1] at hr
        have := s.lt h2 (rw_live hr)
        omega
    · cases h2
      rcases hget hj with ⟨h3, h4⟩ | ⟨rfl, h4⟩
      · rw [hgl h3] at hl
        have := s.lt h4 hl
        omega
      · rfl
  · rcases hget hi with ⟨h1, h2⟩ | ⟨rfl, h2⟩
    · rw [h2] at hn; cases hn
    · cases h2; exact .inl hfresh
  · rwa [hgl hi] at hr
theorem runY_sound {H : List AB} {d : Nat → Bool} (hT : SoundT P T) (K : List AV → AB → List Bool → Res) {m : Nat} (hm : m ≤ ops.size) : ∀ (l : List Oper) (k : Nat) (t : List AV) (B0 : AB) (nd : List Bool), l = (ops.toList.take m).drop k → k ≤ m → (runY P T e d k l t H B0 nd K).sel = .fail ∨
    ∃ t' B nd', (runY P T e d k l t H B0 nd K).sel = (K t' B nd').sel ∧ (allT nd' = true → allT nd = true ∧ (e < k → B = B0) ∧ ∃ val : Nat → AV, t' = stAt ops val t k (m - k) ∧ (∀ i, k ≤ i → i < m → i ≠ e → d i = false → QVal P ops i (stAt ops val t k (i - k)) H (val i)) ∧
      (∀ i, k ≤ i → i < m → i ≠ e → d i = true → QVal P ops i (stAt ops val t k (i - k)) (H ++ [B]) (val i)) ∧ (k ≤ e → e < m → BVal2 P ops e (stAt ops val t k (e - k)) H (val e) B ∧ B.live = true))
  | [], k, t, B0, nd, hl, hk => by
    have : m ≤ k := by
      have := congrArg List.length hl
      simp at this; omega
    have : k = m := by omega
    subst this
    exact .inr ⟨t, B0, nd, rfl, fun h => ⟨h, fun _ => rfl, fun _ => .any, by rw [Nat.sub_self]; rfl, fun i h1 h2 => by omega, fun i h1 h2 => by omega, fun h1 h2 => by omega⟩⟩
  | o :: rest, k, t, B0, nd, hl, hk => by
    obtain ⟨ho, hrest⟩ := drop_cons hl
    have hks : k < m := by
      rcases Nat.lt_or_ge k m with h' | h'
      · exact h'
      · rw [List.getElem?_eq_none (by simp; omega)] at ho; cases ho
    have ho' : ops[k]? = some o := by
      rw [List.getElem?_take_of_lt hks] at ho; simpa using ho
    have hgd : gDst ops k = o.dst := by simp [gDst, ho']
    have hcongr : ∀ (val : Nat → AV) (v : AV) (k n k' : Nat) (t : List AV), k < k' → stAt ops (fun i => if i = k then v else val i) t k' n = stAt ops val t k' n := by
      intro val v k n
      induction n with
      | zero => intros; rfl
      | succ n ihn => intro k' t hk; simp only [stAt]; rw [if_neg (by omega)]; exact ihn _ _ (by omega)
    have fin : ∀ {t' : List AV} {v1 : AV} {B : AB} {val : Nat → AV}, (k ≠ e → d k = false → QVal P ops k t H v1) → (k ≠ e → d k = true → QVal P ops k t (H ++ [B]) v1) → (k = e → BVal2 P ops k t H v1 B ∧ B.live = true) → t' = stAt ops val (putT t o.dst v1) (k + 1) (m - (k + 1)) →
        (∀ i, k + 1 ≤ i → i < m → i ≠ e → d i = false → QVal P ops i (stAt ops val (putT t o.dst v1) (k + 1) (i - (k + 1))) H (val i)) → (∀ i, k + 1 ≤ i → i < m → i ≠ e → d i = true → QVal P ops i (stAt ops val (putT t o.dst v1) (k + 1) (i - (k + 1))) (H ++ [B]) (val i)) →
        (k + 1 ≤ e → e < m → BVal2 P ops e (stAt ops val (putT t o.dst v1) (k + 1) (e - (k + 1))) H (val e) B ∧ B.live = true) →
        ∃ val : Nat → AV, t' = stAt ops val t k (m - k) ∧ (∀ i, k ≤ i → i < m → i ≠ e → d i = false → QVal P ops i (stAt ops val t k (i - k)) H (val i)) ∧ (∀ i, k ≤ i → i < m → i ≠ e → d i = true → QVal P ops i (stAt ops val t k (i - k)) (H ++ [B]) (val i)) ∧ (k ≤ e → e < m → BVal2 P ops e (stAt ops val t k (e - k)) H (val e) B ∧ B.live = true) := fun {t' v1 B val} h1 h2 h3 h4 h5 h6 h7 => by
      have hst : ∀ i, k < i → stAt ops (fun i => if i = k then v1 else val i) t k (i - k) = stAt ops val (putT t o.dst v1) (k + 1) (i - (k + 1)) := fun i hi => by
        rw [show i - k = (i - (k + 1)) + 1 by omega]
        simp only [stAt, if_true, hgd]
        exact hcongr _ _ _ _ _ _ (by omega)
      refine ⟨fun i => if i = k then v1 else val i, by rw [hst m hks]; exact h4, fun i a b hne hd => ?_, fun i a b hne hd => ?_, fun a b => ?_⟩
      · by_cases hik : i = k
        · subst hik
          simp only [Nat.sub_self, if_true]
          exact h1 hne hd
        · rw [hst i (by omega)]
          simp only [hik, if_false]
          exact h5 i (by omega) b hne hd
      · by_cases hik : i = k
        · subst hik
          simp only [Nat.sub_self, if_true]
          exact h2 hne hd
        · rw [hst i (by omega)]
          simp only [hik, if_false]
          exact h6 i (by omega) b hne hd
      · by_cases hek : e = k
        · subst hek
          simp only [Nat.sub_self, if_true]
          exact h3 rfl
        · rw [hst e (by omega)]
          simp only [hek, if_false]
          exact h7 (by omega) b
    unfold runY
    cases hg : o.guard with
    | some g => exact .inl rfl
    | none =>
      dsimp only
      have hw : ∀ (Q : Exit → Act → World → Prop) (next : Act → World → Prop) (a : Act) (w : World), (o.wp P a w next Q → wpOp P ops Q k next a w) := fun Q next a w h => by
        simp only [wpOp, ho']
        rw [if_pos (by simp [Region.wanted, hg])]
        exact .inl h
      cases hbe : Nat.beq k e with
      | true =>
        have hke : k = e := Nat.eq_of_beq_eq_true hbe
        dsimp only
        split
        case isFalse => exact .inl rfl
        rename_i hok
        cases hop : o.op
        case call c =>
          dsimp only
          cases hcall : aCall c (evA t) with
          | none => exact .inl rfl
          | some x =>
            obtain ⟨g, args⟩ := x
            dsimp only
            cases hfn : P.funcs[g]? with
            | none => exact .inl rfl
            | some fn =>
              dsimp only
              cases hb : fn.body with
              | none => exact .inl rfl
              | some body =>
                dsimp only
                cases hname : (fn.name == "runtime.NumGoroutine") with
                | true => exact .inl rfl
                | false =>
                  dsimp only
                  rcases hT g args (roH H) nd (fun v H' nd' => match (Nat.blt H.length H'.length && lowB (H.length + 1) (getB H' H.length)) && (below (H.length + 1) v && (getB H' H.length).live) with
                    | true => runY P T e d (k + 1) rest (putT t o.dst v) H (getB H' H.length) nd' K
                    | false => .fail) with h | ⟨v, H1, nd1, h1, h2⟩
                  · exact .inl h
                  rw [h1]
                  cases hc3 : (Nat.blt H.length H1.length && lowB (H.length + 1) (getB H1 H.length)) && (below (H.length + 1) v && (getB H1 H.length).live) with
                  | false => exact .inl rfl
                  | true =>
                    simp only [Bool.and_eq_true] at hc3
                    obtain ⟨⟨hlt, hlow⟩, hbl, hlv⟩ := hc3
                    dsimp only
                    rcases runY_sound hT K hm rest (k + 1) (putT t o.dst v) (getB H1 H.length) nd1 hrest hks with h4 | ⟨t', B, nd', h4, h5⟩
                    · exact .inl h4
                    refine .inr ⟨t', B, nd', h4, fun hn => ?_⟩
                    obtain ⟨h6, hB, val, g1, g2, g3, g4⟩ := h5 hn
                    obtain ⟨h8, h9⟩ := h2 h6
                    have hB := hB (by omega)
                    subst hB
                    refine ⟨h8, fun h => by omega, fin (fun h => absurd hke h) (fun h => absurd hke h) (fun _ => ⟨⟨o, ho', fun σ w a Q next s r _ q => hw Q next a w ?_⟩, hlv⟩) g1 g2 g3 g4⟩
                    have hopd := opds_looks hok fun n hn => r n hn
                    obtain ⟨rargs, hra, hrun⟩ := call_run (w := w) (P := P) hop hcall hopd
                    show o.upon P a next Q ((execOp a.eval o).run P w)
                    rw [hrun, callFunc_enter hfn hb hname]
                    refine (h9 σ w rargs s.ro hra).mono ?_
                    rintro e w' ⟨rv, rfl, σ', e2, e3, e4⟩
                    obtain ⟨x, x1, x2, x3⟩ := s.made e3 e4 (blt_true hlt) hlow
                    exact q _ _ x (below_rel x1 (by simp [s.len]) hbl e2) x2 x3
        all_goals exact .inl rfl
      | false =>
        have hke : k ≠ e := fun h => by rw [h, Nat.beq_refl] at hbe; cases hbe
        dsimp only
        cases hdk : d k with
        | false =>
          dsimp only
          rcases stepQ_sound (H := H) hT o t nd (fun t nd => runY P T e d (k + 1) rest t H B0 nd K) with h2 | ⟨v1, nd2, h2, h3⟩
          · exact .inl h2
          rw [h2]
          rcases runY_sound hT K hm rest (k + 1) (putT t o.dst v1) B0 nd2 hrest hks with h4 | ⟨t', B, nd', h4, h5⟩
          · exact .inl h4
          refine .inr ⟨t', B, nd', h4, fun hn => ?_⟩
          obtain ⟨h6, hB, val, g1, g2, g3, g4⟩ := h5 hn
          obtain ⟨h8, hok, h9⟩ := h3 h6
          exact ⟨h8, fun h => hB (by omega), fin (fun _ _ => ⟨o, ho', fun σ w a Q next s r _ q => hw Q next a w (h9 σ w a Q next s (opds_looks hok fun n hn => r n hn) q)⟩) (fun _ h => by rw [hdk] at h; cases h) (fun h => absurd h hke) g1 g2 g3 g4⟩
        | true =>
          dsimp only
          cases hlt : Nat.blt e k with
          | false => exact .inl rfl
          | true =>
            dsimp only
            rcases stepQ_sound (H := H ++ [B0]) hT o t nd (fun t nd => runY P T e d (k + 1) rest t H B0 nd K) with h2 | ⟨v1, nd2, h2, h3⟩
            · exact .inl h2
            rw [h2]
            rcases runY_sound hT K hm rest (k + 1) (putT t o.dst v1) B0 nd2 hrest hks with h4 | ⟨t', B, nd', h4, h5⟩
            · exact .inl h4
            refine .inr ⟨t', B, nd', h4, fun hn => ?_⟩
            obtain ⟨h6, hB, val, g1, g2, g3, g4⟩ := h5 hn
            obtain ⟨h8, hok, h9⟩ := h3 h6
            have hek := blt_true hlt
            have hB' := hB (by omega)
            subst hB'
            exact ⟨h8, fun _ => rfl, fin (fun _ h => by rw [hdk] at h; cases h) (fun _ _ => ⟨o, ho', fun σ w a Q next s r _ q => hw Q next a w (h9 σ w a Q next s (opds_looks hok fun n hn => r n hn) q)⟩) (fun h => absurd h hke) g1 g2 g3 g4⟩
/-- The e-th's block is looked at by those of d alone, and they come behind it. -/
def box2OK (ops : Array Oper) (m e : Nat) (d : Nat → Bool) : Bool := (List.range m).all fun i => (!d i || (Nat.beq i e || aheadOf ops 10 i e)) && (match d i && !Nat.beq i e with
  | true => true
  | false => match ops[i]? with
    | some o => (looks ops o).all fun n => (List.range m).all fun k => !d k || !(gDst ops k == some n)
    | none => true)
theorem box2_reach (hT : SoundT P T) (hf : P.follows .mixedOrders = true) (m e : Nat) (d : Nat → Bool) (hm : m ≤ ops.size) (hem : e < m) (hde : d e = true) (hok : drawOK ops m = true) (hbx : box2OK ops m e d = true) {id : Nat} {k : List Item} {t t' : List AV} {H H' : List AB} {nd : List Bool}
    (hlow : lowH H.length H = true)
    (h : (runY P T e d 0 (ops.toList.take m) t H .dead [] fun t B nd => runOps P T ops (ops.toList.drop m) t (H ++ [B]) nd fun t H nd => .stop [] t H nd).sel = .stop [] t' H' nd) (hn : allT nd = true) : Reach P (.code (.region id ops true) :: k) t H k t' H' := by
  rcases runY_sound (H := H) (ops := ops) (e := e) (d := d) hT (fun t B nd => runOps P T ops (ops.toList.drop m) t (H ++ [B]) nd fun t H nd => .stop [] t H nd) hm (ops.toList.take m) 0 t .dead [] (by simp) (Nat.zero_le _) with h1 | ⟨t1, B, nd1, h1, h2⟩
  · rw [h] at h1; cases h1
  rw [h1] at h
  rcases runOps_sound (ops := ops) hT (fun t H nd => .stop [] t H nd) (ops.toList.drop m) m t1 (H ++ [B]) nd1 rfl hm with h3 | ⟨t2, H2, nd2, h3, h4⟩
  · rw [h] at h3; cases h3
  rw [h] at h3
  cases h3
  obtain ⟨h5, ch⟩ := h4 hn
  obtain ⟨_, _, val, e2, e3, e4, e5⟩ := h2 h5
  rw [Nat.sub_zero] at e2
  rw [e2] at ch
  obtain ⟨hb, hlv⟩ := e5 (Nat.zero_le _) hem
  rw [Nat.sub_zero] at hb
  have hall := fun i (hi : i < m) => List.all_eq_true.1 hbx i (List.mem_range.2 hi)
  simp only [Bool.and_eq_true, Bool.or_eq_true, Bool.not_eq_true'] at hall
  refine region_reach fun σ w a Q s r q => wp_region_any hf ?_
  have hnl : ∀ i, ¬ Ls (Array.replicate ops.size false) i := fun i => by
    unfold Ls
    rw [Array.getD_eq_getD_getElem?]
    by_cases hi : i < ops.size
    · simp [hi]
    · simp [hi]
  have hsm : Same w { w with drawn := w.drawn + 1 } := Same.drew w
  refine any_box2 (val := val) (B := B) (d := d) hok hm hem hde (fun i hi hdi => ?_) hb (fun i hi hdi hne => ⟨?_, ?_⟩) (fun i hi hcs o ho n hn' k hk hdk => ?_) hlow hlv ch ops.size _ a _ σ H (by simp) (fun i o _ hl => absurd hl (hnl i)) ?_ (fun i _ => hnl i) (.inl ⟨rfl, rfl, hnl e⟩)
    (hsm.sim s) ?_ (fun x => ⟨fun i _ hl => absurd hl (hnl i), fun _ => r.getD x⟩) fun a' w' σ' r' d' s' f' => q a' w' σ' r' d' s' (hsm.fr.trans f')
  · have hne : i ≠ e := fun h => by rw [h, hde] at hdi; cases hdi
    have := e3 i (Nat.zero_le _) hi hne hdi
    rwa [Nat.sub_zero] at this
  · have := e4 i (Nat.zero_le _) hi hne hdi
    rwa [Nat.sub_zero] at this
  · rcases (hall i hi).1 with h | h | h
    · rw [hdi] at h; cases h
    · exact absurd (Nat.eq_of_beq_eq_true h) hne
    · exact h
  · have h0 := (hall i hi).2
    have hc : (d i && !Nat.beq i e) = false := by
      rcases hcs with h | h
      · rw [h]; rfl
      · rw [h, Nat.beq_refl]; simp
    rw [hc, ho] at h0
    have h1 := List.all_eq_true.1 (List.all_eq_true.1 h0 n hn') k (List.mem_range.2 hk)
    intro hg
    rw [hdk, hg] at h1
    simp at h1
  · have := List.length_filter_le (fun i => !(Array.replicate ops.size false).getD i false) (List.range ops.size)
    simp only [List.length_range] at this
    exact this
  · have := r.length; simpa using this.symm
end
end Go.Ax

/- Regions of open order in which one list is built among operations that leave memory alone. -/
namespace Go.Ax
open Go

section
variable {P : Program} {T : Table} {ops : Array Oper} {m e : Nat}
/-- The first operations: the e-th builds a list or is a call that makes a block, those of d look at it, the others leave memory alone. -/
def runYB (P : Program) (T : Table) (e : Nat) (d : Nat → Bool) : Nat → List Oper → List AV → List AB → AB → List Bool → (List AV → AB → List Bool → Res) → Res
  | _, [], t, _, B, nd, K => K t B nd
  | k, o :: rest, t, H, B, nd, K =>
    match o.guard with
    | some _ => .fail
    | none => match Nat.beq k e with
      | true => if o.op.operands.all okOpd then
          match o.op with
          | .call c => match aCall c (evA t) with
            | some (g, args) => match P.funcs[g]? with
              | some fn => match fn.body with
                | some _ => match fn.name == "runtime.NumGoroutine" with
                  | true => .fail
                  | false => T g args (roH H) nd fun v H' nd' => match (Nat.blt H.length H'.length && lowB (H.length + 1) (getB H' H.length)) && (below (H.length + 1) v && (getB H' H.length).live) with
                    | true => runYB P T e d (k + 1) rest (putT t o.dst v) H (getB H' H.length) nd' K
                    | false => .fail
                | none => .fail
              | none => .fail
            | none => .fail
          | .buildSlice ty len parts => match aBuildSlice P ty len (parts.toList.map fun x => (x.1, evA t x.2)) H with
            | some (v, H', n) => runYB P T e d (k + 1) rest (putT t o.dst v) H (getB H' H.length) (n ++ nd) K
            | none => .fail
          | _ => .fail
        else .fail
      | false => match d k with
        | false => stepQ P T o t H nd fun t nd => runYB P T e d (k + 1) rest t H B nd K
        | true => match Nat.blt e k with
          | true => stepQ P T o t (H ++ [B]) nd fun t nd => runYB P T e d (k + 1) rest t H B nd K
          | false => .fail
theorem build_new {t : TypeId} {len : Nat} {parts : List (Nat × AV)} {H H' : List AB} {v : AV} {nd : List Bool} (h : aBuildSlice P t len parts H = some (v, H', nd)) (hnd : allT nd = true) : H' = H ++ [getB H' H.length] ∧ (getB H' H.length).live = true := by
  unfold aBuildSlice at h
  split at h <;> try (cases h; done)
  split at h <;> try (cases h; done)
  split at h <;> try (cases h; done)
  obtain ⟨rfl, rfl, _⟩ := consN_some h hnd
  have e : ∀ (B : AB), getB (H ++ [B]) H.length = B := fun B => by rw [getB_append_right (Nat.le_refl _), Nat.sub_self]; rfl
  rw [e]
  exact ⟨rfl, rfl⟩
theorem ext_snoc {σ σ' : List (Nat × Nat)} (h : Ext σ σ') (hl : σ'.length = σ.length + 1) : ∃ x, σ' = σ ++ [x] := by
  refine ⟨σ'[σ.length]'(by omega), ?_⟩
  apply List.ext_getElem?
  intro i
  rcases Nat.lt_trichotomy i σ.length with hi | hi | hi
  · rw [List.getElem?_append_left hi]
    have := h i _ (List.getElem?_eq_getElem hi)
    rw [this, List.getElem?_eq_getElem hi]
  · subst hi
    rw [List.getElem?_append_right (Nat.le_refl _), Nat.sub_self, List.getElem?_eq_getElem (by omega)]
    rfl
  · rw [List.getElem?_eq_none (by omega), List.getElem?_eq_none (by simp; omega)]
theorem runYB_sound {H : List AB} {d : Nat → Bool} (hT : SoundT P T) (K : List AV → AB → List Bool → Res) {m : Nat} (hm : m ≤ ops.size) : ∀ (l : List Oper) (k : Nat) (t : List AV) (B0 : AB) (nd : List Bool), l = (ops.toList.take m).drop k → k ≤ m → (runYB P T e d k l t H B0 nd K).sel = .fail ∨
    ∃ t' B nd', (runYB P T e d k l t H B0 nd K).sel = (K t' B nd').sel ∧ (allT nd' = true → allT nd = true ∧ (e < k → B = B0) ∧ ∃ val : Nat → AV, t' = stAt ops val t k (m - k) ∧ (∀ i, k ≤ i → i < m → i ≠ e → d i = false → QVal P ops i (stAt ops val t k (i - k)) H (val i)) ∧
      (∀ i, k ≤ i → i < m → i ≠ e → d i = true → QVal P ops i (stAt ops val t k (i - k)) (H ++ [B]) (val i)) ∧ (k ≤ e → e < m → BVal2 P ops e (stAt ops val t k (e - k)) H (val e) B ∧ B.live = true))
  | [], k, t, B0, nd, hl, hk => by
    have : m ≤ k := by
      have := congrArg List.length hl
      simp at this; omega
    have : k = m := by omega
    subst this
    exact .inr ⟨t, B0, nd, rfl, fun h => ⟨h, fun _ => rfl, fun _ => .any, by rw [Nat.sub_self]; rfl, fun i h1 h2 => by omega, fun i h1 h2 => by omega, fun h1 h2 => by omega⟩⟩
  | o :: rest, k, t, B0, nd, hl, hk => by
    obtain ⟨ho, hrest⟩ := drop_cons hl
    have hks : k < m := by
      rcases Nat.lt_or_ge k m with h' | h'
      · exact h'
      · rw [List.getElem?_eq_none (by simp; omega)] at ho; cases ho
    have ho' : ops[k]? = some o := by
      rw [List.getElem?_take_of_lt hks] at ho; simpa using ho
    have hgd : gDst ops k = o.dst := by simp [gDst, ho']
    have hcongr : ∀ (val : Nat → AV) (v : AV) (k n k' : Nat) (t : List AV), k < k' → stAt ops (fun i => if i = k then v else val i) t k' n = stAt ops val t k' n := by
      intro val v k n
      induction n with
      | zero => intros; rfl
      | succ n ihn => intro k' t hk; simp only [stAt]; rw [if_neg (by omega)]; exact ihn _ _ (by omega)
    have fin : ∀ {t' : List AV} {v1 : AV} {B : AB} {val : Nat → AV}, (k ≠ e → d k = false → QVal P ops k t H v1) → (k ≠ e → d k = true → QVal P ops k t (H ++ [B]) v1) → (k = e → BVal2 P ops k t H v1 B ∧ B.live = true) → t' = stAt ops val (putT t o.dst v1) (k + 1) (m - (k + 1)) →
        (∀ i, k + 1 ≤ i → i < m → i ≠ e → d i = false → QVal P ops i (stAt ops val (putT t o.dst v1) (k + 1) (i - (k + 1))) H (val i)) → (∀ i, k + 1 ≤ i → i < m → i ≠ e → d i = true → QVal P ops i (stAt ops val (putT t o.dst v1) (k + 1) (i - (k + 1))) (H ++ [B]) (val i)) →
        (k + 1 ≤ e → e < m → BVal2 P ops e (stAt ops val (putT t o.dst v1) (k + 1) (e - (k + 1))) H (val e) B ∧ B.live = true) →
        ∃ val : Nat → AV, t' = stAt ops val t k (m - k) ∧ (∀ i, k ≤ i → i < m → i ≠ e → d i = false → QVal P ops i (stAt ops val t k (i - k)) H (val i)) ∧ (∀ i, k ≤ i → i < m → i ≠ e → d i = true → QVal P ops i (stAt ops val t k (i - k)) (H ++ [B]) (val i)) ∧ (k ≤ e → e < m → BVal2 P ops e (stAt ops val t k (e - k)) H (val e) B ∧ B.live = true) := fun {t' v1 B val} h1 h2 h3 h4 h5 h6 h7 => by
      have hst : ∀ i, k < i → stAt ops (fun i => if i = k then v1 else val i) t k (i - k) = stAt ops val (putT t o.dst v1) (k + 1) (i - (k + 1)) := fun i hi => by
        rw [show i - k = (i - (k + 1)) + 1 by omega]
        simp only [stAt, if_true, hgd]
        exact hcongr _ _ _ _ _ _ (by omega)
      refine ⟨fun i => if i = k then v1 else val i, by rw [hst m hks]; exact h4, fun i a b hne hd => ?_, fun i a b hne hd => ?_, fun a b => ?_⟩
      · by_cases hik : i = k
        · subst hik
          simp only [Nat.sub_self, if_true]
          exact h1 hne hd
        · rw [hst i (by omega)]
          simp only [hik, if_false]
          exact h5 i (by omega) b hne hd
      · by_cases hik : i = k
        · subst hik
          simp only [Nat.sub_self, if_true]
          exact h2 hne hd
        · rw [hst i (by omega)]
          simp only [hik, if_false]
          exact h6 i (by omega) b hne hd
      · by_cases hek : e = k
        · subst hek
          simp only [Nat.sub_self, if_true]
          exact h3 rfl
        · rw [hst e (by omega)]
          simp only [hek, if_false]
          exact h7 (by omega) b
    unfold runYB
    cases hg : o.guard with
    | some g => exact .inl rfl
    | none =>
      dsimp only
      have hw : ∀ (Q : Exit → Act → World → Prop) (next : Act → World → Prop) (a : Act) (w : World), (o.wp P a w next Q → wpOp P ops Q k next a w) := fun Q next a w h => by
        simp only [wpOp, ho']
        rw [if_pos (by simp [Region.wanted, hg])]
        exact .inl h
      cases hbe : Nat.beq k e with
      | true =>
        have hke : k = e := Nat.eq_of_beq_eq_true hbe
        dsimp only
        split
        case isFalse => exact .inl rfl
        rename_i hok
        cases hop : o.op
        case call c =>
          dsimp only
          cases hcall : aCall c (evA t) with
          | none => exact .inl rfl
          | some x =>
            obtain ⟨g, args⟩ := x
            dsimp only
            cases hfn : P.funcs[g]? with
            | none => exact .inl rfl
            | some fn =>
              dsimp only
              cases hb : fn.body with
              | none => exact .inl rfl
              | some body =>
                dsimp only
                cases hname : (fn.name == "runtime.NumGoroutine") with
                | true => exact .inl rfl
                | false =>
                  dsimp only
                  rcases hT g args (roH H) nd (fun v H' nd' => match (Nat.blt H.length H'.length && lowB (H.length + 1) (getB H' H.length)) && (below (H.length + 1) v && (getB H' H.length).live) with
                    | true => runYB P T e d (k + 1) rest (putT t o.dst v) H (getB H' H.length) nd' K
                    | false => .fail) with h | ⟨v, H1, nd1, h1, h2⟩
                  · exact .inl h
                  rw [h1]
                  cases hc3 : (Nat.blt H.length H1.length && lowB (H.length + 1) (getB H1 H.length)) && (below (H.length + 1) v && (getB H1 H.length).live) with
                  | false => exact .inl rfl
                  | true =>
                    simp only [Bool.and_eq_true] at hc3
                    obtain ⟨⟨hlt, hlow⟩, hbl, hlv⟩ := hc3
                    dsimp only
                    rcases runYB_sound hT K hm rest (k + 1) (putT t o.dst v) (getB H1 H.length) nd1 hrest hks with h4 | ⟨t', B, nd', h4, h5⟩
                    · exact .inl h4
                    refine .inr ⟨t', B, nd', h4, fun hn => ?_⟩
                    obtain ⟨h6, hB, val, g1, g2, g3, g4⟩ := h5 hn
                    obtain ⟨h8, h9⟩ := h2 h6
                    have hB := hB (by omega)
                    subst hB
                    refine ⟨h8, fun h => by omega, fin (fun h => absurd hke h) (fun h => absurd hke h) (fun _ => ⟨⟨o, ho', fun σ w a Q next s r _ q => hw Q next a w ?_⟩, hlv⟩) g1 g2 g3 g4⟩
                    have hopd := opds_looks hok fun n hn => r n hn
                    obtain ⟨rargs, hra, hrun⟩ := call_run (w := w) (P := P) hop hcall hopd
                    show o.upon P a next Q ((execOp a.eval o).run P w)
                    rw [hrun, callFunc_enter hfn hb hname]
                    refine (h9 σ w rargs s.ro hra).mono ?_
                    rintro e w' ⟨rv, rfl, σ', e2, e3, e4⟩
                    obtain ⟨x, x1, x2, x3⟩ := s.made e3 e4 (blt_true hlt) hlow
                    exact q _ _ x (below_rel x1 (by simp [s.len]) hbl e2) x2 x3
        case buildSlice ty len parts =>
          dsimp only
          cases hbs : aBuildSlice P ty len (parts.toList.map fun x => (x.1, evA t x.2)) H with
          | none => exact .inl rfl
          | some x =>
            obtain ⟨v, H1, n1⟩ := x
            dsimp only
            rcases runYB_sound hT K hm rest (k + 1) (putT t o.dst v) (getB H1 H.length) (n1 ++ nd) hrest hks with h4 | ⟨t', B, nd', h4, h5⟩
            · exact .inl h4
            refine .inr ⟨t', B, nd', h4, fun hn => ?_⟩
            obtain ⟨h6, hB, val, g1, g2, g3, g4⟩ := h5 hn
            rw [allT_append, Bool.and_eq_true] at h6
            have hB := hB (by omega)
            subst hB
            obtain ⟨hH1, hlv⟩ := build_new hbs h6.1
            refine ⟨h6.2, fun h => by omega, fin (fun h => absurd hke h) (fun h => absurd hke h) (fun _ => ⟨⟨o, ho', fun σ w a Q next s r _ q => hw Q next a w ?_⟩, hlv⟩) g1 g2 g3 g4⟩
            have hopd := opds_looks hok fun n hn => r n hn
            have hp : (parts.toList.map fun x => (x.1, evA t x.2)).length = (parts.map fun (x : Nat × Operand) => (x.1, a.eval x.2)).toList.length ∧ ∀ (j : Nat) (p : Nat × AV) (q : Nat × Value),
                (parts.toList.map fun x => (x.1, evA t x.2))[j]? = some p → (parts.map fun (x : Nat × Operand) => (x.1, a.eval x.2)).toList[j]? = some q → p.1 = q.1 ∧ Rel σ p.2 q.2 := by
              refine ⟨by simp, fun j p q hp hq => ?_⟩
              simp only [List.getElem?_map, Array.getElem?_toList, Option.map_eq_some_iff] at hp
              obtain ⟨p0, hp0, rfl⟩ := hp
              simp only [Array.getElem?_toList, Array.getElem?_map, hp0, Option.map_some, Option.some.injEq] at hq
              subst hq
              refine ⟨rfl, hopd p0.2 ?_⟩
              simp [hop, Op.operands]
              exact ⟨p0.1, by have := Array.mem_of_getElem? hp0; simpa using this⟩
            obtain ⟨rv, w', h1, σ', e2, e3, e4⟩ := buildSlice_out hbs h6.1 s hp
            have hrun : (execOp a.eval o).run P w = .ok (.value rv) w' := by simp [execOp, hop, h1]
            have hl : σ'.length = σ.length + 1 := by rw [e3.len, hH1, s.len]; simp
            obtain ⟨x, hx⟩ := ext_snoc e4.ext hl
            subst hx
            rw [hH1] at e3 e4
            show o.upon P a next Q ((execOp a.eval o).run P w)
            rw [hrun]
            exact q _ _ x e2 e3 e4
        all_goals exact .inl rfl
      | false =>
        have hke : k ≠ e := fun h => by rw [h, Nat.beq_refl] at hbe; cases hbe
        dsimp only
        cases hdk : d k with
        | false =>
          dsimp only
          rcases stepQ_sound (H := H) hT o t nd (fun t nd => runYB P T e d (k + 1) rest t H B0 nd K) with h2 | ⟨v1, nd2, h2, h3⟩
          · exact .inl h2
          rw [h2]
          rcases runYB_sound hT K hm rest (k + 1) (putT t o.dst v1) B0 nd2 hrest hks with h4 | ⟨t', B, nd', h4, h5⟩
          · exact .inl h4
          refine .inr ⟨t', B, nd', h4, fun hn => ?_⟩
          obtain ⟨h6, hB, val, g1, g2, g3, g4⟩ := h5 hn
          obtain ⟨h8, hok, h9⟩ := h3 h6
          exact ⟨h8, fun h => hB (by omega), fin (fun _ _ => ⟨o, ho', fun σ w a Q next s r _ q => hw Q next a w (h9 σ w a Q next s (opds_looks hok fun n hn => r n hn) q)⟩) (fun _ h => by rw [hdk] at h; cases h) (fun h => absurd h hke) g1 g2 g3 g4⟩
        | true =>
          dsimp only
          cases hlt : Nat.blt e k with
          | false => exact .inl rfl
          | true =>
            dsimp only
            rcases stepQ_sound (H := H ++ [B0]) hT o t nd (fun t nd => runYB P T e d (k + 1) rest t H B0 nd K) with h2 | ⟨v1, nd2, h2, h3⟩
            · exact .inl h2
            rw [h2]
            rcases runYB_sound hT K hm rest (k + 1) (putT t o.dst v1) B0 nd2 hrest hks with h4 | ⟨t', B, nd', h4, h5⟩
            · exact .inl h4
            refine .inr ⟨t', B, nd', h4, fun hn => ?_⟩
            obtain ⟨h6, hB, val, g1, g2, g3, g4⟩ := h5 hn
            obtain ⟨h8, hok, h9⟩ := h3 h6
            have hek := blt_true hlt
            have hB' := hB (by omega)
            subst hB'
            exact ⟨h8, fun _ => rfl, fin (fun _ h => by rw [hdk] at h; cases h) (fun _ _ => ⟨o, ho', fun σ w a Q next s r _ q => hw Q next a w (h9 σ w a Q next s (opds_looks hok fun n hn => r n hn) q)⟩) (fun h => absurd h hke) g1 g2 g3 g4⟩
theorem box3_reach (hT : SoundT P T) (hf : P.follows .mixedOrders = true) (m e : Nat) (d : Nat → Bool) (hm : m ≤ ops.size) (hem : e < m) (hde : d e = true) (hok : drawOK ops m = true) (hbx : box2OK ops m e d = true) {id : Nat} {k : List Item} {t t' : List AV} {H H' : List AB} {nd : List Bool}
    (hlow : lowH H.length H = true)
    (h : (runYB P T e d 0 (ops.toList.take m) t H .dead [] fun t B nd => runOps P T ops (ops.toList.drop m) t (H ++ [B]) nd fun t H nd => .stop [] t H nd).sel = .stop [] t' H' nd) (hn : allT nd = true) : Reach P (.code (.region id ops true) :: k) t H k t' H' := by
  rcases runYB_sound (H := H) (ops := ops) (e := e) (d := d) hT (fun t B nd => runOps P T ops (ops.toList.drop m) t (H ++ [B]) nd fun t H nd => .stop [] t H nd) hm (ops.toList.take m) 0 t .dead [] (by simp) (Nat.zero_le _) with h1 | ⟨t1, B, nd1, h1, h2⟩
  · rw [h] at h1; cases h1
  rw [h1] at h
  rcases runOps_sound (ops := ops) hT (fun t H nd => .stop [] t H nd) (ops.toList.drop m) m t1 (H ++ [B]) nd1 rfl hm with h3 | ⟨t2, H2, nd2, h3, h4⟩
  · rw [h] at h3; cases h3
  rw [h] at h3
  cases h3
  obtain ⟨h5, ch⟩ := h4 hn
  obtain ⟨_, _, val, e2, e3, e4, e5⟩ := h2 h5
  rw [Nat.sub_zero] at e2
  rw [e2] at ch
  obtain ⟨hb, hlv⟩ := e5 (Nat.zero_le _) hem
  rw [Nat.sub_zero] at hb
  have hall := fun i (hi : i < m) => List.all_eq_true.1 hbx i (List.mem_range.2 hi)
  simp only [Bool.and_eq_true, Bool.or_eq_true, Bool.not_eq_true'] at hall
  refine region_reach fun σ w a Q s r q => wp_region_any hf ?_
  have hnl : ∀ i, ¬ Ls (Array.replicate ops.size false) i := fun i => by
    unfold Ls
    rw [Array.getD_eq_getD_getElem?]
    by_cases hi : i < ops.size
    · simp [hi]
    · simp [hi]
  have hsm : Same w { w with drawn := w.drawn + 1 } := Same.drew w
  refine any_box2 (val := val) (B := B) (d := d) hok hm hem hde (fun i hi hdi => ?_) hb (fun i hi hdi hne => ⟨?_, ?_⟩) (fun i hi hcs o ho n hn' k hk hdk => ?_) hlow hlv ch ops.size _ a _ σ H (by simp) (fun i o _ hl => absurd hl (hnl i)) ?_ (fun i _ => hnl i) (.inl ⟨rfl, rfl, hnl e⟩)
    (hsm.sim s) ?_ (fun x => ⟨fun i _ hl => absurd hl (hnl i), fun _ => r.getD x⟩) fun a' w' σ' r' d' s' f' => q a' w' σ' r' d' s' (hsm.fr.trans f')
  · have hne : i ≠ e := fun h => by rw [h, hde] at hdi; cases hdi
    have := e3 i (Nat.zero_le _) hi hne hdi
    rwa [Nat.sub_zero] at this
  · have := e4 i (Nat.zero_le _) hi hne hdi
    rwa [Nat.sub_zero] at this
  · rcases (hall i hi).1 with h | h | h
    · rw [hdi] at h; cases h
    · exact absurd (Nat.eq_of_beq_eq_true h) hne
    · exact h
  · have h0 := (hall i hi).2
    have hc : (d i && !Nat.beq i e) = false := by
      rcases hcs with h | h
      · rw [h]; rfl
      · rw [h, Nat.beq_refl]; simp
    rw [hc, ho] at h0
    have h1 := List.all_eq_true.1 (List.all_eq_true.1 h0 n hn') k (List.mem_range.2 hk)
    intro hg
    rw [hdk, hg] at h1
    simp at h1
  · have := List.length_filter_le (fun i => !(Array.replicate ops.size false).getD i false) (List.range ops.size)
    simp only [List.length_range] at this
    exact this
  · have := r.length; simpa using this.symm
end
end Go.Ax
