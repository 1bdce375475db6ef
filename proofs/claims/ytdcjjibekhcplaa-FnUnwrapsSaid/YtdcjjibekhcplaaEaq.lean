/- ComplementOf, of both sides: one answer. -/
import Derived.Test.YtdcjjibekhcplaaEai
import Derived.Test.YtdcjjibekhcplaaEao
import Derived.Test.YtdcjjibekhcplaaEap
namespace Go.Ax
open Go Go.Proofs

theorem isMaskB_re {n : Int} {X : Nat → Nat × Nat} : isMaskB n (reX X) = isMaskB n X := by
  unfold isMaskB
  rw [isWaveB_re]
  congr 1
end Go.Ax

/- spec.l03Behind: what of a wave is behind a mask. -/
namespace Go.Ax
open Go Go.Proofs

end Go.Ax

/- Floods: the beginnings. -/
namespace Go.Ax
open Go Go.Proofs

/-- Whether a wave is a mask. -/
noncomputable def gMaskU : List AV → Option (AV × List Bool)
  | [.agg l] => match ofW l with
    | some (n, X) => some (.b false (isMaskB n X), [])
    | none => none
  | _ => none
theorem maskU_at {f : FuncId} (h0 : ∀ n X H, CallOK Try.prog f [wv n X] H (.b false (isMaskB n X)) H) : SoundAt Try.prog f (pureT gMaskU) := fun args H nd K => by
  refine pureT_sound (fun args v n h hn H => ?_) args H nd K
  unfold gMaskU at h
  split at h <;> (try (cases h; done))
  split at h <;> cases h
  rename_i l _ n0 X0 hl
  exact (h0 n0 X0 H).deep (args' := [.agg l]) (by simp only [List.map_cons, ofW_spec hl])
noncomputable def rowsUf : List (FuncId × Table) := (29, pureT gMaskU) :: (121, pureT gMaskU) :: rowsUn
theorem rowsUf_at : allAt Try.prog rowsUf := ⟨maskU_at implIs_ok, maskU_at specIs_ok, rowsUn_at⟩
noncomputable def tabUf : Table := tabOf (cdeep Try.prog rowsUf [175] 4000 6)
theorem tabUf_sound : SoundT Try.prog tabUf := cdeep_sound (allAt_mem rowsUf_at) 6
noncomputable def sfC : Code := Try.f87.body.getD .skip
noncomputable def sf0 (n : Int) (xs : List Int) (s : Int) (X : Nat → Nat × Nat) (y x : Int) : Res := jupto Try.prog tabUf atLoop 200 [.code sfC] (.i false .i64 n :: .sl false 0 0 xs.length 1 :: wv s X :: .i false .i64 y :: .i false .i64 x :: undefs 185) (lb xs)
end Go.Ax

/- Regions of open order in which several variables are made among operations that leave memory alone. -/
namespace Go.Ax
open Go

section
variable {P : Program} {T : Table} {ops : Array Oper} {m : Nat}

/-- Memory with some of K new blocks made. -/
structure Boxed (σ : List (Nat × Nat)) (H : List AB) (K : Nat) (B : Nat → AB) (ps : Nat → Nat × Nat) (made : Nat → Prop) (w0 w : World) : Prop where
  s : Sim σ H w
  fr : Fr σ H w0 σ H w
  new : ∀ k, k < K → made k → w0.heap.size ≤ (ps k).1
  lt : ∀ k, k < K → made k → (ps k).1 < w.heap.size
  blk : ∀ k, k < K → made k → BlkRel σ (ps k).2 (B k) w.heap[(ps k).1]?
  ne : ∀ k k', k < K → k' < K → made k → made k' → (ps k).1 = (ps k').1 → k = k'
theorem Boxed.quiet {σ : List (Nat × Nat)} {H : List AB} {K : Nat} {B : Nat → AB} {ps : Nat → Nat × Nat} {made : Nat → Prop} {w0 w w' : World} (b : Boxed σ H K B ps made w0 w) (s0 : Sim σ H w0) (s' : Sim σ H w') (f : Fr σ H w σ H w') : Boxed σ H K B ps made w0 w' :=
  ⟨s', b.fr.trans f, b.new, fun k hk hm => Nat.lt_of_lt_of_le (b.lt k hk hm) f.size, fun k hk hm => by
    rw [f.old _ (b.lt k hk hm) fun i z hr hi => ?_]
    · exact b.blk k hk hm
    · have := s0.lt hi (rw_live hr)
      have := b.new k hk hm
      omega, b.ne⟩
theorem Boxed.weaken {σ : List (Nat × Nat)} {H : List AB} {K : Nat} {B : Nat → AB} {ps : Nat → Nat × Nat} {made made' : Nat → Prop} {w0 w : World} (b : Boxed σ H K B ps made w0 w) (h : ∀ k, k < K → made' k → made k) : Boxed σ H K B ps made' w0 w :=
  ⟨b.s, b.fr, fun k hk hm => b.new k hk (h k hk hm), fun k hk hm => b.lt k hk (h k hk hm), fun k hk hm => b.blk k hk (h k hk hm), fun k k' hk hk' hm hm' => b.ne k k' hk hk' (h k hk hm) (h k' hk' hm')⟩
theorem Boxed.made {σ : List (Nat × Nat)} {x : Nat × Nat} {H : List AB} {K : Nat} {B : Nat → AB} {ps : Nat → Nat × Nat} {made : Nat → Prop} {w0 w w' : World} (b : Boxed σ H K B ps made w0 w) (s0 : Sim σ H w0) (hlow : lowH H.length H = true) {k : Nat} (hBl : lowB H.length (B k) = true)
    (hlive : (B k).live = true) (s' : Sim (σ ++ [x]) (H ++ [B k]) w') (f : Fr σ H w (σ ++ [x]) (H ++ [B k]) w') (made' : Nat → Prop) (hmd : ∀ i, i < K → made' i → i = k ∨ (i ≠ k ∧ made i)) : Boxed σ H K B (fun i => if i = k then x else ps i) made' w0 w' := by
  have hlen : σ.length = H.length := b.s.len
  have hxB : (σ ++ [x])[σ.length]? = some x := by simp
  have hgB : getB (H ++ [B k]) σ.length = B k := by rw [getB_append_right (by omega), hlen, Nat.sub_self]; rfl
  have hg : ∀ {i : Nat} {p : Nat × Nat}, σ[i]? = some p → getB (H ++ [B k]) i = getB H i := fun h => getB_append_left (by rw [← hlen]; exact isSome_lt h)
  have hf : Fr σ H w σ H w' := ⟨f.os, f.tape, f.output, f.size, f.old, Ext.refl _, fun i b z h h' => (by rw [h'] at h; cases h), fun _ _ h => h⟩
  have q := b.quiet s0 (s'.less hlow) hf
  have hge : w.heap.size ≤ x.1 := by
    rcases f.new σ.length x.1 x.2 hxB (by simp) with h | ⟨j, z', hr, hj⟩
    · exact h
    · have := s'.inj j σ.length x.1 z' x.2 (Ext.append σ [x] _ _ hj) hxB (by rw [hg hj]; exact hr) (by rw [hgB]; exact hlive)
      have := isSome_lt hj
      omega
  have hlt : x.1 < w'.heap.size := s'.lt hxB (by rw [hgB]; exact hlive)
  refine ⟨q.s, q.fr, fun i hi hm => ?_, fun i hi hm => ?_, fun i hi hm => ?_, fun i j hi hj hm hm' he => ?_⟩
  · rcases hmd i hi hm with rfl | ⟨h1, h2⟩
    · rw [if_pos rfl]; exact Nat.le_trans b.fr.size hge
    · rw [if_neg h1]; exact q.new i hi h2
  · rcases hmd i hi hm with rfl | ⟨h1, h2⟩
    · rw [if_pos rfl]; exact hlt
    · rw [if_neg h1]; exact q.lt i hi h2
  · rcases hmd i hi hm with rfl | ⟨h1, h2⟩
    · rw [if_pos rfl]
      have := s'.blk σ.length x.1 x.2 hxB
      rw [hgB] at this
      exact low_blk (Ext.append σ [x]) hlen hBl this
    · rw [if_neg h1]; exact q.blk i hi h2
  · rcases hmd i hi hm with rfl | ⟨h1, h2⟩
    · rcases hmd j hj hm' with rfl | ⟨h3, h4⟩
      · rfl
      · rw [if_pos rfl, if_neg h3] at he
        have := b.lt j hj h4
        omega
    · rcases hmd j hj hm' with rfl | ⟨h3, h4⟩
      · rw [if_pos rfl, if_neg h1] at he
        have := b.lt i hi h2
        omega
      · rw [if_neg h1, if_neg h3] at he
        exact q.ne i j hi hj h2 h4 he
theorem getB_range (H : List AB) (K : Nat) (B : Nat → AB) {k : Nat} (hk : k < K) : getB (H ++ (List.range K).map B) (H.length + k) = B k := by
  have : ∀ (l : List AB) (n : Nat), getB l n = (l[n]?).getD .dead := fun l => by
    induction l with
    | nil => intro n; rfl
    | cons a l ih => intro n; cases n with
      | zero => rfl
      | succ n => simpa [getB] using ih n
  rw [this, List.getElem?_append_right (by omega)]
  simp [hk]
theorem range_get (σ : List (Nat × Nat)) (K : Nat) (ps : Nat → Nat × Nat) {k : Nat} (hk : k < K) : (σ ++ (List.range K).map ps)[σ.length + k]? = some (ps k) := by
  rw [List.getElem?_append_right (by omega)]
  simp [hk]
/-- All of them made. -/
theorem Boxed.all {σ : List (Nat × Nat)} {H : List AB} {K : Nat} {B : Nat → AB} {ps : Nat → Nat × Nat} {made : Nat → Prop} {w0 w : World} (b : Boxed σ H K B ps made w0 w) (s0 : Sim σ H w0) (hall : ∀ k, k < K → made k) :
    Sim (σ ++ (List.range K).map ps) (H ++ (List.range K).map B) w ∧ Fr σ H w0 (σ ++ (List.range K).map ps) (H ++ (List.range K).map B) w := by
  have hlen : σ.length = H.length := b.s.len
  have hext := Ext.append σ ((List.range K).map ps)
  have hcase : ∀ {i : Nat} {p : Nat × Nat}, (σ ++ (List.range K).map ps)[i]? = some p → (σ[i]? = some p ∧ i < σ.length) ∨ ∃ k, k < K ∧ i = σ.length + k ∧ p = ps k := fun {i p} h => by
    rcases Nat.lt_or_ge i σ.length with h' | h'
    · rw [List.getElem?_append_left h'] at h; exact .inl ⟨h, h'⟩
    · have hlt := isSome_lt h
      simp only [List.length_append, List.length_map, List.length_range] at hlt
      refine .inr ⟨i - σ.length, by omega, by omega, ?_⟩
      have he : i = σ.length + (i - σ.length) := by omega
      rw [he, range_get σ K ps (by omega)] at h
      cases h
      congr 1
  have hgl : ∀ {i : Nat}, i < σ.length → getB (H ++ (List.range K).map B) i = getB H i := fun h => getB_append_left (by omega)
  have hgr : ∀ {k : Nat}, k < K → getB (H ++ (List.range K).map B) (σ.length + k) = B k := fun h => by rw [hlen]; exact getB_range H K B h
  refine ⟨⟨by simp [hlen], fun i p z hi => ?_, fun i j p z z' hi hj hr hl => ?_⟩, b.fr.os, b.fr.tape, b.fr.output, b.fr.size, b.fr.old, hext, fun i p z hi hn => ?_, fun i hi hr => ?_⟩
  · rcases hcase hi with ⟨h1, h2⟩ | ⟨k, hk, rfl, h2⟩
    · rw [hgl h2]; exact (b.s.blk i p z h1).mono hext
    · rw [hgr hk]
      have := b.blk k hk (hall k hk)
      rw [← h2] at this
      exact this.mono hext
  · rcases hcase hi with ⟨h1, h2⟩ | ⟨k, hk, rfl, h2⟩
    · rcases hcase hj with ⟨h3, h4⟩ | ⟨k', hk', rfl, h4⟩
      · rw [hgl h2] at hr; rw [hgl h4] at hl
        exact b.s.inj i j p z z' h1 h3 hr hl
      · rw [hgl h2] at hr
        have h5 := s0.lt h1 (rw_live hr)
        have h6 := b.new k' hk' (hall k' hk')
        rw [← h4] at h6
        exact absurd h6 (Nat.not_le_of_lt h5)
    · rcases hcase hj with ⟨h3, h4⟩ | ⟨k', hk', rfl, h4⟩
      · rw [hgl h4] at hl
        have h5 := s0.lt h3 hl
        have h6 := b.new k hk (hall k hk)
        rw [← h2] at h6
        exact absurd h6 (Nat.not_le_of_lt h5)
      · rw [b.ne k k' hk hk' (hall k hk) (hall k' hk') (by rw [← h2, ← h4])]
  · rcases hcase hi with ⟨h1, h2⟩ | ⟨k, hk, rfl, h2⟩
    · rw [h1] at hn; cases hn
    · have := b.new k hk (hall k hk)
      rw [← h2] at this
      exact .inl this
  · rwa [hgl hi] at hr

/-! ### Their evaluation -/
end
end Go.Ax

/- Regions of open order in which several lists are made among operations that leave memory alone. -/
namespace Go.Ax
open Go

section
variable {P : Program} {T : Table} {ops : Array Oper} {m : Nat}

/-- A new list of a length, at the beginning of a block. -/
def MadeS (n : Nat) (p : Nat × Nat) (rv : Value) : Prop := ∃ cap, n ≤ cap ∧ 0 + cap * 1 ≤ p.2 ∧ rv = .slice (some ⟨p.1, 0, none⟩) n cap
theorem made_of {σ : List (Nat × Nat)} {l : Bool} {i n : Nat} {p : Nat × Nat} {rv : Value} (r : Rel σ (.sl l i 0 n 1) rv) (h : σ[i]? = some p) : MadeS n p rv := by
  rcases sl_cases r with ⟨_, g2, _⟩ | ⟨_, _, cap, g1, g2, g3, rfl⟩
  · cases g2
  · rw [h] at g1
    cases g1
    exact ⟨cap, g2, g3, rfl⟩
/-! ### Their evaluation -/
/-- What a maker makes, and where it stands. -/
structure MkR where
  B : AB
  l : Bool
  n : Nat
  e : Nat
instance : Inhabited MkR := ⟨⟨.dead, false, 0, 0⟩⟩
def makeL (P : Program) (op : Op) (ρ : Operand → AV) (H : List AB) : Option (AV × List AB × List Bool) :=
  match op with
  | .buildSlice _ _ _ => eop P op ρ H
  | .makeSlice _ _ _ => eop P op ρ H
  | _ => none
theorem make_new {t : TypeId} {a b : AV} {H H' : List AB} {v : AV} {nd : List Bool} (h : aMake P t a b H = some (v, H', nd)) (hnd : allT nd = true) : H' = H ++ [getB H' H.length] ∧ (getB H' H.length).live = true := by
  have e : ∀ (B : AB), getB (H ++ [B]) H.length = B := fun B => by rw [getB_append_right (Nat.le_refl _), Nat.sub_self]; rfl
  unfold aMake at h
  split at h <;> try (cases h; done)
  split at h <;> try (cases h; done)
  split at h
  · split at h <;> try (cases h; done)
    obtain ⟨rfl, rfl, _⟩ := consN_some h hnd
    rw [e]
    exact ⟨rfl, rfl⟩
  · obtain ⟨rfl, rfl, _⟩ := consN_some h hnd
    rw [e]
    exact ⟨rfl, rfl⟩
theorem makeL_new {op : Op} {ρ : Operand → AV} {H H' : List AB} {v : AV} {nd : List Bool} (h : makeL P op ρ H = some (v, H', nd)) (hnd : allT nd = true) : eop P op ρ H = some (v, H', nd) ∧ H' = H ++ [getB H' H.length] ∧ (getB H' H.length).live = true := by
  unfold makeL at h
  split at h
  · exact ⟨h, build_new h hnd⟩
  · exact ⟨h, make_new h hnd⟩
  · cases h
end
end Go.Ax

/- Regions of open order in which several lists are made, and their names are copied. -/
namespace Go.Ax
open Go

section
variable {P : Program} {T : Table} {ops : Array Oper} {m : Nat}

/-- An operation that copies what another one has made. -/
def CopyOp (P : Program) (ops : Array Oper) (i e tl : Nat) : Prop := ∃ o, ops[i]? = some o ∧ ∃ x, gDst ops e = some x ∧ x < tl ∧ ∀ (w : World) (a : Act) (Q : Exit → Act → World → Prop) (next : Act → World → Prop), next (a.put o.dst (a.tmps.getD x undef)) w → wpOp P ops Q i next a w
theorem any_boxes4 (hok : drawOK ops m = true) (hmn : m ≤ ops.size) {K : Nat} {E : Nat → Nat} {B : Nat → AB} {Lb : Nat → Bool} {N : Nat → Nat} {F : Nat → Option Nat} (hF : ∀ i k, F i = some k → k < K) (hFE : ∀ k, k < K → F (E k) = some k) (hE : ∀ k, k < K → E k < m) (hinj : ∀ k k', k < K → k' < K → E k = E k' → k = k') {t t' : List AV} {H H' : List AB} {val : Nat → AV}
    (hv : ∀ i, i < m → F i = none → QVal P ops i (stAt ops val t 0 i) H (val i)) (hb : ∀ k, k < K → BVal2 P ops (E k) (stAt ops val t 0 (E k)) H (.sl (Lb k) H.length 0 (N k) 1) (B k)) (hve : ∀ i k, F i = some k → val i = .sl (Lb k) (H.length + k) 0 (N k) 1) (hcp : ∀ i k, i < m → F i = some k → i ≠ E k → CopyOp P ops i (E k) t.length ∧ aheadOf ops 10 i (E k) = true)
    (hlk : ∀ i, i < m → (F i = none ∨ ∃ k, k < K ∧ E k = i) → ∀ o, ops[i]? = some o → ∀ n ∈ looks ops o, ∀ i' k, i' < m → F i' = some k → gDst ops i' ≠ some n) (hlow : lowH H.length H = true) (hlive : ∀ k, k < K → (B k).live = true ∧ lowB H.length (B k) = true)
    (c : Chain P ops m (stAt ops val t 0 m) (H ++ (List.range K).map B) ops.size t' H') {Q : Exit → Act → World → Prop} {σ : List (Nat × Nat)} {w0 : World} (s0 : Sim σ H w0) :
    ∀ (fuel : Nat) (listed : Array Bool) (a : Act) (w : World) (ps : Nat → Nat × Nat), listed.size = ops.size → Down ops listed →
      (left ops listed).length ≤ fuel → (∀ i, m ≤ i → ¬ Ls listed i) → Boxed σ H K B ps (fun k => Ls listed (E k)) w0 w → a.tmps.size = t.length →
      (∀ x, (∀ i, i < m → Ls listed i → gDst ops i = some x → x < t.length → (∀ k, F i = some k → MadeS (N k) (ps k) (a.tmps.getD x undef)) ∧ (F i = none → Rel σ (val i) (a.tmps.getD x undef))) ∧
        ((∀ i, i < m → Ls listed i → gDst ops i ≠ some x) → Rel σ (getL t x) (a.tmps.getD x undef))) →
      (∀ a' w' σ', RelL σ' t' a'.tmps.toList → a'.defers = a.defers → Sim σ' H' w' → Fr σ H w0 σ' H' w' → Q .normal a' w') → wpAny P .any ops Q fuel listed a w := by
  have hdist : ∀ i i', i < m → i' < m → i' ≠ i → ∀ x, gDst ops i = some x → gDst ops i' ≠ some x := fun i i' hi hi' hne x hx => by
    have hoi : ops[i]? = some ops[i] := Array.getElem?_eq_getElem (by omega)
    have hd : ops[i].dst = some x := by simpa [gDst, hoi] using hx
    exact ((drawOK_spec hok i _ hoi).2.1 hi).2 i' hi' hne x hd
  have htail : ∀ (fuel : Nat) (listed : Array Bool) (a : Act) (w : World) (ps : Nat → Nat × Nat), listed.size = ops.size → Down ops listed →
      (left ops listed).length ≤ fuel → (∀ i, m ≤ i → ¬ Ls listed i) → (∀ i, i < m → Ls listed i) → Boxed σ H K B ps (fun k => Ls listed (E k)) w0 w → a.tmps.size = t.length →
      (∀ x, (∀ i, i < m → Ls listed i → gDst ops i = some x → x < t.length → (∀ k, F i = some k → MadeS (N k) (ps k) (a.tmps.getD x undef)) ∧ (F i = none → Rel σ (val i) (a.tmps.getD x undef))) ∧
        ((∀ i, i < m → Ls listed i → gDst ops i ≠ some x) → Rel σ (getL t x) (a.tmps.getD x undef))) →
      (∀ a' w' σ', RelL σ' t' a'.tmps.toList → a'.defers = a.defers → Sim σ' H' w' → Fr σ H w0 σ' H' w' → Q .normal a' w') → wpAny P .any ops Q fuel listed a w := by
    intro fuel listed a w ps hsz hd hf hnm hall hbx hat hx q
    obtain ⟨sa, fa⟩ := hbx.all s0 fun k hk => hall _ (hE k hk)
    have hext : Ext σ (σ ++ (List.range K).map ps) := Ext.append σ _
    have hlen : σ.length = H.length := s0.len
    refine any_tail hok fuel listed m _ _ _ a w hsz hd hf (Nat.le_refl _) (fun i hi => ⟨fun h => ?_, fun h => hall i h⟩) c sa ?_ fun a2 w2 σ2 r2 d2 s2 f2 => q a2 w2 σ2 r2 d2 s2 (fa.trans f2)
    · rcases Nat.lt_or_ge i m with h' | h'
      · exact h'
      · exact absurd h (hnm i h')
    · refine RelL.of_get (by rw [stAt_length]; simpa using hat.symm) fun x b y hb hy => ?_
      have hxl : x < t.length := by
        rcases Nat.lt_or_ge x t.length with h' | h'
        · exact h'
        · rw [List.getElem?_eq_none (by rw [stAt_length]; exact h')] at hb; cases hb
      have hb' : b = getL (stAt ops val t 0 m) x := by
        rw [getL_some (by rw [stAt_length]; exact hxl)] at hb; cases hb; rfl
      have hy' : a.tmps.getD x undef = y := by
        have : a.tmps[x]? = some y := by simpa using hy
        rw [Array.getD_eq_getD_getElem?, this]; rfl
      subst hb'
      rw [← hy']
      by_cases hex : ∃ i, i < m ∧ gDst ops i = some x
      · obtain ⟨i, hi, hgi⟩ := hex
        rw [stAt_val ops val m 0 t i (by omega) (by omega) hgi hxl (fun i' _ h2 h3 => hdist i i' hi (by omega) h3 x hgi)]
        have h0 := (hx x).1 i hi (hall i hi) hgi hxl
        cases hfi : F i with
        | some k =>
          obtain ⟨cap, c1, c2, e⟩ := h0.1 k hfi
          rw [e, hve i k hfi, ← hlen]
          exact .sl (range_get σ K ps (hF i k hfi)) c1 c2
        | none => exact (h0.2 hfi).mono hext
      · have hno : ∀ i, i < m → gDst ops i ≠ some x := fun i hi hg => hex ⟨i, hi, hg⟩
        rw [stAt_untouched ops val m 0 t (fun i _ h2 => hno i (by omega))]
        exact ((hx x).2 fun i hi _ => hno i hi).mono hext
  intro fuel
  induction fuel with
  | zero =>
    intro listed a w ps hsz hd hf hnm hbx hat hx q
    refine htail 0 listed a w ps hsz hd hf hnm (fun i hi => ?_) hbx hat hx q
    apply Classical.byContradiction
    intro hn
    have : i ∈ left ops listed := mem_left.2 ⟨by omega, hn⟩
    have := List.length_pos_of_mem this
    omega
  | succ fuel ih =>
    intro listed a w ps hsz hd hf hnm hbx hat hx q
    by_cases hall : ∀ i, i < m → Ls listed i
    · exact htail _ listed a w ps hsz hd hf hnm hall hbx hat hx q
    refine ⟨fun hr => ?_, fun j hj => ?_⟩
    · exfalso
      apply hall
      intro i hi
      apply Classical.byContradiction
      intro hn
      obtain ⟨y, hy⟩ := ready_some hok hsz i (by omega) hn
      rw [hr] at hy; cases hy
    · obtain ⟨hnl, o, ho, hafter⟩ := (mem_ready' hsz).1 hj
      have hjs := (Array.getElem?_eq_some_iff.1 ho).1
      have hjm : j < m := by
        rcases Nat.lt_or_ge j m with h | h
        · exact h
        · exfalso
          apply hall
          intro i hi
          exact ahead_ready hd hsz hj ((drawOK_spec hok j o ho).2.2 h i (by omega))
      have hdst : gDst ops j = o.dst := by simp [gDst, ho]
      -- behind the operation
      have hnext : ∀ (ps2 : Nat → Nat × Nat) (rv : Value) (w' : World), Boxed σ H K B ps2 (fun k => Ls (listed.setIfInBounds j true) (E k)) w0 w' → (∀ k, k < K → E k ≠ j → Ls listed (E k) → ps2 k = ps k) →
          ((∀ k, F j = some k → MadeS (N k) (ps2 k) rv) ∧ (F j = none → Rel σ (val j) rv)) → wpAny P .any ops Q fuel (listed.setIfInBounds j true) (a.put o.dst rv) w' := fun ps2 rv w' hbx' hsame hrv => by
        refine ih (listed.setIfInBounds j true) (a.put o.dst rv) w' ps2 (by simpa using hsz) (hd.set hsz hj) ?_ (fun i hi => ?_) hbx' ?_ (fun x => ⟨fun i hi hli hgi hxl => ?_, fun hno => ?_⟩) fun a2 w2 σ3 r2 d2 s2 f2 => q a2 w2 σ3 r2 (d2.trans (put_defers _ _ _)) s2 f2
        · have := left_set hjs hsz hnl; omega
        · rw [Ls_set (by omega)]; rintro (rfl | h)
          · omega
          · exact hnm i hi h
        · cases o.dst <;> simp [Act.put, hat]
        · rw [Ls_set (by omega)] at hli
          by_cases hij : i = j
          · subst hij
            rw [hdst] at hgi
            rw [hgi]
            simp only [Act.put]
            rw [Array.getD_eq_getD_getElem?, Array.getElem?_setIfInBounds_self_of_lt (by omega)]
            exact hrv
          · have hne : o.dst ≠ some x := by rw [← hdst]; exact hdist i j hi hjm (Ne.symm hij) x hgi
            have : (a.put o.dst rv).tmps.getD x undef = a.tmps.getD x undef := by
              cases hod : o.dst with
              | none => rfl
              | some d =>
                have hdx : d ≠ x := fun e => hne (by rw [hod, e])
                simp [Act.put, Array.getD_eq_getD_getElem?, Array.getElem?_setIfInBounds_ne hdx]
            rw [this]
            have hl := hli.resolve_left hij
            have h0 := (hx x).1 i hi hl hgi hxl
            refine ⟨fun k hfk => ?_, h0.2⟩
            have hkK := hF i k hfk
            have hlE : Ls listed (E k) := by
              by_cases hie : i = E k
              · rw [← hie]; exact hl
              · exact ahead_listed hd hl (by omega) (hcp i k hi hfk hie).2
            rw [hsame k hkK (fun h => hnl (by rw [← h]; exact hlE)) hlE]
            exact h0.1 k hfk
        · have hne : o.dst ≠ some x := by rw [← hdst]; exact hno j hjm ((Ls_set (by omega)).2 (.inl rfl))
          have : (a.put o.dst rv).tmps.getD x undef = a.tmps.getD x undef := by
            cases hod : o.dst with
            | none => rfl
            | some d =>
              have hdx : d ≠ x := fun e => hne (by rw [hod, e])
              simp [Act.put, Array.getD_eq_getD_getElem?, Array.getElem?_setIfInBounds_ne hdx]
          rw [this]
          exact (hx x).2 fun i hi hli => hno i hi ((Ls_set (by omega)).2 (.inr hli))
      have hlook : (F j = none ∨ ∃ k, k < K ∧ E k = j) → ∀ n ∈ looks ops o, Rel σ (getL (stAt ops val t 0 j) n) (a.tmps.getD n undef) := fun hjq n hn => by
        by_cases hnl' : n < t.length
        · by_cases hex : ∃ i, i < m ∧ gDst ops i = some n
          · obtain ⟨i, hi, hgi⟩ := hex
            have hie : F i = none := by
              cases h : F i with
              | none => rfl
              | some k => exact absurd hgi (hlk j hjm hjq o ho n hn i k hi h)
            have hah := ((drawOK_spec hok j o ho).2.1 hjm).1 n hn i hi hgi
            have hil := ahead_ready hd hsz hj hah
            have hij : i < j := aheadOf_lt hok 10 j i hah
            rw [stAt_val ops val j 0 t i (by omega) (by omega) hgi hnl' (fun i' _ h2 h3 => hdist i i' hi (by omega) h3 n hgi)]
            exact ((hx n).1 i hi hil hgi hnl').2 hie
          · have hno : ∀ i, i < m → gDst ops i ≠ some n := fun i hi hg => hex ⟨i, hi, hg⟩
            rw [stAt_untouched ops val j 0 t (fun i _ h2 => hno i (by omega))]
            exact (hx n).2 fun i hi _ => hno i (by omega)
        · rw [getL_none (by rw [stAt_length]; omega)]
          have : a.tmps.getD n undef = undef := by
            rw [Array.getD_eq_getD_getElem?, Array.getElem?_eq_none (by omega)]; rfl
          rw [this]; exact .tup .nil
      by_cases hje : ∃ k, k < K ∧ E k = j
      · obtain ⟨k, hk, rfl⟩ := hje
        obtain ⟨o', ho', hbv⟩ := hb k hk
        rw [ho] at ho'; cases ho'
        refine hbv σ w a Q _ hbx.s (hlook (.inr ⟨k, hk, rfl⟩)) (by rw [stAt_length]; exact hat) fun rv w' x hrv s' f' => hnext (fun i => if i = k then x else ps i) rv w' (hbx.made s0 hlow (hlive k hk).2 (hlive k hk).1 s' f' _ fun i hiK hi => ?_) (fun i hi hne _ => ?_) ⟨fun i he => ?_, fun h => absurd (h.symm.trans (hFE k hk)) (by simp)⟩
        · by_cases hik : i = k
          · exact .inl hik
          · refine .inr ⟨hik, ?_⟩
            exact ((Ls_set (by omega)).1 hi).resolve_left fun h => hik (hinj i k hiK hk h)
        · rw [if_neg fun e => hne (by rw [e])]
        · have : i = k := by rw [hFE k hk] at he; cases he; rfl
          subst this
          rw [if_pos rfl]
          have h1 : (σ ++ [x])[H.length]? = some x := by rw [← s0.len]; simp
          exact made_of hrv h1
      · have hne : ∀ k, k < K → E k ≠ j := fun k hk he => hje ⟨k, hk, he⟩
        cases hfj : F j with
        | none =>
          obtain ⟨o', ho', hq⟩ := hv j hjm hfj
          rw [ho] at ho'; cases ho'
          refine hq σ w a Q _ hbx.s (hlook (.inl hfj)) (by rw [stAt_length]; exact hat) fun rv w' hrv s' f' => ?_
          exact hnext ps rv w' ((hbx.quiet s0 s' f').weaken fun k hk h => ((Ls_set (by omega)).1 h).resolve_left (hne k hk)) (fun _ _ _ _ => rfl) ⟨fun k he => (by rw [hfj] at he; cases he), fun _ => hrv⟩
        | some k =>
          have hkK := hF j k hfj
          obtain ⟨⟨o', ho', x, hx', hxl, hcw⟩, hah⟩ := hcp j k hjm hfj fun h => hne k hkK h.symm
          rw [ho] at ho'; cases ho'
          have hlE := ahead_ready hd hsz hj hah
          refine hcw w a Q _ ?_
          exact hnext ps (a.tmps.getD x undef) w (hbx.weaken fun k hk h => ((Ls_set (by omega)).1 h).resolve_left (hne k hk)) (fun _ _ _ _ => rfl)
            ⟨fun k' he => (by rw [hfj] at he; cases he; exact ((hx x).1 (E k) (hE k hkK) hlE hx' hxl).1 k (hFE k hkK)), fun h => (by rw [hfj] at h; cases h)⟩

end
end Go.Ax

/- Regions of open order in which several lists are made, and their names are copied: evaluation. -/
namespace Go.Ax
open Go

section
variable {P : Program} {T : Table} {ops : Array Oper} {m : Nat}

def CopyX (P : Program) (ops : Array Oper) (i x : Nat) : Prop := ∃ o, ops[i]? = some o ∧ ∀ (w : World) (a : Act) (Q : Exit → Act → World → Prop) (next : Act → World → Prop), next (a.put o.dst (a.tmps.getD x undef)) w → wpOp P ops Q i next a w
/-- Like 'runW'; some operations copy a value. -/
def runC (P : Program) (T : Table) (mk : Nat → Bool) (cp : Nat → Option Nat) : Nat → List Oper → List AV → List AB → List MkR → List Bool → (List AV → List MkR → List Bool → Res) → Res
  | _, [], t, _, Bs, nd, K => K t Bs nd
  | k, o :: rest, t, H, Bs, nd, K =>
    match o.guard with
    | some _ => .fail
    | none => match mk k with
      | true => if o.op.operands.all okOpd then
          match makeL P o.op (evA t) H with
          | some (.sl l i off n z, H', nd') => match Nat.beq i H.length && (Nat.beq off 0 && (Nat.beq z 1 && lowB H.length (getB H' H.length))) with
            | true => runC P T mk cp (k + 1) rest (putT t o.dst (.sl l (H.length + Bs.length) 0 n 1)) H (Bs ++ [⟨getB H' H.length, l, n, k⟩]) (nd' ++ nd) K
            | false => .fail
          | _ => .fail
        else .fail
      | false => match cp k with
        | none => stepQ P T o t H nd fun t nd => runC P T mk cp (k + 1) rest t H Bs nd K
        | some x => match o.op with
          | .assign (.tmp y) => match Nat.beq x y with
            | true => runC P T mk cp (k + 1) rest (putT t o.dst (getL t x)) H Bs nd K
            | false => .fail
          | _ => .fail
theorem runC_sound {H : List AB} {mk : Nat → Bool} {cp : Nat → Option Nat} (hT : SoundT P T) (K : List AV → List MkR → List Bool → Res) {m : Nat} (hm : m ≤ ops.size) : ∀ (l : List Oper) (k : Nat) (t : List AV) (Bs : List MkR) (nd : List Bool), l = (ops.toList.take m).drop k → k ≤ m → (runC P T mk cp k l t H Bs nd K).sel = .fail ∨
    ∃ t' Bs' nd', (runC P T mk cp k l t H Bs nd K).sel = (K t' Bs' nd').sel ∧ (allT nd' = true → allT nd = true ∧ (∀ j, j < Bs.length → Bs'[j]? = Bs[j]?) ∧ Bs.length ≤ Bs'.length ∧ ∃ val : Nat → AV, t' = stAt ops val t k (m - k) ∧
      (∀ i, k ≤ i → i < m → mk i = false → cp i = none → QVal P ops i (stAt ops val t k (i - k)) H (val i)) ∧ (∀ i x, k ≤ i → i < m → mk i = false → cp i = some x → val i = getL (stAt ops val t k (i - k)) x ∧ CopyX P ops i x) ∧
      (∀ j x, Bs.length ≤ j → Bs'[j]? = some x → k ≤ x.e ∧ x.e < m ∧ mk x.e = true ∧ val x.e = .sl x.l (H.length + j) 0 x.n 1 ∧ BVal2 P ops x.e (stAt ops val t k (x.e - k)) H (.sl x.l H.length 0 x.n 1) x.B ∧ x.B.live = true ∧ lowB H.length x.B = true) ∧
      (∀ i, k ≤ i → i < m → mk i = true → ∃ j x, Bs.length ≤ j ∧ Bs'[j]? = some x ∧ x.e = i) ∧
      (∀ j j' x x', Bs.length ≤ j → j < j' → Bs'[j]? = some x → Bs'[j']? = some x' → x.e < x'.e))
  | [], k, t, Bs, nd, hl, hk => by
    have : m ≤ k := by
      have := congrArg List.length hl
      simp at this; omega
    have : k = m := by omega
    subst this
    refine .inr ⟨t, Bs, nd, rfl, fun h => ⟨h, fun _ _ => rfl, Nat.le_refl _, fun _ => .any, by rw [Nat.sub_self]; rfl, fun i h1 h2 => by omega, fun i x h1 h2 => by omega, fun j x h1 h2 => ?_, fun i h1 h2 => by omega, fun j j' x x' h1 h2 h3 => ?_⟩⟩
    · rw [List.getElem?_eq_none h1] at h2; cases h2
    · rw [List.getElem?_eq_none h1] at h3; cases h3
  | o :: rest, k, t, Bs, nd, hl, hk => by
    obtain ⟨ho, hrest⟩ := drop_cons hl
    have hks : k < m := by
      rcases Nat.lt_or_ge k m with h' | h'
      · exact h'
      · rw [List.getElem?_eq_none (by simp; omega)] at ho; cases ho
    have ho' : ops[k]? = some o := by
      rw [List.getElem?_take_of_lt hks] at ho; simpa using ho
    have hgd : gDst ops k = o.dst := by simp [gDst, ho']
    have hcongr : ∀ (val : Nat → AV) (v : AV) (k n k' : Nat) (t : List AV), k < k' → stAt ops (fun i => if i = k then v else val i) t k' n = stAt ops val t k' n := by
      intro val v k n
      induction n with
      | zero => intros; rfl
      | succ n ihn => intro k' t hk; simp only [stAt]; rw [if_neg (by omega)]; exact ihn _ _ (by omega)
    have hst : ∀ (v1 : AV) (val : Nat → AV) i, k < i → stAt ops (fun i => if i = k then v1 else val i) t k (i - k) = stAt ops val (putT t o.dst v1) (k + 1) (i - (k + 1)) := fun v1 val i hi => by
      rw [show i - k = (i - (k + 1)) + 1 by omega]
      simp only [stAt, if_true, hgd]
      exact hcongr _ _ _ _ _ _ (by omega)
    have hw : ∀ (hg : o.guard = none) (Q : Exit → Act → World → Prop) (next : Act → World → Prop) (a : Act) (w : World), (o.wp P a w next Q → wpOp P ops Q k next a w) := fun hg Q next a w h => by
      simp only [wpOp, ho']
      rw [if_pos (by simp [Region.wanted, hg])]
      exact .inl h
    unfold runC
    cases hg : o.guard with
    | some g => exact .inl rfl
    | none =>
      dsimp only
      cases hmk : mk k with
      | true =>
        dsimp only
        split
        case isFalse => exact .inl rfl
        rename_i hok
        split
        case h_2 => exact .inl rfl
        rename_i l i off n z H1 n1 hmake
        cases hc : Nat.beq i H.length && (Nat.beq off 0 && (Nat.beq z 1 && lowB H.length (getB H1 H.length))) with
        | false => exact .inl rfl
        | true =>
          dsimp only
          simp only [Bool.and_eq_true] at hc
          obtain ⟨q1, q2, q3, q4⟩ := hc
          have q1 := Nat.eq_of_beq_eq_true q1
          have q2 := Nat.eq_of_beq_eq_true q2
          have q3 := Nat.eq_of_beq_eq_true q3
          subst q1; subst q2; subst q3
          rcases runC_sound hT K hm rest (k + 1) (putT t o.dst (.sl l (H.length + Bs.length) 0 n 1)) (Bs ++ [⟨getB H1 H.length, l, n, k⟩]) (n1 ++ nd) hrest hks with h4 | ⟨t', Bs', nd', h4, h5⟩
          · exact .inl h4
          refine .inr ⟨t', Bs', nd', h4, fun hn => ?_⟩
          obtain ⟨h6, p1, p2, val, g1, g2, g6, g3, g4, g5⟩ := h5 hn
          rw [allT_append, Bool.and_eq_true] at h6
          obtain ⟨he, hH1, hlv⟩ := makeL_new hmake h6.1
          have hnew : Bs'[Bs.length]? = some ⟨getB H1 H.length, l, n, k⟩ := by
            rw [p1 Bs.length (by simp)]
            simp
          have hlen : Bs.length + 1 ≤ Bs'.length := by simpa using p2
          refine ⟨h6.2, fun j hj => by rw [p1 j (by simp; omega), List.getElem?_append_left hj], by omega, fun i => if i = k then .sl l (H.length + Bs.length) 0 n 1 else val i, ?_, fun i a b hi hci => ?_, fun i x a b hi hci => ?_, fun j x a hx => ?_, fun i a b hi => ?_, fun j j' x x' a b hx hx' => ?_⟩
          · rw [hst _ _ m hks]; exact g1
          · have hik : i ≠ k := fun h => by rw [h, hmk] at hi; cases hi
            rw [hst _ _ i (by omega)]
            simp only [hik, if_false]
            exact g2 i (by omega) b hi hci
          · have hik : i ≠ k := fun h => by rw [h, hmk] at hi; cases hi
            rw [hst _ _ i (by omega)]
            simp only [hik, if_false]
            exact g6 i x (by omega) b hi hci
          · rcases Nat.eq_or_lt_of_le a with rfl | a
            · rw [hnew] at hx
              cases hx
              refine ⟨Nat.le_refl _, hks, hmk, by simp, ?_, hlv, q4⟩
              dsimp only
              rw [Nat.sub_self]
              refine ⟨o, ho', fun σ w a Q next s r _ q => hw hg Q next a w ?_⟩
              have hopd := opds_looks hok fun n hn => r n hn
              obtain ⟨rv, w', hrun, σ', e2, e3, e4⟩ := eop_out (w := w) (σ := σ) (H := H) (ρ := a.eval) he h6.1 s hopd
              have hl : σ'.length = σ.length + 1 := by rw [e3.len, hH1, s.len]; simp
              obtain ⟨x, hx⟩ := ext_snoc e4.ext hl
              subst hx
              rw [hH1] at e3 e4
              have e3' : Sim (σ ++ [x]) (H ++ [getB H1 H.length]) w' := by rw [hH1] at e3 ⊢; simpa using e3
              have e4' : Fr σ H w (σ ++ [x]) (H ++ [getB H1 H.length]) w' := by rw [hH1] at e4 ⊢; simpa using e4
              show o.upon P a next Q ((execOp a.eval o).run P w)
              rcases hrun with hrun | ⟨hrun, rfl⟩
              · rw [hrun]
                exact q _ _ x e2 e3' e4'
              · rcases sl_cases e2 with ⟨_, g2, _⟩ | ⟨_, _, _, _, _, _, g4⟩
                · cases g2
                · cases g4
            · obtain ⟨r1, r2, r3, r4, r5, r6, r7⟩ := g3 j x (by simp; omega) hx
              have hne : x.e ≠ k := by omega
              refine ⟨by omega, r2, r3, by simp only [hne, if_false]; exact r4, ?_, r6, r7⟩
              rw [hst _ _ x.e (by omega)]
              exact r5
          · rcases Nat.eq_or_lt_of_le a with rfl | a
            · exact ⟨Bs.length, _, Nat.le_refl _, hnew, rfl⟩
            · obtain ⟨j, x, j1, j2, j3⟩ := g4 i (by omega) b hi
              exact ⟨j, x, by simp at j1; omega, j2, j3⟩
          · rcases Nat.eq_or_lt_of_le a with rfl | a
            · rw [hnew] at hx
              cases hx
              have := (g3 j' x' (by simp; omega) hx').1
              dsimp only
              omega
            · exact g5 j j' x x' (by simp; omega) b hx hx'
      | false =>
        dsimp only
        cases hcp : cp k with
        | none =>
          dsimp only
          rcases stepQ_sound (H := H) hT o t nd (fun t nd => runC P T mk cp (k + 1) rest t H Bs nd K) with h2 | ⟨v1, nd2, h2, h3⟩
          · exact .inl h2
          rw [h2]
          rcases runC_sound hT K hm rest (k + 1) (putT t o.dst v1) Bs nd2 hrest hks with h4 | ⟨t', Bs', nd', h4, h5⟩
          · exact .inl h4
          refine .inr ⟨t', Bs', nd', h4, fun hn => ?_⟩
          obtain ⟨h6, p1, p2, val, g1, g2, g6, g3, g4, g5⟩ := h5 hn
          obtain ⟨h8, hok, h9⟩ := h3 h6
          refine ⟨h8, p1, p2, fun i => if i = k then v1 else val i, ?_, fun i a b hi hci => ?_, fun i x a b hi hci => ?_, fun j x a hx => ?_, fun i a b hi => ?_, g5⟩
          · rw [hst _ _ m hks]; exact g1
          · rcases Nat.eq_or_lt_of_le a with rfl | a
            · simp only [Nat.sub_self, if_true]
              exact ⟨o, ho', fun σ w a Q next s r _ q => hw hg Q next a w (h9 σ w a Q next s (opds_looks hok fun n hn => r n hn) q)⟩
            · rw [hst _ _ i a]
              have hik : i ≠ k := by omega
              simp only [hik, if_false]
              exact g2 i a b hi hci
          · rcases Nat.eq_or_lt_of_le a with rfl | a
            · rw [hcp] at hci; cases hci
            · rw [hst _ _ i a]
              have hik : i ≠ k := by omega
              simp only [hik, if_false]
              exact g6 i x a b hi hci
          · obtain ⟨r1, r2, r3, r4, r5, r6, r7⟩ := g3 j x a hx
            have hne : x.e ≠ k := by omega
            refine ⟨by omega, r2, r3, by simp only [hne, if_false]; exact r4, ?_, r6, r7⟩
            rw [hst _ _ x.e (by omega)]
            exact r5
          · have hik : i ≠ k := fun h => by rw [h, hmk] at hi; cases hi
            exact g4 i (by omega) b hi
        | some x =>
          dsimp only
          split
          case h_2 => exact .inl rfl
          rename_i y hop
          cases hxy : Nat.beq x y with
          | false => exact .inl rfl
          | true =>
            have hxy := Nat.eq_of_beq_eq_true hxy
            subst hxy
            dsimp only
            rcases runC_sound hT K hm rest (k + 1) (putT t o.dst (getL t x)) Bs nd hrest hks with h4 | ⟨t', Bs', nd', h4, h5⟩
            · exact .inl h4
            refine .inr ⟨t', Bs', nd', h4, fun hn => ?_⟩
            obtain ⟨h8, p1, p2, val, g1, g2, g6, g3, g4, g5⟩ := h5 hn
            refine ⟨h8, p1, p2, fun i => if i = k then getL t x else val i, ?_, fun i a b hi hci => ?_, fun i x' a b hi hci => ?_, fun j x a hx => ?_, fun i a b hi => ?_, g5⟩
            · rw [hst _ _ m hks]; exact g1
            · have hik : i ≠ k := fun h => by rw [h, hcp] at hci; cases hci
              rw [hst _ _ i (by omega)]
              simp only [hik, if_false]
              exact g2 i (by omega) b hi hci
            · rcases Nat.eq_or_lt_of_le a with rfl | a
              · rw [hcp] at hci
                cases hci
                simp only [Nat.sub_self, if_true]
                refine ⟨rfl, o, ho', fun w a Q next q => hw hg Q next a w ?_⟩
                show o.upon P a next Q ((execOp a.eval o).run P w)
                have hrun : (execOp a.eval o).run P w = .ok (.value (a.eval (.tmp x))) w := by simp [execOp, hop]
                rw [hrun]
                exact q
              · rw [hst _ _ i a]
                have hik : i ≠ k := by omega
                simp only [hik, if_false]
                exact g6 i x' a b hi hci
            · obtain ⟨r1, r2, r3, r4, r5, r6, r7⟩ := g3 j x a hx
              have hne : x.e ≠ k := by omega
              refine ⟨by omega, r2, r3, by simp only [hne, if_false]; exact r4, ?_, r6, r7⟩
              rw [hst _ _ x.e (by omega)]
              exact r5
            · have hik : i ≠ k := fun h => by rw [h, hmk] at hi; cases hi
              exact g4 i (by omega) b hi
/-- The temporary that a copy reads. -/
def cpOf (ops : Array Oper) (cs : Nat → Option Nat) (i : Nat) : Option Nat := match cs i with
  | some e => gDst ops e
  | none => none
/-- Copies come behind their makers; nothing else looks at what is made. -/
def boxes5OK (ops : Array Oper) (m tl : Nat) (mk : Nat → Bool) (cs : Nat → Option Nat) : Bool := (List.range m).all fun i => match mk i, cs i with
  | false, some e => mk e && (Nat.blt e m && (aheadOf ops 10 i e && (match gDst ops e with
    | some x => Nat.blt x tl
    | none => false)))
  | _, _ => match ops[i]? with
    | some o => (looks ops o).all fun n => (List.range m).all fun e => !((mk e || (cs e).isSome) && gDst ops e == some n)
    | none => false
theorem boxes5_reach (hT : SoundT P T) (hf : P.follows .mixedOrders = true) (m tl : Nat) (mk : Nat → Bool) (cs : Nat → Option Nat) (hm : m ≤ ops.size) (hok : drawOK ops m = true) (hbx : boxes5OK ops m tl mk cs = true) {id : Nat} {k : List Item} {t t' : List AV} {H H' : List AB} {nd : List Bool}
    (hlow : lowH H.length H = true) (htl : t.length = tl)
    (h : (runC P T mk (cpOf ops cs) 0 (ops.toList.take m) t H [] [] fun t Bs nd => runOps P T ops (ops.toList.drop m) t (H ++ Bs.map (·.B)) nd fun t H nd => .stop [] t H nd).sel = .stop [] t' H' nd) (hn : allT nd = true) : Reach P (.code (.region id ops true) :: k) t H k t' H' := by
  rcases runC_sound (H := H) (mk := mk) (cp := cpOf ops cs) (ops := ops) hT (fun t Bs nd => runOps P T ops (ops.toList.drop m) t (H ++ Bs.map (·.B)) nd fun t H nd => .stop [] t H nd) hm (ops.toList.take m) 0 t [] [] (by simp) (Nat.zero_le _) with h1 | ⟨t1, Bs, nd1, h1, h2⟩
  · rw [h] at h1; cases h1
  rw [h1] at h
  rcases runOps_sound (ops := ops) hT (fun t H nd => .stop [] t H nd) (ops.toList.drop m) m t1 (H ++ Bs.map (·.B)) nd1 rfl hm with h3 | ⟨t2, H2, nd2, h3, h4⟩
  · rw [h] at h3; cases h3
  rw [h] at h3
  cases h3
  obtain ⟨h5, ch⟩ := h4 hn
  obtain ⟨_, _, _, val, e2, g2, g6, g3, g4, g5⟩ := h2 h5
  rw [Nat.sub_zero] at e2
  rw [e2] at ch
  have hget : ∀ k, k < Bs.length → Bs[k]? = some (Bs.getD k default) := fun k hk => by simp [List.getD_eq_getElem?_getD, hk]
  have hmap : Bs.map (·.B) = (List.range Bs.length).map fun k => (Bs.getD k default).B := by
    apply List.ext_getElem?
    intro i
    rcases Nat.lt_or_ge i Bs.length with h' | h'
    · simp [h', List.getD_eq_getElem?_getD]
    · rw [List.getElem?_eq_none (by simpa using h'), List.getElem?_eq_none (by simpa using h')]
  rw [hmap] at ch
  have hall := fun i (hi : i < m) => List.all_eq_true.1 hbx i (List.mem_range.2 hi)
  have g3' := fun k (hk : k < Bs.length) => g3 k _ (Nat.zero_le _) (hget k hk)
  have hinj : ∀ k k', k < Bs.length → k' < Bs.length → (Bs.getD k default).e = (Bs.getD k' default).e → k = k' := fun k k' hk hk' he => by
    rcases Nat.lt_trichotomy k k' with hlt | hlt | hlt
    · have := g5 k k' _ _ (Nat.zero_le _) hlt (hget k hk) (hget k' hk')
      omega
    · exact hlt
    · have := g5 k' k _ _ (Nat.zero_le _) hlt (hget k' hk') (hget k hk)
      omega
  -- the maker of an operation
  let idx : Nat → Option Nat := fun e => open Classical in if hx : ∃ j, j < Bs.length ∧ (Bs.getD j default).e = e then some hx.choose else none
  have idx_some : ∀ {e k}, idx e = some k → k < Bs.length ∧ (Bs.getD k default).e = e := fun {e k} hk => by
    simp only [idx] at hk
    split at hk <;> cases hk
    rename_i hx
    exact hx.choose_spec
  have idx_E : ∀ k, k < Bs.length → idx (Bs.getD k default).e = some k := fun k hk => by
    have hx : ∃ j, j < Bs.length ∧ (Bs.getD j default).e = (Bs.getD k default).e := ⟨k, hk, rfl⟩
    simp only [idx]
    rw [dif_pos hx]
    exact congrArg some (hinj _ _ hx.choose_spec.1 hk hx.choose_spec.2)
  have idx_mk : ∀ e, e < m → mk e = true → ∃ k, idx e = some k := fun e he hme => by
    obtain ⟨j, x, _, j2, j3⟩ := g4 e (Nat.zero_le _) he hme
    have hj : j < Bs.length := by
      rcases Nat.lt_or_ge j Bs.length with h' | h'
      · exact h'
      · rw [List.getElem?_eq_none h'] at j2; cases j2
    rw [hget j hj] at j2
    cases j2
    exact ⟨j, by rw [← j3]; exact idx_E j hj⟩
  let F : Nat → Option Nat := fun i => if i < m then (match mk i, cs i with
    | true, _ => idx i
    | false, some e => idx e
    | false, none => none) else none
  have hcs : ∀ i e, i < m → mk i = false → cs i = some e → mk e = true ∧ e < m ∧ aheadOf ops 10 i e = true ∧ ∃ x, gDst ops e = some x ∧ x < tl := fun i e hi hmi hce => by
    have h1 := hall i hi
    rw [hmi, hce] at h1
    simp only [Bool.and_eq_true] at h1
    obtain ⟨a1, a2, a3, a4⟩ := h1
    refine ⟨a1, blt_true a2, a3, ?_⟩
    cases hg : gDst ops e with
    | none => rw [hg] at a4; cases a4
    | some x => rw [hg] at a4; exact ⟨x, rfl, blt_true a4⟩
  have hFm : ∀ i, i < m → mk i = true → F i = idx i := fun i hi hmi => by simp only [F, if_pos hi, hmi]
  have hFc : ∀ i e, i < m → mk i = false → cs i = some e → F i = idx e := fun i e hi hmi hce => by simp only [F, if_pos hi, hmi, hce]
  have hF0 : ∀ i, i < m → F i = none → mk i = false ∧ cs i = none := fun i hi hfi => by
    cases hmi : mk i with
    | true =>
      obtain ⟨k, hk⟩ := idx_mk i hi hmi
      rw [hFm i hi hmi, hk] at hfi; cases hfi
    | false =>
      cases hce : cs i with
      | none => exact ⟨rfl, rfl⟩
      | some e =>
        obtain ⟨a1, a2, _⟩ := hcs i e hi hmi hce
        obtain ⟨k, hk⟩ := idx_mk e a2 a1
        rw [hFc i e hi hmi hce, hk] at hfi; cases hfi
  have hFs : ∀ i k, F i = some k → i < m ∧ ((mk i = true ∧ idx i = some k) ∨ ∃ e, mk i = false ∧ cs i = some e ∧ idx e = some k) := fun i k hfi => by
    by_cases hi : i < m
    · refine ⟨hi, ?_⟩
      cases hmi : mk i with
      | true => rw [hFm i hi hmi] at hfi; exact .inl ⟨rfl, hfi⟩
      | false =>
        cases hce : cs i with
        | none => simp only [F, if_pos hi, hmi, hce] at hfi; cases hfi
        | some e => rw [hFc i e hi hmi hce] at hfi; exact .inr ⟨e, rfl, rfl, hfi⟩
    · simp only [F, if_neg hi] at hfi; cases hfi
  have hdist : ∀ i i', i < m → i' < m → i' ≠ i → ∀ x, gDst ops i = some x → gDst ops i' ≠ some x := fun i i' hi hi' hne x hx => by
    have hoi : ops[i]? = some ops[i] := Array.getElem?_eq_getElem (by omega)
    have hd : ops[i].dst = some x := by simpa [gDst, hoi] using hx
    exact ((drawOK_spec hok i _ hoi).2.1 hi).2 i' hi' hne x hd
  refine region_reach fun σ w a Q s r q => wp_region_any hf ?_
  have hnl : ∀ i, ¬ Ls (Array.replicate ops.size false) i := fun i => by
    unfold Ls
    rw [Array.getD_eq_getD_getElem?]
    by_cases hi : i < ops.size
    · simp [hi]
    · simp [hi]
  have hsm : Same w { w with drawn := w.drawn + 1 } := Same.drew w
  have sw := hsm.sim s
  refine any_boxes4 (K := Bs.length) (E := fun k => (Bs.getD k default).e) (B := fun k => (Bs.getD k default).B) (Lb := fun k => (Bs.getD k default).l) (N := fun k => (Bs.getD k default).n) (F := F) (val := val) hok hm (fun i k hfi => ?_) (fun k hk => ?_) (fun k hk => (g3' k hk).2.1) hinj (fun i hi hfi => ?_) (fun k hk => ?_) (fun i k hfi => ?_) (fun i k hi hfi hne => ?_) (fun i hi hor o ho n hn' i' k hi' hfk => ?_) hlow (fun k hk => (g3' k hk).2.2.2.2.2) ch sw ops.size _ a _ (fun _ => (0, 0)) (by simp) (fun i o _ hl => absurd hl (hnl i)) ?_ (fun i _ => hnl i)
    ⟨sw, Fr.refl _ _ _, fun k _ h => absurd h (hnl _), fun k _ h => absurd h (hnl _), fun k _ h => absurd h (hnl _), fun k k' _ _ h => absurd h (hnl _)⟩ ?_ (fun x => ⟨fun i _ hl => absurd hl (hnl i), fun _ => r.getD x⟩) fun a' w' σ' r' d' s' f' => q a' w' σ' r' d' s' (hsm.fr.trans f')
  · rcases (hFs i k hfi).2 with ⟨_, hx⟩ | ⟨e, _, _, hx⟩
    · exact (idx_some hx).1
    · exact (idx_some hx).1
  · have h1 := g3' k hk
    rw [hFm _ h1.2.1 h1.2.2.1]
    exact idx_E k hk
  · obtain ⟨a1, a2⟩ := hF0 i hi hfi
    have := g2 i (Nat.zero_le _) hi a1 (by unfold cpOf; rw [a2])
    rwa [Nat.sub_zero] at this
  · have := (g3' k hk).2.2.2.2.1
    rwa [Nat.sub_zero] at this
  · obtain ⟨hi, hor⟩ := hFs i k hfi
    rcases hor with ⟨_, hx⟩ | ⟨e, hmi, hce, hx⟩
    · obtain ⟨hk, he⟩ := idx_some hx
      have h1 := (g3' k hk).2.2.2.1
      rw [he] at h1
      exact h1
    · obtain ⟨hk, he⟩ := idx_some hx
      obtain ⟨_, a2, a3, x, a4, a5⟩ := hcs i e hi hmi hce
      have h1 := (g6 i x (Nat.zero_le _) hi hmi (by unfold cpOf; rw [hce]; exact a4)).1
      rw [Nat.sub_zero] at h1
      rw [h1, stAt_val ops val i 0 t e (by omega) (by have := aheadOf_lt hok 10 i e a3; omega) a4 (by omega) (fun i' _ h2 h3 => hdist e i' a2 (by omega) h3 x a4)]
      have h2 := (g3' k hk).2.2.2.1
      rw [he] at h2
      exact h2
  · obtain ⟨_, hor⟩ := hFs i k hfi
    rcases hor with ⟨_, hx⟩ | ⟨e, hmi, hce, hx⟩
    · exact absurd (idx_some hx).2.symm hne
    · obtain ⟨hk, he⟩ := idx_some hx
      obtain ⟨_, a2, a3, x, a4, a5⟩ := hcs i e hi hmi hce
      obtain ⟨_, o, ho, hcw⟩ := g6 i x (Nat.zero_le _) hi hmi (by unfold cpOf; rw [hce]; exact a4)
      rw [he]
      exact ⟨⟨o, ho, x, a4, by omega, hcw⟩, a3⟩
  · have hi1 := hall i hi
    have hor' : mk i = true ∨ cs i = none := by
      rcases hor with h | ⟨k, hk, he⟩
      · exact .inr (hF0 i hi h).2
      · have := (g3' k hk).2.2.1
        rw [he] at this
        exact .inl this
    have hmk' : (mk i' || (cs i').isSome) = true := by
      rcases (hFs i' k hfk).2 with ⟨h1, _⟩ | ⟨e, _, h1, _⟩
      · rw [h1]; rfl
      · rw [h1]; simp
    have key : ((looks ops o).all fun n => (List.range m).all fun e => !((mk e || (cs e).isSome) && gDst ops e == some n)) = true := by
      rcases hor' with h1 | h1
      · rw [h1, ho] at hi1; exact hi1
      · cases hmi : mk i with
        | true => rw [hmi, ho] at hi1; exact hi1
        | false => rw [hmi, h1, ho] at hi1; exact hi1
    have h1 := List.all_eq_true.1 (List.all_eq_true.1 key n hn') i' (List.mem_range.2 hi')
    intro h
    rw [h, hmk'] at h1
    simp at h1
  · have := List.length_filter_le (fun i => !(Array.replicate ops.size false).getD i false) (List.range ops.size)
    simp only [List.length_range] at this
    exact this
  · have := r.length; simpa using this.symm
end
end Go.Ax

/- spec.UnwrapFlood: up to its loop. -/
namespace Go.Ax
open Go Go.Proofs

theorem boxes5_way {P : Program} {T : Table} {ops : Array Oper} (hT : SoundT P T) (hf : P.follows .mixedOrders = true) (m tl : Nat) (mk : Nat → Bool) (cs : Nat → Option Nat) (hm : m ≤ ops.size) (hok : drawOK ops m = true) (hbx : boxes5OK ops m tl mk cs = true) {id : Nat} {k : List Item} {t t' : List AV} {H H' : List AB} {M nd : List Bool}
    (hlow : lowH H.length H = true) (htl : t.length = tl)
    (h : lfM M (runC P T mk (cpOf ops cs) 0 (ops.toList.take m) t H [] [] fun t Bs nd => runOps P T ops (ops.toList.drop m) t (H ++ Bs.map (·.B)) nd fun t H nd => .stop [] t H nd) = (true, [], t'.map AV.bare, H', nd)) (hn : allT nd = true) : Reach P (.code (.region id ops true) :: k) t H k t' H' := by
  simp only [lfM, Prod.mk.injEq] at h
  obtain ⟨a1, a2, a3, a4, a5⟩ := h
  have hs := Res.isStop_eq a1
  have hr := boxes5_reach (k := k) (id := id) hT hf m tl mk cs hm hok hbx (t := t) (H := H) hlow htl (t' := _) (H' := _) (nd := _) (by conv => { lhs; rw [hs] }; rw [a2]; rfl) (by rw [a5]; exact hn)
  rw [a4] at hr
  exact (hr.weak (blur_eqv M _)).weak (eqv_of_bare a3)
def maskB (s : Int) (X : Nat → Nat × Nat) : AB := .cells true (.lit (waveL s X))
/-- From the beginning to the open region. -/
noncomputable def sfA (n : Int) (N : Nat) (x0 : Nat → Int) (X : Nat → Nat × Nat) (y x : Int) : Res := jupto Try.prog tabUf (atReg 8) 200 [.code sfC] (.i true .i64 n :: .sl true 0 0 N 1 :: wvT true n X :: .i true .i64 y :: .i true .i64 x :: undefs 185) (lb (zXL N x0))
noncomputable def sfL : List Item := ((sfA 1 1 (fun _ => 0) (fun _ => (0, 0)) 0 0).at [false, false]).todo
theorem sfL_eq : sfL = .code (.region 8 (opsOf sfL) true) :: tlOf sfL := by kernel_rfl
def sfT (n : Int) (N : Nat) (y x : Int) : List AV := tmpsOf 190 [(0, .i true .i64 n), (1, .sl true 0 0 N 1), (3, .i true .i64 y), (4, .i true .i64 x), (7, .p true 1 0)]
def sfM : List Bool := maskOf 190 [(0, .any), (1, .any), (3, .any), (4, .any), (7, .any)]
def sfH (n : Int) (N : Nat) (x0 : Nat → Int) (X : Nat → Nat × Nat) : List AB := [.cells false (.ints .i64 (zXL N x0)), maskB n X]
def sfMk (i : Nat) : Bool := Nat.beq i 3 || (Nat.beq i 7 || Nat.beq i 13)
def sfCs (i : Nat) : Option Nat := match Nat.beq i 14 with
  | true => some 3
  | false => match Nat.beq i 15 with
    | true => some 7
    | false => none
theorem sf_reg : (Nat.ble 16 (opsOf sfL).size && (drawOK (opsOf sfL) 16 && boxes5OK (opsOf sfL) 16 190 sfMk sfCs)) = true := by kernel_rfl
noncomputable def sfB (n : Int) (N : Nat) (x0 : Nat → Int) (X : Nat → Nat × Nat) (y x : Int) : Res := runC Try.prog tabUf sfMk (cpOf (opsOf sfL) sfCs) 0 ((opsOf sfL).toList.take 16) (sfT n N y x) (sfH n N x0 X) [] [] fun t Bs nd => runOps Try.prog tabUf (opsOf sfL) ((opsOf sfL).toList.drop 16) t (sfH n N x0 X ++ Bs.map (·.B)) nd fun t H nd => .stop [] t H nd
/-- Behind the open region. -/
def sfT2 (n : Int) (N : Nat) (y x : Int) : List AV := tmpsOf 190 [(0, .i true .i64 n), (1, .sl true 0 0 N 1), (3, .i true .i64 y), (4, .i true .i64 x), (7, .p true 1 0), (13, .sl true 2 0 N 1), (14, .sl true 3 0 N 1), (15, .sl true 4 0 1 1)]
def sfM2 : List Bool := maskOf 190 [(0, .any), (1, .any), (3, .any), (4, .any), (7, .any), (13, .any), (14, .any), (15, .any)]
def sfH2 (n : Int) (N : Nat) (x0 : Nat → Int) (X : Nat → Nat × Nat) (p : Int) : List AB := sfH n N x0 X ++ [.cells true (.ints .i64 (List.replicate N 0)), .cells true (.lit (List.replicate N (.b true false))), .cells true (.lit [.i true .i64 p])]
noncomputable def sfD (n : Int) (N : Nat) (x0 : Nat → Int) (X : Nat → Nat × Nat) (y x : Int) : Res := cupto Try.prog tabUf atLoop 200 (tlOf sfL) (sfT2 n N y x) (sfH2 n N x0 X (n * y + x))
end Go.Ax
