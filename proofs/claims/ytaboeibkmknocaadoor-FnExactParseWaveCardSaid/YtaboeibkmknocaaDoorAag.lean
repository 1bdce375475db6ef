/- Regions of open order in which calls that write to one block (and follow each other) stand among operations that leave memory alone. -/
import Derived.Test.YtaboeibkmknocaaDoorAae
import Derived.Test.YtaboeibkmknocaaDoorAaf
import Derived.Below
namespace Go.Ax
open Go

section
variable {P : Program} {T : Table} {ops : Array Oper} {m : Nat}

/-- An operation of the one block that is written: its value, and memory behind it. -/
def EVal (P : Program) (ops : Array Oper) (k : Nat) (t : List AV) (H : List AB) (v : AV) (H1 : List AB) : Prop :=
  ∃ o, ops[k]? = some o ∧ ∀ (σ : List (Nat × Nat)) (w : World) (a : Act) (Q : Exit → Act → World → Prop) (next : Act → World → Prop), Sim σ H w →
    (∀ n ∈ looks ops o, Rel σ (getL t n) (a.tmps.getD n undef)) → a.tmps.size = t.length →
    (∀ rv w', Rel σ v rv → Sim σ H1 w' → Fr σ H w σ H1 w' → next (a.put o.dst rv) w') → wpOp P ops Q k next a w
theorem getB_setB {H : List AB} {src i : Nat} {B : AB} : getB (setB H src B) i = if i = src ∧ src < H.length then B else getB H i := by
  by_cases h : i = src
  · subst h
    by_cases h2 : i < H.length
    · rw [getB_setB_same h2, if_pos ⟨rfl, h2⟩]
    · rw [if_neg (fun e => h2 e.2)]
      have : ∀ (l : List AB) (n : Nat) (v : AB), l.length ≤ n → setB l n v = l := by
        intro l
        induction l with
        | nil => intros; rfl
        | cons a l ih => intro n v hn; cases n with
          | zero => simp at hn
          | succ n => simp only [setB]; rw [ih n v (by simpa using hn)]
      rw [this H i B (by omega)]
  · rw [getB_setB_ne (Ne.symm h), if_neg (fun e => h e.1)]
theorem QVal.alive {k src : Nat} {t : List AV} {G Hd : List AB} {v : AV} (h : QVal P ops k t Hd v) (e : setB G src .dead = Hd) (hrw : (getB G src).rw = true) : QVal P ops k t G v := by
  obtain ⟨o, ho, hq⟩ := h
  refine ⟨o, ho, fun σ w a Q next s r hsz q => ?_⟩
  subst e
  have hsl : src < G.length := by
    rcases Nat.lt_or_ge src G.length with h | h
    · exact h
    · rw [getB_none h] at hrw; cases hrw
  have sd : Sim σ (setB G src .dead) w := by
    refine ⟨by rw [setB_length]; exact s.len, fun i b z hb => ?_, fun i j b z z' hi hj hr hl => ?_, s.base.rw' (fun i hr => by
      rw [getB_setB] at hr
      split at hr
      · cases hr
      · exact hr)⟩
    · rw [getB_setB]
      split
      · trivial
      · exact s.blk i b z hb
    · rw [getB_setB] at hr hl
      split at hr
      · cases hr
      · split at hl
        · cases hl
        · exact s.inj i j b z z' hi hj hr hl
  refine hq σ w a Q next sd r hsz fun rv w' hr s' f' => q rv w' hr ?_ ?_
  · refine ⟨s.len, fun i b z hb => ?_, s.inj, fun g h9 => ⟨(s'.base g h9).1, (s.base g h9).2⟩⟩
    by_cases hi : i = src
    · subst hi
      have hlt := s.lt hb (rw_live hrw)
      rw [f'.old b hlt fun i' z' hr' hi' => ?_]
      · exact s.blk i b z hb
      · rw [getB_setB] at hr'
        split at hr'
        · cases hr'
        · rename_i hne
          exact hne ⟨s.inj i' i b z' z hi' hb hr' (rw_live hrw), hsl⟩
    · have := s'.blk i b z hb
      rwa [getB_setB, if_neg (fun e => hi e.1)] at this
  · refine ⟨f'.os, f'.tape, f'.output, f'.size, fun b hb hno => f'.old b hb fun i z hr' => ?_, Ext.refl _, fun i b z h h' => (by rw [h'] at h; cases h), fun _ _ h => h⟩
    rw [getB_setB] at hr'
    split at hr'
    · cases hr'
    · exact hno i z hr'

theorem any_mix (hok : drawOK ops m = true) (hmn : m ≤ ops.size) {t t' : List AV} {Hd H' : List AB} {val : Nat → AV} {eff : Nat → Bool} {mem : Nat → List AB} {src : Nat}
    (hq : ∀ i, i < m → eff i = false → QVal P ops i (stAt ops val t 0 i) Hd (val i) ∧ mem (i + 1) = mem i)
    (he : ∀ i, i < m → eff i = true → EVal P ops i (stAt ops val t 0 i) (mem i) (val i) (mem (i + 1)) ∧ ∀ k, k < i → eff k = true → aheadOf ops 10 i k = true)
    (hm : ∀ i, i ≤ m → setB (mem i) src .dead = Hd ∧ (getB (mem i) src).rw = true)
    (c : Chain P ops m (stAt ops val t 0 m) (mem m) ops.size t' H') {Q : Exit → Act → World → Prop} {σ : List (Nat × Nat)} :
    ∀ (fuel : Nat) (listed : Array Bool) (a : Act) (w : World) (k : Nat), listed.size = ops.size → Down ops listed →
      (left ops listed).length ≤ fuel → (∀ i, m ≤ i → ¬ Ls listed i) → k ≤ m → (∀ i, i < m → eff i = true → (Ls listed i ↔ i < k)) → Sim σ (mem k) w → a.tmps.size = t.length →
      (∀ x, (∀ i, i < m → Ls listed i → gDst ops i = some x → x < t.length → Rel σ (val i) (a.tmps.getD x undef)) ∧ ((∀ i, i < m → Ls listed i → gDst ops i ≠ some x) → Rel σ (getL t x) (a.tmps.getD x undef))) →
      (∀ a' w' σ', RelL σ' t' a'.tmps.toList → a'.defers = a.defers → Sim σ' H' w' → Fr σ (mem k) w σ' H' w' → Q .normal a' w') → wpAny P .any ops Q fuel listed a w := by
  have hdist : ∀ i i', i < m → i' < m → i' ≠ i → ∀ x, gDst ops i = some x → gDst ops i' ≠ some x := fun i i' hi hi' hne x hx => by
    have hoi : ops[i]? = some ops[i] := Array.getElem?_eq_getElem (by omega)
    have hd : ops[i].dst = some x := by simpa [gDst, hoi] using hx
    exact ((drawOK_spec hok i _ hoi).2.1 hi).2 i' hi' hne x hd
  -- memory stays where nothing of the one block comes between
  have hsame : ∀ (n k : Nat), k + n ≤ m → (∀ i, k ≤ i → i < k + n → eff i = false) → mem (k + n) = mem k := by
    intro n
    induction n with
    | zero => intros; rfl
    | succ n ih =>
      intro k hk hno
      rw [show k + (n + 1) = (k + n) + 1 by omega, (hq (k + n) (by omega) (hno _ (by omega) (by omega))).2]
      exact ih k (by omega) fun i h1 h2 => hno i h1 (by omega)
  have htail : ∀ (fuel : Nat) (listed : Array Bool) (a : Act) (w : World) (k : Nat), listed.size = ops.size → Down ops listed →
      (left ops listed).length ≤ fuel → (∀ i, m ≤ i → ¬ Ls listed i) → (∀ i, i < m → Ls listed i) → k ≤ m → (∀ i, i < m → eff i = true → (Ls listed i ↔ i < k)) → Sim σ (mem k) w → a.tmps.size = t.length →
      (∀ x, (∀ i, i < m → Ls listed i → gDst ops i = some x → x < t.length → Rel σ (val i) (a.tmps.getD x undef)) ∧ ((∀ i, i < m → Ls listed i → gDst ops i ≠ some x) → Rel σ (getL t x) (a.tmps.getD x undef))) →
      (∀ a' w' σ', RelL σ' t' a'.tmps.toList → a'.defers = a.defers → Sim σ' H' w' → Fr σ (mem k) w σ' H' w' → Q .normal a' w') → wpAny P .any ops Q fuel listed a w := by
    intro fuel listed a w k hsz hd hf hnm hall hkm hk s hat hx q
    have hmk : mem m = mem k := by
      have := hsame (m - k) k (by omega) fun i h1 h2 => by
        cases hei : eff i with
        | false => rfl
        | true => have := (hk i (by omega) hei).1 (hall i (by omega)); omega
      rwa [show k + (m - k) = m by omega] at this
    rw [← hmk] at s q
    refine any_tail hok fuel listed m _ (mem m) σ a w hsz hd hf (Nat.le_refl _) (fun i hi => ⟨fun h => ?_, fun h => hall i h⟩) c s ?_ q
    · rcases Nat.lt_or_ge i m with h' | h'
      · exact h'
      · exact absurd h (hnm i h')
    · refine RelL.of_get (by rw [stAt_length]; simpa using hat.symm) fun x b y hb hy => ?_
      have hxl : x < t.length := by
        rcases Nat.lt_or_ge x t.length with h' | h'
        · exact h'
        · rw [List.getElem?_eq_none (by rw [stAt_length]; exact h')] at hb; cases hb
      have hb' : b = getL (stAt ops val t 0 m) x := by
        rw [getL_some (by rw [stAt_length]; exact hxl)] at hb; cases hb; rfl
      have hy' : a.tmps.getD x undef = y := by
        have : a.tmps[x]? = some y := by simpa using hy
        rw [Array.getD_eq_getD_getElem?, this]; rfl
      subst hb'
      rw [← hy']
      by_cases hex : ∃ i, i < m ∧ gDst ops i = some x
      · obtain ⟨i, hi, hgi⟩ := hex
        rw [stAt_val ops val m 0 t i (by omega) (by omega) hgi hxl (fun i' _ h2 h3 => hdist i i' hi (by omega) h3 x hgi)]
        exact (hx x).1 i hi (hall i hi) hgi hxl
      · have hno : ∀ i, i < m → gDst ops i ≠ some x := fun i hi hg => hex ⟨i, hi, hg⟩
        rw [stAt_untouched ops val m 0 t (fun i _ h2 => hno i (by omega))]
        exact (hx x).2 fun i hi _ => hno i hi
  intro fuel
  induction fuel with
  | zero =>
    intro listed a w k hsz hd hf hnm hkm hk s hat hx q
    refine htail 0 listed a w k hsz hd hf hnm (fun i hi => ?_) hkm hk s hat hx q
    apply Classical.byContradiction
    intro hn
    have : i ∈ left ops listed := mem_left.2 ⟨by omega, hn⟩
    have := List.length_pos_of_mem this
    omega
  | succ fuel ih =>
    intro listed a w k hsz hd hf hnm hkm hk s hat hx q
    by_cases hall : ∀ i, i < m → Ls listed i
    · exact htail _ listed a w k hsz hd hf hnm hall hkm hk s hat hx q
    refine ⟨fun hr => ?_, fun j hj => ?_⟩
    · exfalso
      apply hall
      intro i hi
      apply Classical.byContradiction
      intro hn
      obtain ⟨y, hy⟩ := ready_some hok hsz i (by omega) hn
      rw [hr] at hy; cases hy
    · obtain ⟨hnl, o, ho, hafter⟩ := (mem_ready' hsz).1 hj
      have hjs := (Array.getElem?_eq_some_iff.1 ho).1
      have hjm : j < m := by
        rcases Nat.lt_or_ge j m with h | h
        · exact h
        · exfalso
          apply hall
          intro i hi
          exact ahead_ready hd hsz hj ((drawOK_spec hok j o ho).2.2 h i (by omega))
      have hdst : gDst ops j = o.dst := by simp [gDst, ho]
      have hlook : ∀ n ∈ looks ops o, Rel σ (getL (stAt ops val t 0 j) n) (a.tmps.getD n undef) := fun n hn => by
        by_cases hnl' : n < t.length
        · by_cases hex : ∃ i, i < m ∧ gDst ops i = some n
          · obtain ⟨i, hi, hgi⟩ := hex
            have hah := ((drawOK_spec hok j o ho).2.1 hjm).1 n hn i hi hgi
            have hil := ahead_ready hd hsz hj hah
            have him : i < m := hi
            have hij : i < j := aheadOf_lt hok 10 j i hah
            rw [stAt_val ops val j 0 t i (by omega) (by omega) hgi hnl' (fun i' _ h2 h3 => hdist i i' him (by omega) h3 n hgi)]
            exact (hx n).1 i him hil hgi hnl'
          · have hno : ∀ i, i < m → gDst ops i ≠ some n := fun i hi hg => hex ⟨i, hi, hg⟩
            rw [stAt_untouched ops val j 0 t (fun i _ h2 => hno i (by omega))]
            exact (hx n).2 fun i hi _ => hno i (by omega)
        · rw [getL_none (by rw [stAt_length]; omega)]
          have : a.tmps.getD n undef = undef := by
            rw [Array.getD_eq_getD_getElem?, Array.getElem?_eq_none (by omega)]; rfl
          rw [this]; exact .tup .nil
      -- behind the operation
      have hnext : ∀ (k' : Nat) (rv : Value) (w' : World), k' ≤ m → (∀ i, i < m → eff i = true → (Ls (listed.setIfInBounds j true) i ↔ i < k')) → Rel σ (val j) rv → Sim σ (mem k') w' → Fr σ (mem k) w σ (mem k') w' →
          wpAny P .any ops Q fuel (listed.setIfInBounds j true) (a.put o.dst rv) w' := fun k' rv w' hk'm hk' hrv s' f' => by
        refine ih (listed.setIfInBounds j true) (a.put o.dst rv) w' k' (by simpa using hsz) (hd.set hsz hj) ?_ (fun i hi => ?_) hk'm hk' s' ?_ (fun x => ⟨fun i hi hli hgi hxl => ?_, fun hno => ?_⟩) fun a2 w2 σ2 r2 d2 s2 f2 => q a2 w2 σ2 r2 (d2.trans (put_defers _ _ _)) s2 (f'.trans f2)
        · have := left_set hjs hsz hnl; omega
        · rw [Ls_set (by omega)]; rintro (rfl | h)
          · omega
          · exact hnm i hi h
        · cases o.dst <;> simp [Act.put, hat]
        · rw [Ls_set (by omega)] at hli
          by_cases hij : i = j
          · subst hij
            rw [hdst] at hgi
            rw [hgi]
            simp only [Act.put]
            rw [Array.getD_eq_getD_getElem?, Array.getElem?_setIfInBounds_self_of_lt (by omega)]
            exact hrv
          · have hne : o.dst ≠ some x := by rw [← hdst]; exact hdist i j hi hjm (Ne.symm hij) x hgi
            have : (a.put o.dst rv).tmps.getD x undef = a.tmps.getD x undef := by
              cases hod : o.dst with
              | none => rfl
              | some d =>
                have hdx : d ≠ x := fun e => hne (by rw [hod, e])
                simp [Act.put, Array.getD_eq_getD_getElem?, Array.getElem?_setIfInBounds_ne hdx]
            rw [this]
            exact (hx x).1 i hi (hli.resolve_left hij) hgi hxl
        · have hne : o.dst ≠ some x := by rw [← hdst]; exact hno j hjm ((Ls_set (by omega)).2 (.inl rfl))
          have : (a.put o.dst rv).tmps.getD x undef = a.tmps.getD x undef := by
            cases hod : o.dst with
            | none => rfl
            | some d =>
              have hdx : d ≠ x := fun e => hne (by rw [hod, e])
              simp [Act.put, Array.getD_eq_getD_getElem?, Array.getElem?_setIfInBounds_ne hdx]
          rw [this]
          exact (hx x).2 fun i hi hli => hno i hi ((Ls_set (by omega)).2 (.inr hli))
      cases hej : eff j with
      | false =>
        obtain ⟨o', ho', hqv⟩ := (hq j hjm hej).1.alive (hm k hkm).1 (hm k hkm).2
        rw [ho] at ho'; cases ho'
        refine hqv σ w a Q _ s hlook (by rw [stAt_length]; exact hat) fun rv w' hrv s' f' => hnext k rv w' hkm (fun i hi hei => ?_) hrv s' f'
        rw [Ls_set (by omega)]
        have hij : i ≠ j := fun e => by rw [e, hej] at hei; cases hei
        rw [← hk i hi hei]
        exact ⟨fun h => h.resolve_left hij, .inr⟩
      | true =>
        obtain ⟨hev, hahead⟩ := he j hjm hej
        have hkj : k ≤ j := by
          rcases Nat.lt_or_ge j k with h | h
          · exact absurd ((hk j hjm hej).2 h) hnl
          · exact h
        have hmj : mem j = mem k := by
          have := hsame (j - k) k (by omega) fun i h1 h2 => by
            cases hei : eff i with
            | false => rfl
            | true =>
              have := (hk i (by omega) hei).1 (ahead_ready hd hsz hj (hahead i (by omega) hei))
              omega
          rwa [show k + (j - k) = j by omega] at this
        obtain ⟨o', ho', hqv⟩ := hev
        rw [ho] at ho'; cases ho'
        rw [hmj] at hqv
        refine hqv σ w a Q _ s hlook (by rw [stAt_length]; exact hat) fun rv w' hrv s' f' => hnext (j + 1) rv w' (by omega) (fun i hi hei => ?_) hrv s' f'
        rw [Ls_set (by omega)]
        constructor
        · rintro (rfl | h)
          · omega
          · have := (hk i hi hei).1 h; omega
        · intro h
          by_cases hij : i = j
          · exact .inl hij
          · exact .inr (ahead_ready hd hsz hj (hahead i (by omega) hei))
end

/-! ### Their evaluation -/
def roBut (src : Nat) (H : List AB) : List AB := setB (roH H) src (getB H src)
theorem roBut_get (src : Nat) (H : List AB) (i : Nat) : getB (roBut src H) i = if i = src then getB H i else roB (getB H i) := by
  unfold roBut
  rw [getB_setB, roH_length, getB_roH]
  by_cases h : i = src
  · subst h
    rw [if_pos rfl]
    by_cases h2 : i < H.length
    · rw [if_pos ⟨rfl, h2⟩]
    · rw [if_neg (fun e => h2 e.2), getB_none (by omega)]; rfl
  · rw [if_neg (fun e => h e.1), if_neg h]
theorem Sim.roBut {σ : List (Nat × Nat)} {H : List AB} {w : World} (s : Sim σ H w) (src : Nat) : Sim σ (roBut src H) w := by
  have hl : ∀ j, (getB (Go.Ax.roBut src H) j).live = true → (getB H j).live = true := fun j h => by
    rw [roBut_get] at h
    split at h
    · exact h
    · cases hg : getB H j <;> rw [hg] at h
      · exact h
      · rfl
      · rfl
  have hrw : ∀ j, (getB (Go.Ax.roBut src H) j).rw = true → (getB H j).rw = true := fun j h => by
    rw [roBut_get] at h
    split at h
    · exact h
    · rw [roB_rw] at h; cases h
  refine ⟨by unfold Go.Ax.roBut; rw [setB_length, roH_length]; exact s.len, fun i b z hb => ?_, fun i j b z z' hi hj hr hlv => s.inj i j b z z' hi hj (hrw i hr) (hl j hlv), s.base.rw' hrw⟩
  rw [roBut_get]
  split
  · exact s.blk i b z hb
  · have := s.ro.blk i b z hb
    rwa [getB_roH] at this
/-- Back from a call that was given one block to write to. -/
theorem Sim.back_one {σ σ' : List (Nat × Nat)} {H H' : List AB} {w w' : World} {src : Nat} (s : Sim σ H w) (hrw : (getB H src).rw = true) (s' : Sim σ' H' w') (f : Fr σ (Go.Ax.roBut src H) w σ' H' w')
    (hlow : lowB H.length (getB H' src) = true) (hrw' : (getB H' src).rw = true) : Sim σ (setB H src (getB H' src)) w' ∧ Fr σ H w σ (setB H src (getB H' src)) w' := by
  have hsl : src < H.length := by
    rcases Nat.lt_or_ge src H.length with h | h
    · exact h
    · rw [getB_none h] at hrw; cases hrw
  have hold : ∀ b, b < w.heap.size → (∀ z, σ[src]? ≠ some (b, z)) → w'.heap[b]? = w.heap[b]? := fun b hb hno => f.old b hb fun i z hr hi => by
    rw [roBut_get] at hr
    split at hr
    · rename_i e; subst e; exact hno z hi
    · rw [roB_rw] at hr; cases hr
  have hkey : ∀ i, (getB (setB H src (getB H' src)) i).rw = (getB H i).rw ∧ (getB (setB H src (getB H' src)) i).live = (getB H i).live := fun i => by
    rw [getB_setB]
    split
    · rename_i e
      rw [e.1, hrw', hrw]
      exact ⟨rfl, by rw [rw_live hrw', rw_live hrw]⟩
    · exact ⟨rfl, rfl⟩
  refine ⟨⟨by rw [setB_length]; exact s.len, fun i b z hb => ?_, fun i j b z z' hi hj hr hl => s.inj i j b z z' hi hj (by rw [← (hkey i).1]; exact hr) (by rw [← (hkey j).2]; exact hl), fun g h9 => ⟨(s'.base g h9).1, fun i z hi => (by rw [(hkey i).1]; exact (s.base g h9).2 i z hi)⟩⟩, ?_⟩
  · rw [getB_setB]
    split
    · rename_i e
      have e1 := e.1
      subst e1
      exact low_blk f.ext s.len hlow (s'.blk i b z (f.ext i _ hb))
    · rename_i hne
      have hb0 := s.blk i b z hb
      cases hg : getB H i with
      | dead => trivial
      | cells r A =>
        rw [hg] at hb0
        have hlt := s.lt hb (by rw [hg]; rfl)
        rw [hold b hlt fun z' hs => hne ⟨(s.inj src i b z' z hs hb hrw (by rw [hg]; rfl)).symm, hsl⟩]
        exact hb0
      | code o0 xs0 =>
        rw [hg] at hb0
        have hlt := s.lt hb (by rw [hg]; rfl)
        rw [hold b hlt fun z' hs => hne ⟨(s.inj src i b z' z hs hb hrw (by rw [hg]; rfl)).symm, hsl⟩]
        exact hb0
  · exact ⟨f.os, f.tape, f.output, f.size, fun b hb hno => hold b hb fun z hs => hno src z hrw hs, Ext.refl _, fun i b z h h' => (by rw [h'] at h; cases h), fun i _ hr => by rwa [(hkey i).1] at hr⟩

def isEffCall (E : List FuncId) (o : Oper) : Bool :=
  match o.op with
  | .call c => match c.callee with
    | .value f => match f with
      | .func g => E.any (Nat.beq g)
      | _ => false
    | _ => false
  | .store _ _ _ => E.any (Nat.beq 0)
  | _ => false
def effAt (E : List FuncId) (ops : Array Oper) (i : Nat) : Bool :=
  match ops[i]? with
  | some o => isEffCall E o
  | none => false
def effOK (E : List FuncId) (ops : Array Oper) (m : Nat) : Bool := (List.range m).all fun j => !effAt E ops j || (List.range j).all fun i => !effAt E ops i || aheadOf ops 10 j i
section
variable (P : Program) (T : Table) (E : List FuncId) (src : Nat)
def runM : List Oper → List AV → List AB → List Bool → KT → Res
  | [], t, H, nd, K => K t H nd
  | o :: rest, t, H, nd, K =>
    match o.guard with
    | some _ => .fail
    | none => match isEffCall E o with
      | false => stepQ P T o t (setB H src .dead) nd fun t nd => runM rest t H nd K
      | true => if o.op.operands.all okOpd then
          match o.op with
          | .call c => match aCall c (evA t) with
            | some (g, args) => match P.funcs[g]? with
              | some fn => match fn.body with
                | some _ => match fn.name == "runtime.NumGoroutine" with
                  | true => .fail
                  | false => T g args (roBut src H) nd fun v H' nd' => match below H.length v && lowB H.length (getB H' src) && (getB H' src).rw with
                    | true => runM rest (putT t o.dst v) (setB H src (getB H' src)) nd' K
                    | false => .fail
                | none => .fail
              | none => .fail
            | none => .fail
          | .store ty x y => match eop P (.store ty x y) (evA t) (roBut src H) with
            | some (v, H', n) => match below H.length v && lowB H.length (getB H' src) && (getB H' src).rw with
              | true => runM rest (putT t o.dst v) (setB H src (getB H' src)) (n ++ nd) K
              | false => .fail
            | none => .fail
          | _ => .fail
        else .fail
end
inductive MChain (P : Program) (E : List FuncId) (ops : Array Oper) (src : Nat) (Hd : List AB) : Nat → List AV → List AB → Nat → List AV → List AB → Prop
  | nil {k : Nat} {t : List AV} {H : List AB} (hH : setB H src .dead = Hd) (hrw : (getB H src).rw = true) : MChain P E ops src Hd k t H k t H
  | q {k j : Nat} {t t' : List AV} {H H' : List AB} {v : AV} (he : effAt E ops k = false) (h : QVal P ops k t Hd v) (hH : setB H src .dead = Hd) (hrw : (getB H src).rw = true) (c : MChain P E ops src Hd (k + 1) (putT t (gDst ops k) v) H j t' H') : MChain P E ops src Hd k t H j t' H'
  | e {k j : Nat} {t t' : List AV} {H H1 H' : List AB} {v : AV} (he : effAt E ops k = true) (h : EVal P ops k t H v H1) (hH : setB H src .dead = Hd) (hrw : (getB H src).rw = true) (c : MChain P E ops src Hd (k + 1) (putT t (gDst ops k) v) H1 j t' H') : MChain P E ops src Hd k t H j t' H'
theorem MChain.vals {P : Program} {E : List FuncId} {ops : Array Oper} {src : Nat} {Hd : List AB} {k j : Nat} {t t' : List AV} {H H' : List AB} (c : MChain P E ops src Hd k t H j t' H') :
    ∃ (val : Nat → AV) (mem : Nat → List AB), k ≤ j ∧ t' = stAt ops val t k (j - k) ∧ mem k = H ∧ mem j = H' ∧ (∀ i, k ≤ i → i ≤ j → setB (mem i) src .dead = Hd ∧ (getB (mem i) src).rw = true) ∧
      ∀ i, k ≤ i → i < j → (effAt E ops i = false → QVal P ops i (stAt ops val t k (i - k)) Hd (val i) ∧ mem (i + 1) = mem i) ∧ (effAt E ops i = true → EVal P ops i (stAt ops val t k (i - k)) (mem i) (val i) (mem (i + 1))) := by
  have hcongr : ∀ (val : Nat → AV) (v : AV) (k n k' : Nat) (t : List AV), k < k' → stAt ops (fun i => if i = k then v else val i) t k' n = stAt ops val t k' n := by
    intro val v k n
    induction n with
    | zero => intros; rfl
    | succ n ihn => intro k' t hk; simp only [stAt]; rw [if_neg (by omega)]; exact ihn _ _ (by omega)
  have step : ∀ {k j : Nat} {t t' : List AV} {H H1 H' : List AB} {v : AV}, (setB H src .dead = Hd ∧ (getB H src).rw = true) →
      ((effAt E ops k = false → QVal P ops k t Hd v ∧ H1 = H) ∧ (effAt E ops k = true → EVal P ops k t H v H1)) →
      (∃ (val : Nat → AV) (mem : Nat → List AB), k + 1 ≤ j ∧ t' = stAt ops val (putT t (gDst ops k) v) (k + 1) (j - (k + 1)) ∧ mem (k + 1) = H1 ∧ mem j = H' ∧ (∀ i, k + 1 ≤ i → i ≤ j → setB (mem i) src .dead = Hd ∧ (getB (mem i) src).rw = true) ∧
        ∀ i, k + 1 ≤ i → i < j → (effAt E ops i = false → QVal P ops i (stAt ops val (putT t (gDst ops k) v) (k + 1) (i - (k + 1))) Hd (val i) ∧ mem (i + 1) = mem i) ∧ (effAt E ops i = true → EVal P ops i (stAt ops val (putT t (gDst ops k) v) (k + 1) (i - (k + 1))) (mem i) (val i) (mem (i + 1)))) →
      ∃ (val : Nat → AV) (mem : Nat → List AB), k ≤ j ∧ t' = stAt ops val t k (j - k) ∧ mem k = H ∧ mem j = H' ∧ (∀ i, k ≤ i → i ≤ j → setB (mem i) src .dead = Hd ∧ (getB (mem i) src).rw = true) ∧
        ∀ i, k ≤ i → i < j → (effAt E ops i = false → QVal P ops i (stAt ops val t k (i - k)) Hd (val i) ∧ mem (i + 1) = mem i) ∧ (effAt E ops i = true → EVal P ops i (stAt ops val t k (i - k)) (mem i) (val i) (mem (i + 1))) := by
    intro k j t t' H H1 H' v hH h ⟨val, mem, hle, e1, e2, e3, e4, e5⟩
    refine ⟨fun i => if i = k then v else val i, fun i => if i = k then H else mem i, by omega, ?_, by simp, by simp only []; rw [if_neg (by omega)]; exact e3, fun i h1 h2 => ?_, fun i h1 h2 => ?_⟩
    · rw [show j - k = (j - (k + 1)) + 1 by omega, e1]
      simp only [stAt, if_true]
      exact (hcongr _ _ _ _ _ _ (by omega)).symm
    · by_cases hik : i = k
      · simp only [hik, if_true]; exact hH
      · simp only [hik, if_false]; exact e4 i (by omega) h2
    · by_cases hik : i = k
      · subst hik
        simp only [Nat.sub_self, if_true, show ¬ i + 1 = i by omega, if_false, e2]
        exact h
      · have e6 : i - k = (i - (k + 1)) + 1 := by omega
        rw [e6]
        simp only [stAt, if_true, hik, if_false, show ¬ i + 1 = k by omega]
        rw [hcongr _ _ _ _ _ _ (by omega)]
        exact e5 i (by omega) h2
  induction c with
  | @nil k t H hH hrw => exact ⟨fun _ => .tup [], fun _ => H, Nat.le_refl _, (by rw [Nat.sub_self]; rfl), rfl, rfl, fun _ _ _ => ⟨hH, hrw⟩, fun i h1 h2 => by omega⟩
  | q he h hH hrw c ih => exact step ⟨hH, hrw⟩ ⟨fun _ => ⟨h, rfl⟩, fun h' => (by rw [he] at h'; cases h')⟩ ih
  | e he h hH hrw c ih => exact step ⟨hH, hrw⟩ ⟨fun h' => (by rw [he] at h'; cases h'), fun _ => h⟩ ih

section
variable {P : Program} {T : Table} {E : List FuncId} {src : Nat} {ops : Array Oper}
theorem runM_sound (hT : SoundT P T) (K : KT) {m : Nat} (hm : m ≤ ops.size) : ∀ (l : List Oper) (k : Nat) (t : List AV) (H Hd : List AB) (nd : List Bool), l = (ops.toList.take m).drop k → k ≤ m → setB H src .dead = Hd → (getB H src).rw = true →
    (runM P T E src l t H nd K).sel = .fail ∨ ∃ t' H' nd', (runM P T E src l t H nd K).sel = (K t' H' nd').sel ∧ (allT nd' = true → allT nd = true ∧ MChain P E ops src Hd k t H m t' H')
  | [], k, t, H, Hd, nd, hl, hk, hH, hrw => by
    have : m ≤ k := by
      have := congrArg List.length hl
      simp at this; omega
    have : k = m := by omega
    subst this
    exact .inr ⟨t, H, nd, rfl, fun h => ⟨h, .nil hH hrw⟩⟩
  | o :: rest, k, t, H, Hd, nd, hl, hk, hH, hrw => by
    obtain ⟨ho, hrest⟩ := drop_cons hl
    have hks : k < m := by
      rcases Nat.lt_or_ge k m with h' | h'
      · exact h'
      · rw [List.getElem?_eq_none (by simp; omega)] at ho; cases ho
    have ho' : ops[k]? = some o := by
      rw [List.getElem?_take_of_lt hks] at ho; simpa using ho
    have hgd : gDst ops k = o.dst := by simp [gDst, ho']
    unfold runM
    cases hg : o.guard with
    | some g => exact .inl rfl
    | none =>
      dsimp only
      have hw : ∀ (Q : Exit → Act → World → Prop) (next : Act → World → Prop) (a : Act) (w : World), (o.wp P a w next Q → wpOp P ops Q k next a w) := fun Q next a w h => by
        simp only [wpOp, ho']
        rw [if_pos (by simp [Region.wanted, hg])]
        exact .inl h
      cases he : isEffCall E o with
      | false =>
        have heff : effAt E ops k = false := by simp [effAt, ho', he]
        rcases stepQ_sound (H := setB H src .dead) hT o t nd (fun t nd => runM P T E src rest t H nd K) with h2 | ⟨v, nd2, h2, h3⟩
        · exact .inl h2
        rw [h2]
        rcases runM_sound hT K hm rest (k + 1) (putT t o.dst v) H Hd nd2 hrest hks hH hrw with h4 | ⟨t', H', nd', h4, h5⟩
        · exact .inl h4
        refine .inr ⟨t', H', nd', h4, fun hn => ?_⟩
        obtain ⟨h6, c⟩ := h5 hn
        obtain ⟨h8, hok, h9⟩ := h3 h6
        rw [← hgd] at c
        rw [hH] at h9
        exact ⟨h8, .q heff ⟨o, ho', fun σ w a Q next s r _ q => hw Q next a w (h9 σ w a Q next s (opds_looks hok fun n hn => r n hn) q)⟩ hH hrw c⟩
      | true =>
        have heff : effAt E ops k = true := by simp [effAt, ho', he]
        dsimp only
        split
        case isFalse => exact .inl rfl
        rename_i hok
        cases hop : o.op
        case call c =>
          dsimp only
          cases hcall : aCall c (evA t) with
          | none => exact .inl rfl
          | some x =>
            obtain ⟨g, args⟩ := x
            dsimp only
            cases hfn : P.funcs[g]? with
            | none => exact .inl rfl
            | some fn =>
              dsimp only
              cases hb : fn.body with
              | none => exact .inl rfl
              | some body =>
                dsimp only
                cases hname : (fn.name == "runtime.NumGoroutine") with
                | true => exact .inl rfl
                | false =>
                  dsimp only
                  rcases hT g args (roBut src H) nd (fun v H' nd' => match below H.length v && lowB H.length (getB H' src) && (getB H' src).rw with
                    | true => runM P T E src rest (putT t o.dst v) (setB H src (getB H' src)) nd' K
                    | false => .fail) with h | ⟨v, H1, nd1, h1, h2⟩
                  · exact .inl h
                  rw [h1]
                  cases hc3 : below H.length v && lowB H.length (getB H1 src) && (getB H1 src).rw with
                  | false => exact .inl rfl
                  | true =>
                    simp only [Bool.and_eq_true] at hc3
                    obtain ⟨⟨hbl, hlow⟩, hrw1⟩ := hc3
                    dsimp only
                    have hsl : src < H.length := by
                      rcases Nat.lt_or_ge src H.length with h | h
                      · exact h
                      · rw [getB_none h] at hrw; cases hrw
                    have hH1 : setB (setB H src (getB H1 src)) src .dead = Hd := by
                      rw [← hH]
                      have : ∀ (l : List AB) (n : Nat) (x y : AB), setB (setB l n x) n y = setB l n y := by
                        intro l
                        induction l with
                        | nil => intros; rfl
                        | cons a l ih => intro n x y; cases n with
                          | zero => rfl
                          | succ n => simp only [setB]; rw [ih]
                      exact this _ _ _ _
                    rcases runM_sound hT K hm rest (k + 1) (putT t o.dst v) (setB H src (getB H1 src)) Hd nd1 hrest hks hH1 (by rw [getB_setB_same hsl]; exact hrw1) with h4 | ⟨t', H', nd', h4, h5⟩
                    · exact .inl h4
                    refine .inr ⟨t', H', nd', h4, fun hn => ?_⟩
                    obtain ⟨h6, ch⟩ := h5 hn
                    obtain ⟨h8, h9⟩ := h2 h6
                    rw [← hgd] at ch
                    refine ⟨h8, .e heff ⟨o, ho', fun σ w a Q next s r _ q => hw Q next a w ?_⟩ hH hrw ch⟩
                    have hopd := opds_looks hok fun n hn => r n hn
                    obtain ⟨rargs, hra, hrun⟩ := call_run (w := w) (P := P) hop hcall hopd
                    show o.upon P a next Q ((execOp a.eval o).run P w)
                    rw [hrun, callFunc_enter hfn hb hname]
                    refine (h9 σ w rargs (s.roBut src) hra).mono ?_
                    rintro e w' ⟨rv, rfl, σ', e2, e3, e4⟩
                    obtain ⟨s', f'⟩ := s.back_one hrw e3 e4 hlow hrw1
                    exact q _ _ (below_rel e4.ext s.len hbl e2) s' f'
        case store ty x y =>
          dsimp only
          cases heop : eop P (.store ty x y) (evA t) (roBut src H) with
          | none => exact .inl rfl
          | some z =>
            obtain ⟨v, H1, n⟩ := z
            dsimp only
            cases hc3 : below H.length v && lowB H.length (getB H1 src) && (getB H1 src).rw with
            | false => exact .inl rfl
            | true =>
              simp only [Bool.and_eq_true] at hc3
              obtain ⟨⟨hbl, hlow⟩, hrw1⟩ := hc3
              dsimp only
              have hsl : src < H.length := by
                rcases Nat.lt_or_ge src H.length with h | h
                · exact h
                · rw [getB_none h] at hrw; cases hrw
              have hH1 : setB (setB H src (getB H1 src)) src .dead = Hd := by
                rw [← hH]
                have : ∀ (l : List AB) (n : Nat) (x y : AB), setB (setB l n x) n y = setB l n y := by
                  intro l
                  induction l with
                  | nil => intros; rfl
                  | cons a l ih => intro n x y; cases n with
                    | zero => rfl
                    | succ n => simp only [setB]; rw [ih]
                exact this _ _ _ _
              rcases runM_sound hT K hm rest (k + 1) (putT t o.dst v) (setB H src (getB H1 src)) Hd (n ++ nd) hrest hks hH1 (by rw [getB_setB_same hsl]; exact hrw1) with h4 | ⟨t', H', nd', h4, h5⟩
              · exact .inl h4
              refine .inr ⟨t', H', nd', h4, fun hn => ?_⟩
              obtain ⟨h6, ch⟩ := h5 hn
              rw [allT_append, Bool.and_eq_true] at h6
              rw [← hgd] at ch
              refine ⟨h6.2, .e heff ⟨o, ho', fun σ w a Q next s r _ q => hw Q next a w ?_⟩ hH hrw ch⟩
              have hopd := opds_looks hok fun n hn => r n hn
              rw [← hop] at heop
              obtain ⟨rv, w', e1, σ', e2, e3, e4⟩ := eop_out (ρ := a.eval) heop h6.1 (s.roBut src) hopd
              obtain ⟨s', f'⟩ := s.back_one hrw e3 e4 hlow hrw1
              have hrel := below_rel e4.ext s.len hbl e2
              show o.upon P a next Q ((execOp a.eval o).run P w)
              rcases e1 with e1 | ⟨e1, rfl⟩
              · rw [e1]; exact q _ _ hrel s' f'
              · rw [e1]; exact q _ _ hrel s' f'
        all_goals exact .inl rfl

/-- A region of the mixed kind. -/
theorem mix_reach (hT : SoundT P T) (hf : P.follows .mixedOrders = true) {m : Nat} (hm : m ≤ ops.size) (hok : drawOK ops m = true) (heff : effOK E ops m = true) {id : Nat} {k : List Item} {t t' : List AV} {H H' : List AB} {nd : List Bool} (hrw : (getB H src).rw = true)
    (h : (runM P T E src (ops.toList.take m) t H [] fun t H nd => runOps P T ops (ops.toList.drop m) t H nd fun t H nd => .stop [] t H nd).sel = .stop [] t' H' nd) (hn : allT nd = true) : Reach P (.code (.region id ops true) :: k) t H k t' H' := by
  rcases runM_sound (src := src) (E := E) (ops := ops) hT (fun t H nd => runOps P T ops (ops.toList.drop m) t H nd fun t H nd => .stop [] t H nd) hm (ops.toList.take m) 0 t H _ [] (by simp) (Nat.zero_le _) rfl hrw with h1 | ⟨t1, H1, nd1, h1, h2⟩
  · rw [h] at h1; cases h1
  rw [h1] at h
  rcases runOps_sound (ops := ops) hT (fun t H nd => .stop [] t H nd) (ops.toList.drop m) m t1 H1 nd1 rfl hm with h3 | ⟨t2, H2, nd2, h3, h4⟩
  · rw [h] at h3; cases h3
  rw [h] at h3
  cases h3
  obtain ⟨h5, ch⟩ := h4 hn
  obtain ⟨_, mc⟩ := h2 h5
  obtain ⟨val, mem, _, e1, e2, e3, e4, e5⟩ := mc.vals
  rw [Nat.sub_zero] at e1
  rw [e1, ← e3] at ch
  refine region_reach fun σ w a Q s r q => wp_region_any hf ?_
  have hnl : ∀ i, ¬ Ls (Array.replicate ops.size false) i := fun i => by
    unfold Ls
    rw [Array.getD_eq_getD_getElem?]
    by_cases hi : i < ops.size
    · simp [hi]
    · simp [hi]
  have hsm : Same w { w with drawn := w.drawn + 1 } := Same.drew w
  refine any_mix (eff := effAt E ops) hok hm (fun i hi hei => ?_) (fun i hi hei => ⟨?_, fun j hj hej => ?_⟩) (fun i hi => e4 i (Nat.zero_le _) hi) ch ops.size _ a _ 0 (by simp) (fun i o _ hl => absurd hl (hnl i)) ?_ (fun i _ => hnl i) (Nat.zero_le _) (fun i hi hei => ⟨fun h => absurd h (hnl i), fun h => by omega⟩)
    (by rw [e2]; exact hsm.sim s) ?_ (fun x => ⟨fun i _ hl => absurd hl (hnl i), fun _ => r.getD x⟩) fun a' w' σ' r' d' s' f' => q a' w' σ' r' d' s' (by rw [e2] at f'; exact hsm.fr.trans f')
  · have := (e5 i (Nat.zero_le _) hi).1 hei
    rwa [Nat.sub_zero] at this
  · have := (e5 i (Nat.zero_le _) hi).2 hei
    rwa [Nat.sub_zero] at this
  · unfold effOK at heff
    simp only [List.all_eq_true, List.mem_range, Bool.or_eq_true, Bool.not_eq_true'] at heff
    rcases heff i hi with h | h
    · rw [hei] at h; cases h
    · rcases h j hj with h | h
      · rw [hej] at h; cases h
      · exact h
  · have := List.length_filter_le (fun i => !(Array.replicate ops.size false).getD i false) (List.range ops.size)
    simp only [List.length_range] at this
    exact this
  · have := r.length; simpa using this.symm
end
end Go.Ax

/- Regions of open order in which one block is made among operations that leave memory alone. -/
namespace Go.Ax
open Go

section
variable {P : Program} {T : Table} {ops : Array Oper} {m e : Nat}

/-- The operation that makes a block. -/
def BVal (P : Program) (ops : Array Oper) (e : Nat) (H : List AB) (v : AV) (B : AB) : Prop :=
  ∃ o, ops[e]? = some o ∧ ∀ (σ : List (Nat × Nat)) (w : World) (a : Act) (Q : Exit → Act → World → Prop) (next : Act → World → Prop), Sim σ H w →
    (∀ rv w' x, Rel (σ ++ [x]) v rv → Sim (σ ++ [x]) (H ++ [B]) w' → Fr σ H w (σ ++ [x]) (H ++ [B]) w' → next (a.put o.dst rv) w') → wpOp P ops Q e next a w
theorem Sim.less {σ : List (Nat × Nat)} {x : Nat × Nat} {H : List AB} {B : AB} {w : World} (s : Sim (σ ++ [x]) (H ++ [B]) w) (hlow : lowH H.length H = true) : Sim σ H w := by
  have hlen : σ.length = H.length := by simpa using s.len
  have hx : ∀ {i : Nat} {p : Nat × Nat}, σ[i]? = some p → (σ ++ [x])[i]? = some p := fun h => Ext.append σ [x] _ _ h
  have hg : ∀ {i : Nat} {p : Nat × Nat}, σ[i]? = some p → getB (H ++ [B]) i = getB H i := fun h => getB_append_left (by rw [← hlen]; exact isSome_lt h)
  refine ⟨hlen, fun i b z hi => ?_, fun i j b z z' hi hj hr hl => s.inj i j b z z' (hx hi) (hx hj) (by rw [hg hi]; exact hr) (by rw [hg hj]; exact hl), fun g h9 => ⟨(s.base g h9).1, fun i z hi => (by rw [← hg hi]; exact (s.base g h9).2 i z (hx hi))⟩⟩
  have := s.blk i b z (hx hi)
  rw [hg hi] at this
  exact low_blk (Ext.append σ [x]) hlen (lowH_get hlow i) this
theorem Sim.more {σ : List (Nat × Nat)} {x : Nat × Nat} {H : List AB} {B : AB} {w w' : World} (s1 : Sim (σ ++ [x]) (H ++ [B]) w) (hl : B.live = true) (s' : Sim σ H w') (f : Fr σ H w σ H w') :
    Sim (σ ++ [x]) (H ++ [B]) w' ∧ Fr (σ ++ [x]) (H ++ [B]) w (σ ++ [x]) (H ++ [B]) w' := by
  have hlen : σ.length = H.length := s'.len
  have hx : ∀ {i : Nat} {p : Nat × Nat}, σ[i]? = some p → (σ ++ [x])[i]? = some p := fun h => Ext.append σ [x] _ _ h
  have hg : ∀ {i : Nat} {p : Nat × Nat}, σ[i]? = some p → getB (H ++ [B]) i = getB H i := fun h => getB_append_left (by rw [← hlen]; exact isSome_lt h)
  have hgB : getB (H ++ [B]) σ.length = B := by rw [getB_append_right (by omega), hlen, Nat.sub_self]; rfl
  have hxB : (σ ++ [x])[σ.length]? = some x := by simp
  refine ⟨⟨s1.len, fun i b z hi => ?_, s1.inj, fun g h9 => ⟨(s'.base g h9).1, (s1.base g h9).2⟩⟩, f.os, f.tape, f.output, f.size, fun b hb hno => f.old b hb fun i z hr hi => ?_, Ext.refl _, fun i b z h h' => (by rw [h'] at h; cases h), fun _ _ h => h⟩
  · rcases Nat.lt_or_ge i σ.length with h | h
    · have hi' : σ[i]? = some (b, z) := by rw [List.getElem?_append_left h] at hi; exact hi
      rw [hg hi']
      exact (s'.blk i b z hi').mono (Ext.append σ [x])
    · have hlt := isSome_lt hi
      simp only [List.length_append, List.length_cons, List.length_nil] at hlt
      have : i = σ.length := by omega
      subst this
      have hb := s1.lt hi (by rw [hgB]; exact hl)
      rw [f.old b hb fun i' z' hr' hi' => ?_]
      · exact s1.blk _ b z hi
      · have := s1.inj i' σ.length b z' z (hx hi') hi (by rw [hg hi']; exact hr') (by rw [hgB]; exact hl)
        have := isSome_lt hi'
        omega
  · exact hno i z (by rw [hg hi]; exact hr) (hx hi)

theorem any_box (hok : drawOK ops m = true) (hmn : m ≤ ops.size) (hem : e < m) {t t' : List AV} {H H' : List AB} {B : AB} {val : Nat → AV} (hv : ∀ i, i < m → i ≠ e → QVal P ops i (stAt ops val t 0 i) H (val i)) (hb : BVal P ops e H (val e) B)
    (hlk : ∀ i, i < m → i ≠ e → ∀ o, ops[i]? = some o → ∀ n ∈ looks ops o, gDst ops e ≠ some n) (hlow : lowH H.length H = true) (hlive : B.live = true)
    (c : Chain P ops m (stAt ops val t 0 m) (H ++ [B]) ops.size t' H') {Q : Exit → Act → World → Prop} {σ : List (Nat × Nat)} :
    ∀ (fuel : Nat) (listed : Array Bool) (a : Act) (w : World) (σ1 : List (Nat × Nat)) (H1 : List AB), listed.size = ops.size → Down ops listed →
      (left ops listed).length ≤ fuel → (∀ i, m ≤ i → ¬ Ls listed i) → ((σ1 = σ ∧ H1 = H ∧ ¬ Ls listed e) ∨ (∃ x, σ1 = σ ++ [x] ∧ H1 = H ++ [B] ∧ Ls listed e)) → Sim σ1 H1 w → a.tmps.size = t.length →
      (∀ x, (∀ i, i < m → Ls listed i → gDst ops i = some x → x < t.length → Rel (if i = e then σ1 else σ) (val i) (a.tmps.getD x undef)) ∧ ((∀ i, i < m → Ls listed i → gDst ops i ≠ some x) → Rel σ (getL t x) (a.tmps.getD x undef))) →
      (∀ a' w' σ', RelL σ' t' a'.tmps.toList → a'.defers = a.defers → Sim σ' H' w' → Fr σ1 H1 w σ' H' w' → Q .normal a' w') → wpAny P .any ops Q fuel listed a w := by
  have hdist : ∀ i i', i < m → i' < m → i' ≠ i → ∀ x, gDst ops i = some x → gDst ops i' ≠ some x := fun i i' hi hi' hne x hx => by
    have hoi : ops[i]? = some ops[i] := Array.getElem?_eq_getElem (by omega)
    have hd : ops[i].dst = some x := by simpa [gDst, hoi] using hx
    exact ((drawOK_spec hok i _ hoi).2.1 hi).2 i' hi' hne x hd
  have htail : ∀ (fuel : Nat) (listed : Array Bool) (a : Act) (w : World) (σ1 : List (Nat × Nat)) (H1 : List AB), listed.size = ops.size → Down ops listed →
      (left ops listed).length ≤ fuel → (∀ i, m ≤ i → ¬ Ls listed i) → (∀ i, i < m → Ls listed i) → ((σ1 = σ ∧ H1 = H ∧ ¬ Ls listed e) ∨ (∃ x, σ1 = σ ++ [x] ∧ H1 = H ++ [B] ∧ Ls listed e)) → Sim σ1 H1 w → a.tmps.size = t.length →
      (∀ x, (∀ i, i < m → Ls listed i → gDst ops i = some x → x < t.length → Rel (if i = e then σ1 else σ) (val i) (a.tmps.getD x undef)) ∧ ((∀ i, i < m → Ls listed i → gDst ops i ≠ some x) → Rel σ (getL t x) (a.tmps.getD x undef))) →
      (∀ a' w' σ', RelL σ' t' a'.tmps.toList → a'.defers = a.defers → Sim σ' H' w' → Fr σ1 H1 w σ' H' w' → Q .normal a' w') → wpAny P .any ops Q fuel listed a w := by
    intro fuel listed a w σ1 H1 hsz hd hf hnm hall hcase s hat hx q
    obtain ⟨x0, rfl, rfl, _⟩ : ∃ x, σ1 = σ ++ [x] ∧ H1 = H ++ [B] ∧ Ls listed e := by
      rcases hcase with ⟨_, _, h⟩ | h
      · exact absurd (hall e hem) h
      · exact h
    have hext : Ext σ (σ ++ [x0]) := Ext.append σ [x0]
    refine any_tail hok fuel listed m _ (H ++ [B]) (σ ++ [x0]) a w hsz hd hf (Nat.le_refl _) (fun i hi => ⟨fun h => ?_, fun h => hall i h⟩) c s ?_ q
    · rcases Nat.lt_or_ge i m with h' | h'
      · exact h'
      · exact absurd h (hnm i h')
    · refine RelL.of_get (by rw [stAt_length]; simpa using hat.symm) fun x b y hb hy => ?_
      have hxl : x < t.length := by
        rcases Nat.lt_or_ge x t.length with h' | h'
        · exact h'
        · rw [List.getElem?_eq_none (by rw [stAt_length]; exact h')] at hb; cases hb
      have hb' : b = getL (stAt ops val t 0 m) x := by
        rw [getL_some (by rw [stAt_length]; exact hxl)] at hb; cases hb; rfl
      have hy' : a.tmps.getD x undef = y := by
        have : a.tmps[x]? = some y := by simpa using hy
        rw [Array.getD_eq_getD_getElem?, this]; rfl
      subst hb'
      rw [← hy']
      by_cases hex : ∃ i, i < m ∧ gDst ops i = some x
      · obtain ⟨i, hi, hgi⟩ := hex
        rw [stAt_val ops val m 0 t i (by omega) (by omega) hgi hxl (fun i' _ h2 h3 => hdist i i' hi (by omega) h3 x hgi)]
        have := (hx x).1 i hi (hall i hi) hgi hxl
        split at this
        · exact this
        · exact this.mono hext
      · have hno : ∀ i, i < m → gDst ops i ≠ some x := fun i hi hg => hex ⟨i, hi, hg⟩
        rw [stAt_untouched ops val m 0 t (fun i _ h2 => hno i (by omega))]
        exact ((hx x).2 fun i hi _ => hno i hi).mono hext
  intro fuel
  induction fuel with
  | zero =>
    intro listed a w σ1 H1 hsz hd hf hnm hcase s hat hx q
    refine htail 0 listed a w σ1 H1 hsz hd hf hnm (fun i hi => ?_) hcase s hat hx q
    apply Classical.byContradiction
    intro hn
    have : i ∈ left ops listed := mem_left.2 ⟨by omega, hn⟩
    have := List.length_pos_of_mem this
    omega
  | succ fuel ih =>
    intro listed a w σ1 H1 hsz hd hf hnm hcase s hat hx q
    by_cases hall : ∀ i, i < m → Ls listed i
    · exact htail _ listed a w σ1 H1 hsz hd hf hnm hall hcase s hat hx q
    refine ⟨fun hr => ?_, fun j hj => ?_⟩
    · exfalso
      apply hall
      intro i hi
      apply Classical.byContradiction
      intro hn
      obtain ⟨y, hy⟩ := ready_some hok hsz i (by omega) hn
      rw [hr] at hy; cases hy
    · obtain ⟨hnl, o, ho, hafter⟩ := (mem_ready' hsz).1 hj
      have hjs := (Array.getElem?_eq_some_iff.1 ho).1
      have hjm : j < m := by
        rcases Nat.lt_or_ge j m with h | h
        · exact h
        · exfalso
          apply hall
          intro i hi
          exact ahead_ready hd hsz hj ((drawOK_spec hok j o ho).2.2 h i (by omega))
      have hdst : gDst ops j = o.dst := by simp [gDst, ho]
      -- behind the operation
      have hnext : ∀ (σ2 : List (Nat × Nat)) (H2 : List AB) (rv : Value) (w' : World), ((σ2 = σ ∧ H2 = H ∧ ¬ Ls (listed.setIfInBounds j true) e) ∨ (∃ x, σ2 = σ ++ [x] ∧ H2 = H ++ [B] ∧ Ls (listed.setIfInBounds j true) e)) → Rel (if j = e then σ2 else σ) (val j) rv →
          (∀ x, Ls listed e → Rel σ1 (val e) x → Rel σ2 (val e) x) → Sim σ2 H2 w' → Fr σ1 H1 w σ2 H2 w' → wpAny P .any ops Q fuel (listed.setIfInBounds j true) (a.put o.dst rv) w' := fun σ2 H2 rv w' hcase' hrv hkeep s' f' => by
        refine ih (listed.setIfInBounds j true) (a.put o.dst rv) w' σ2 H2 (by simpa using hsz) (hd.set hsz hj) ?_ (fun i hi => ?_) hcase' s' ?_ (fun x => ⟨fun i hi hli hgi hxl => ?_, fun hno => ?_⟩) fun a2 w2 σ3 r2 d2 s2 f2 => q a2 w2 σ3 r2 (d2.trans (put_defers _ _ _)) s2 (f'.trans f2)
        · have := left_set hjs hsz hnl; omega
        · rw [Ls_set (by omega)]; rintro (rfl | h)
          · omega
          · exact hnm i hi h
        · cases o.dst <;> simp [Act.put, hat]
        · rw [Ls_set (by omega)] at hli
          by_cases hij : i = j
          · subst hij
            rw [hdst] at hgi
            rw [hgi]
            simp only [Act.put]
            rw [Array.getD_eq_getD_getElem?, Array.getElem?_setIfInBounds_self_of_lt (by omega)]
            exact hrv
          · have hne : o.dst ≠ some x := by rw [← hdst]; exact hdist i j hi hjm (Ne.symm hij) x hgi
            have : (a.put o.dst rv).tmps.getD x undef = a.tmps.getD x undef := by
              cases hod : o.dst with
              | none => rfl
              | some d =>
                have hdx : d ≠ x := fun e => hne (by rw [hod, e])
                simp [Act.put, Array.getD_eq_getD_getElem?, Array.getElem?_setIfInBounds_ne hdx]
            rw [this]
            have hl := hli.resolve_left hij
            have h0 := (hx x).1 i hi hl hgi hxl
            by_cases hie : i = e
            · subst hie
              rw [if_pos rfl] at h0 ⊢
              exact hkeep _ hl h0
            · rw [if_neg hie] at h0 ⊢
              exact h0
        · have hne : o.dst ≠ some x := by rw [← hdst]; exact hno j hjm ((Ls_set (by omega)).2 (.inl rfl))
          have : (a.put o.dst rv).tmps.getD x undef = a.tmps.getD x undef := by
            cases hod : o.dst with
            | none => rfl
            | some d =>
              have hdx : d ≠ x := fun e => hne (by rw [hod, e])
              simp [Act.put, Array.getD_eq_getD_getElem?, Array.getElem?_setIfInBounds_ne hdx]
          rw [this]
          exact (hx x).2 fun i hi hli => hno i hi ((Ls_set (by omega)).2 (.inr hli))
      by_cases hje : j = e
      · subst hje
        obtain ⟨rfl, rfl, _⟩ : σ1 = σ ∧ H1 = H ∧ ¬ Ls listed j := by
          rcases hcase with h | ⟨_, _, _, h⟩
          · exact h
          · exact absurd h hnl
        obtain ⟨o', ho', hbv⟩ := hb
        rw [ho] at ho'; cases ho'
        exact hbv σ1 w a Q _ s fun rv w' x hrv s' f' => hnext (σ1 ++ [x]) (H1 ++ [B]) rv w' (.inr ⟨x, rfl, rfl, (Ls_set (by omega)).2 (.inl rfl)⟩) (by rw [if_pos rfl]; exact hrv) (fun _ h => absurd h hnl) s' f'
      · obtain ⟨o', ho', hq⟩ := hv j hjm hje
        rw [ho] at ho'; cases ho'
        have s0 : Sim σ H w := by
          rcases hcase with ⟨rfl, rfl, _⟩ | ⟨x, rfl, rfl, _⟩
          · exact s
          · exact s.less hlow
        have hLe : Ls (listed.setIfInBounds j true) e ↔ Ls listed e := by
          rw [Ls_set (by omega)]
          exact ⟨fun h => h.resolve_left fun h' => hje h'.symm, .inr⟩
        refine hq σ w a Q _ s0 (fun n hn => ?_) (by rw [stAt_length]; exact hat) fun rv w' hrv s' f' => ?_
        · by_cases hnl' : n < t.length
          · by_cases hex : ∃ i, i < m ∧ gDst ops i = some n
            · obtain ⟨i, hi, hgi⟩ := hex
              have hie : i ≠ e := fun h => hlk j hjm hje o ho n hn (by rw [← h]; exact hgi)
              have hah := ((drawOK_spec hok j o ho).2.1 hjm).1 n hn i hi hgi
              have hil := ahead_ready hd hsz hj hah
              have hij : i < j := aheadOf_lt hok 10 j i hah
              rw [stAt_val ops val j 0 t i (by omega) (by omega) hgi hnl' (fun i' _ h2 h3 => hdist i i' hi (by omega) h3 n hgi)]
              have := (hx n).1 i hi hil hgi hnl'
              rwa [if_neg hie] at this
            · have hno : ∀ i, i < m → gDst ops i ≠ some n := fun i hi hg => hex ⟨i, hi, hg⟩
              rw [stAt_untouched ops val j 0 t (fun i _ h2 => hno i (by omega))]
              exact (hx n).2 fun i hi _ => hno i (by omega)
          · rw [getL_none (by rw [stAt_length]; omega)]
            have : a.tmps.getD n undef = undef := by
              rw [Array.getD_eq_getD_getElem?, Array.getElem?_eq_none (by omega)]; rfl
            rw [this]; exact .tup .nil
        · rcases hcase with ⟨rfl, rfl, h⟩ | ⟨x, rfl, rfl, h⟩
          · exact hnext σ1 H1 rv w' (.inl ⟨rfl, rfl, by rw [hLe]; exact h⟩) (by rw [if_neg hje]; exact hrv) (fun _ _ h => h) s' f'
          · obtain ⟨s2, f2⟩ := s.more hlive s' f'
            exact hnext (σ ++ [x]) (H ++ [B]) rv w' (.inr ⟨x, rfl, rfl, by rw [hLe]; exact h⟩) (by rw [if_neg hje]; exact hrv) (fun _ _ h => h) s2 f2

/-! ### Their evaluation -/
/-- The first operations: the e-th makes a block that v points to, the others leave memory alone. -/
def runX (P : Program) (T : Table) (e : Nat) (v : AV) : Nat → List Oper → List AV → List AB → List Bool → (List AV → List Bool → Res) → Res
  | _, [], t, _, nd, K => K t nd
  | k, o :: rest, t, H, nd, K =>
    match o.guard with
    | some _ => .fail
    | none => match Nat.beq k e with
      | true => runX P T e v (k + 1) rest (putT t o.dst v) H nd K
      | false => stepQ P T o t H nd fun t nd => runX P T e v (k + 1) rest t H nd K
theorem runX_sound {H : List AB} {v : AV} (hT : SoundT P T) (K : List AV → List Bool → Res) {m : Nat} (hm : m ≤ ops.size) : ∀ (l : List Oper) (k : Nat) (t : List AV) (nd : List Bool), l = (ops.toList.take m).drop k → k ≤ m → (runX P T e v k l t H nd K).sel = .fail ∨
    ∃ t' nd', (runX P T e v k l t H nd K).sel = (K t' nd').sel ∧ (allT nd' = true → allT nd = true ∧ ∃ val : Nat → AV, (k ≤ e → e < m → val e = v) ∧ t' = stAt ops val t k (m - k) ∧ ∀ i, k ≤ i → i < m → i ≠ e → QVal P ops i (stAt ops val t k (i - k)) H (val i))
  | [], k, t, nd, hl, hk => by
    have : m ≤ k := by
      have := congrArg List.length hl
      simp at this; omega
    have : k = m := by omega
    subst this
    exact .inr ⟨t, nd, rfl, fun h => ⟨h, fun _ => v, fun _ _ => rfl, by rw [Nat.sub_self]; rfl, fun i h1 h2 => by omega⟩⟩
  | o :: rest, k, t, nd, hl, hk => by
    obtain ⟨ho, hrest⟩ := drop_cons hl
    have hks : k < m := by
      rcases Nat.lt_or_ge k m with h' | h'
      · exact h'
      · rw [List.getElem?_eq_none (by simp; omega)] at ho; cases ho
    have ho' : ops[k]? = some o := by
      rw [List.getElem?_take_of_lt hks] at ho; simpa using ho
    have hgd : gDst ops k = o.dst := by simp [gDst, ho']
    have hcongr : ∀ (val : Nat → AV) (v : AV) (k n k' : Nat) (t : List AV), k < k' → stAt ops (fun i => if i = k then v else val i) t k' n = stAt ops val t k' n := by
      intro val v k n
      induction n with
      | zero => intros; rfl
      | succ n ihn => intro k' t hk; simp only [stAt]; rw [if_neg (by omega)]; exact ihn _ _ (by omega)
    have fin : ∀ {t' : List AV} {v1 : AV} {val : Nat → AV}, (k = e → v1 = v) → (k ≠ e → QVal P ops k t H v1) → (k + 1 ≤ e → e < m → val e = v) → t' = stAt ops val (putT t o.dst v1) (k + 1) (m - (k + 1)) → (∀ i, k + 1 ≤ i → i < m → i ≠ e → QVal P ops i (stAt ops val (putT t o.dst v1) (k + 1) (i - (k + 1))) H (val i)) →
        ∃ val : Nat → AV, (k ≤ e → e < m → val e = v) ∧ t' = stAt ops val t k (m - k) ∧ ∀ i, k ≤ i → i < m → i ≠ e → QVal P ops i (stAt ops val t k (i - k)) H (val i) := fun {t' v1 val} h1 h2 h3 h4 h5 => by
      refine ⟨fun i => if i = k then v1 else val i, fun a b => ?_, ?_, fun i a b hne => ?_⟩
      · dsimp only
        by_cases hek : e = k
        · rw [if_pos hek]; exact h1 hek.symm
        · rw [if_neg hek]; exact h3 (by omega) b
      · rw [show m - k = (m - (k + 1)) + 1 by omega, h4]
        simp only [stAt, if_true, hgd]
        exact (hcongr _ _ _ _ _ _ (by omega)).symm
      · by_cases hik : i = k
        · subst hik
          simp only [Nat.sub_self, if_true]
          exact h2 hne
        · rw [show i - k = (i - (k + 1)) + 1 by omega]
          simp only [stAt, if_true, hik, if_false, hgd]
          rw [hcongr _ _ _ _ _ _ (by omega)]
          exact h5 i (by omega) b hne
    unfold runX
    cases hg : o.guard with
    | some g => exact .inl rfl
    | none =>
      dsimp only
      have hw : ∀ (Q : Exit → Act → World → Prop) (next : Act → World → Prop) (a : Act) (w : World), (o.wp P a w next Q → wpOp P ops Q k next a w) := fun Q next a w h => by
        simp only [wpOp, ho']
        rw [if_pos (by simp [Region.wanted, hg])]
        exact .inl h
      cases hbe : Nat.beq k e with
      | true =>
        have hke : k = e := Nat.eq_of_beq_eq_true hbe
        dsimp only
        rcases runX_sound hT K hm rest (k + 1) (putT t o.dst v) nd hrest hks with h4 | ⟨t', nd', h4, h5⟩
        · exact .inl h4
        refine .inr ⟨t', nd', h4, fun hn => ?_⟩
        obtain ⟨h6, val, g1, g2, g3⟩ := h5 hn
        exact ⟨h6, fin (fun _ => rfl) (fun h => absurd hke h) g1 g2 g3⟩
      | false =>
        have hke : k ≠ e := fun h => by rw [h, Nat.beq_refl] at hbe; cases hbe
        dsimp only
        rcases stepQ_sound (H := H) hT o t nd (fun t nd => runX P T e v (k + 1) rest t H nd K) with h2 | ⟨v1, nd2, h2, h3⟩
        · exact .inl h2
        rw [h2]
        rcases runX_sound hT K hm rest (k + 1) (putT t o.dst v1) nd2 hrest hks with h4 | ⟨t', nd', h4, h5⟩
        · exact .inl h4
        refine .inr ⟨t', nd', h4, fun hn => ?_⟩
        obtain ⟨h6, val, g1, g2, g3⟩ := h5 hn
        obtain ⟨h8, hok, h9⟩ := h3 h6
        exact ⟨h8, fin (fun h => absurd h hke) (fun _ => ⟨o, ho', fun σ w a Q next s r _ q => hw Q next a w (h9 σ w a Q next s (opds_looks hok fun n hn => r n hn) q)⟩) g1 g2 g3⟩
/-- No operation but the e-th looks at what the e-th makes, and the e-th makes a variable. -/
def boxOK (ops : Array Oper) (m e : Nat) : Bool := (List.range m).all fun i => match Nat.beq i e with
  | true => match ops[i]? with
    | some o => match o.op, o.guard with
      | .alloc _, none => true
      | _, _ => false
    | none => false
  | false => match ops[i]? with
    | some o => (looks ops o).all fun n => !(gDst ops e == some n)
    | none => false
/-- A region in which one block is made. -/
theorem box_reach (hT : SoundT P T) (hf : P.follows .mixedOrders = true) (m e : Nat) (hm : m ≤ ops.size) (hem : e < m) (hok : drawOK ops m = true) (hbx : boxOK ops m e = true) {id : Nat} {k : List Item} {t t' : List AV} {H H' : List AB} {nd : List Bool} {l : List AV}
    (hz : (match ops[e]? with | some o => (match o.op with | .alloc ty => (zeroA P ty).map cellsA | _ => none) | none => none) = some l) (hlow : lowH H.length H = true)
    (h : (runX P T e (.p true H.length 0) 0 (ops.toList.take m) t H [] fun t nd => runOps P T ops (ops.toList.drop m) t (H ++ [.cells true (.lit l)]) nd fun t H nd => .stop [] t H nd).sel = .stop [] t' H' nd) (hn : allT nd = true) : Reach P (.code (.region id ops true) :: k) t H k t' H' := by
  rcases runX_sound (H := H) (v := .p true H.length 0) (ops := ops) (e := e) hT (fun t nd => runOps P T ops (ops.toList.drop m) t (H ++ [.cells true (.lit l)]) nd fun t H nd => .stop [] t H nd) hm (ops.toList.take m) 0 t [] (by simp) (Nat.zero_le _) with h1 | ⟨t1, nd1, h1, h2⟩
  · rw [h] at h1; cases h1
  rw [h1] at h
  rcases runOps_sound (ops := ops) hT (fun t H nd => .stop [] t H nd) (ops.toList.drop m) m t1 (H ++ [.cells true (.lit l)]) nd1 rfl hm with h3 | ⟨t2, H2, nd2, h3, h4⟩
  · rw [h] at h3; cases h3
  rw [h] at h3
  cases h3
  obtain ⟨h5, ch⟩ := h4 hn
  obtain ⟨_, val, e1, e2, e3⟩ := h2 h5
  rw [Nat.sub_zero] at e2
  rw [e2] at ch
  have hall : ∀ i, i < m → (match Nat.beq i e with
      | true => match ops[i]? with
        | some o => match o.op, o.guard with
          | .alloc _, none => true
          | _, _ => false
        | none => false
      | false => match ops[i]? with
        | some o => (looks ops o).all fun n => !(gDst ops e == some n)
        | none => false) = true := fun i hi => List.all_eq_true.1 hbx i (List.mem_range.2 hi)
  refine region_reach fun σ w a Q s r q => wp_region_any hf ?_
  have hnl : ∀ i, ¬ Ls (Array.replicate ops.size false) i := fun i => by
    unfold Ls
    rw [Array.getD_eq_getD_getElem?]
    by_cases hi : i < ops.size
    · simp [hi]
    · simp [hi]
  have hsm : Same w { w with drawn := w.drawn + 1 } := Same.drew w
  refine any_box (val := val) (B := .cells true (.lit l)) hok hm hem (fun i hi hne => by have := e3 i (Nat.zero_le _) hi hne; rwa [Nat.sub_zero] at this) ?_ (fun i hi hne o ho n hn' => ?_) hlow rfl ch ops.size _ a _ σ H (by simp) (fun i o _ hl => absurd hl (hnl i)) ?_ (fun i _ => hnl i) (.inl ⟨rfl, rfl, hnl e⟩)
    (hsm.sim s) ?_ (fun x => ⟨fun i _ hl => absurd hl (hnl i), fun _ => r.getD x⟩) fun a' w' σ' r' d' s' f' => q a' w' σ' r' d' s' (hsm.fr.trans f')
  · have he := hall e hem
    rw [Nat.beq_refl] at he
    cases hoe : ops[e]? with
    | none => rw [hoe] at he; cases he
    | some o =>
      rw [hoe] at he hz
      dsimp only at he hz
      refine ⟨o, hoe, fun σ w a Q next s q => ?_⟩
      cases hop : o.op
      case alloc ty =>
        rw [hop] at he hz
        cases hg : o.guard with
        | some g => rw [hg] at he; cases he
        | none =>
          dsimp only at hz
          cases hzz : zeroA P ty with
          | none => rw [hzz] at hz; cases hz
          | some z =>
            rw [hzz] at hz
            cases hz
            have heop : eop P o.op (evA t) H = some (.p true H.length 0, H ++ [.cells true (.lit (cellsA z))], []) := by
              rw [hop]; unfold eop; dsimp only; rw [hzz]
            obtain ⟨rv, w', e1', σ', r2, s2, f2⟩ := eop_out (ρ := a.eval) heop rfl s (by rw [hop]; intro x hx; simp [Op.operands] at hx)
            obtain ⟨x, hx⟩ : ∃ x, σ' = σ ++ [x] := by
              have hl1 := s2.len
              have hl0 := s.len
              simp only [List.length_append, List.length_cons, List.length_nil] at hl1
              have hlt : σ.length < σ'.length := by omega
              refine ⟨σ'[σ.length], ?_⟩
              apply List.ext_getElem?
              intro i
              rcases Nat.lt_or_ge i σ.length with h' | h'
              · rw [List.getElem?_append_left h']
                exact f2.ext i _ (List.getElem?_eq_getElem h') |>.trans (List.getElem?_eq_getElem h').symm
              · rcases Nat.lt_or_ge i (σ.length + 1) with h'' | h''
                · have : i = σ.length := by omega
                  subst this
                  simp [List.getElem?_eq_getElem hlt]
                · rw [List.getElem?_eq_none (by omega), List.getElem?_eq_none (by simp; omega)]
            subst hx
            rw [e1 (Nat.zero_le _) hem] at q
            simp only [wpOp, hoe]
            rw [if_pos (by simp [Region.wanted, hg])]
            refine .inl ?_
            show o.upon P a next Q ((execOp a.eval o).run P w)
            rcases e1' with e1' | ⟨e1', rfl⟩
            · rw [e1']; exact q _ _ x r2 s2 f2
            · rw [e1']; exact q _ _ x r2 s2 f2
      all_goals (rw [hop] at he; cases he)
  · have hi' := hall i hi
    have : Nat.beq i e = false := by
      cases hbe : Nat.beq i e with
      | false => rfl
      | true => exact absurd (Nat.eq_of_beq_eq_true hbe) hne
    rw [this, ho] at hi'
    have := List.all_eq_true.1 hi' n hn'
    intro h
    rw [h] at this
    simp at this
  · have := List.length_filter_le (fun i => !(Array.replicate ops.size false).getD i false) (List.range ops.size)
    simp only [List.length_range] at this
    exact this
  · have := r.length; simpa using this.symm
end
end Go.Ax

/- A function in stages: what is kept at a place. -/
namespace Go.Ax
open Go Go.Proofs

def lk (i : Nat) : List (Nat × AV) → AV
  | [] => .any
  | (j, a) :: l => match Nat.beq i j with
    | true => a
    | false => lk i l
def lkB (i : Nat) : List (Nat × AV) → Bool
  | [] => true
  | (j, _) :: l => match Nat.beq i j with
    | true => false
    | false => lkB i l
/-- Temporaries of which only some are of use. -/
def tmpsOf (n : Nat) (l : List (Nat × AV)) : List AV := (List.range n).map fun i => lk i l
def maskOf (n : Nat) (l : List (Nat × AV)) : List Bool := (List.range n).map fun i => lkB i l
noncomputable def lfK (k : Nat) (M : List Bool) (r : Res) : Bool × List Item × List AV × List AB × List Bool := (r.isStop, r.todo, bareBlur M r.tOf, r.HOf.take k, r.nds)
theorem way_keep {P : Program} {T : Table} {stop : List Item → Bool} {n k : Nat} {L todo' : List Item} {p M nd : List Bool} {t0 t' : List AV} {H0 H1 : List AB} (hT : SoundT P T) (hc : allT (condsP (jupto P T stop n L t0 H0) p) = true)
    (hl : lfK k M ((jupto P T stop n L t0 H0).at p) = (true, todo', t'.map AV.bare, H1, nd)) (hn : allT nd = true) (hk : H0.length ≤ H1.length) (ht : belowL H1.length t' = true) (hB : belowH H1.length H1 = true) : Reach P L t0 H0 todo' t' H1 := by
  simp only [lfK, Prod.mk.injEq] at hl
  obtain ⟨a1, a2, a3, a4, a5⟩ := hl
  have h := way_reach (stop := stop) (n := n) (R := L) (p := p) (M := M) (nd := nd) (t' := t') (todo' := todo') (H' := ((jupto P T stop n L t0 H0).at p).HOf) hT rfl hc (by simp only [lfM, a1, a2, a3, a5]) hn
  rw [← List.take_append_drop k (((jupto P T stop n L t0 H0).at p).HOf), a4] at h
  exact h.keep hk ht hB
theorem way_pre {P : Program} {T : Table} {stop : List Item → Bool} {n k : Nat} {L todo' : List Item} {p M nd : List Bool} {t0 t' : List AV} {H0 H1 : List AB} (hT : SoundT P T) (hc : allT (condsP (jupto P T stop n L t0 H0) p) = true)
    (hl : lfK k M ((jupto P T stop n L t0 H0).at p) = (true, todo', t'.map AV.bare, H1, nd)) (hn : allT nd = true) : ∃ G, Reach P L t0 H0 todo' t' (H1 ++ G) := by
  simp only [lfK, Prod.mk.injEq] at hl
  obtain ⟨a1, a2, a3, a4, a5⟩ := hl
  have h := way_reach (stop := stop) (n := n) (R := L) (p := p) (M := M) (nd := nd) (t' := t') (todo' := todo') (H' := ((jupto P T stop n L t0 H0).at p).HOf) hT rfl hc (by simp only [lfM, a1, a2, a3, a5]) hn
  rw [← List.take_append_drop k (((jupto P T stop n L t0 H0).at p).HOf), a4] at h
  exact ⟨_, h⟩
/-- The end's answer, without its memory. -/
noncomputable def endV (P : Program) (rs : List ResultVar) (r : Res) : Option (Option (List AV × List Bool) × List Bool) := match endOf P rs r with
  | some (x, _, nd) => some (x, nd)
  | none => none
theorem endV_ends {P : Program} {T : Table} {stop : List Item → Bool} {n : Nat} {L : List Item} {p nd : List Bool} {t0 : List AV} {H0 : List AB} {rs : List ResultVar} {x : Option (List AV × List Bool)} (hT : SoundT P T) (hc : allT (condsP (jupto P T stop n L t0 H0) p) = true)
    (hl : endV P rs ((jupto P T stop n L t0 H0).at p) = some (x, nd)) (hn : allT nd = true) : ∃ t H', Ends P L t0 H0 t H' ∧ resV P t H' rs = x := by
  unfold endV at hl
  split at hl <;> cases hl
  rename_i he
  obtain ⟨t, e1, e2⟩ := way_ends (stop := stop) (n := n) (R := L) hT rfl hc he hn
  exact ⟨t, _, e1, e2⟩
theorem box_way {P : Program} {T : Table} {ops : Array Oper} (hT : SoundT P T) (hf : P.follows .mixedOrders = true) (m e : Nat) (hm : m ≤ ops.size) (hem : e < m) (hok : drawOK ops m = true) (hbx : boxOK ops m e = true) {id : Nat} {k : List Item} {t t' : List AV} {H H' : List AB} {M nd : List Bool} {l : List AV}
    (hz : (match ops[e]? with | some o => (match o.op with | .alloc ty => (zeroA P ty).map cellsA | _ => none) | none => none) = some l) (hlow : lowH H.length H = true)
    (h : lfM M (runX P T e (.p true H.length 0) 0 (ops.toList.take m) t H [] fun t nd => runOps P T ops (ops.toList.drop m) t (H ++ [.cells true (.lit l)]) nd fun t H nd => .stop [] t H nd) = (true, [], t'.map AV.bare, H', nd)) (hn : allT nd = true) : Reach P (.code (.region id ops true) :: k) t H k t' H' := by
  simp only [lfM, Prod.mk.injEq] at h
  obtain ⟨a1, a2, a3, a4, a5⟩ := h
  have hs := Res.isStop_eq a1
  have hr := box_reach (k := k) (id := id) hT hf m e hm hem hok hbx (t := t) (H := H) (l := l) hz hlow (t' := _) (H' := _) (nd := _) (by conv => { lhs; rw [hs] }; rw [a2]; rfl) (by rw [a5]; exact hn)
  rw [a4] at hr
  exact (hr.weak (blur_eqv M _)).weak (eqv_of_bare a3)
end Go.Ax

/- One way of an evaluation that branches, with blocks out of use dropped. -/
namespace Go.Ax
open Go Go.Proofs

/-- Blocks dropped one behind the other: what is left, and whether they were there. -/
def dropsT (k0 : Nat) : List Nat → List AV → List AB → Bool × List AV × List AB
  | [], t, H => (true, t, H)
  | k :: ks, t, H => match Nat.ble k0 k && Nat.blt k H.length with
    | true => dropsT k0 ks (renL k t) (dropB k k H)
    | false => (false, t, H)
section
variable {P : Program} {T : Table}
theorem Reach.drops {todo todo' : List Item} {t : List AV} {H : List AB} : ∀ {ks : List Nat} {t1 t2 : List AV} {H1 H2 : List AB}, Reach P todo t H todo' t1 H1 → dropsT H.length ks t1 H1 = (true, t2, H2) → Reach P todo t H todo' t2 H2
  | [], _, _, _, _, h, e => by cases e; exact h
  | k :: ks, _, _, _, _, h, e => by
    simp only [dropsT] at e
    split at e
    · rename_i hb
      rw [Bool.and_eq_true] at hb
      exact Reach.drops (h.drop k (Nat.le_of_ble_eq_true hb.1) (blt_true hb.2)) e
    · cases e
/-- A stop, with blocks dropped. -/
noncomputable def lfD (k0 : Nat) (ks : List Nat) (M : List Bool) (r : Res) : Bool × List Item × (Bool × List AV × List AB) × List Bool :=
  (r.isStop, r.todo, ((dropsT k0 ks r.tOf r.HOf).1, bareBlur M (dropsT k0 ks r.tOf r.HOf).2.1, (dropsT k0 ks r.tOf r.HOf).2.2), r.nds)
theorem sel_drop {todo todo' : List Item} {k0 : Nat} {ks : List Nat} {t0 t' : List AV} {H0 H' : List AB} {M nd p : List Bool} {R : Res} (hk : H0.length = k0) (hr : ∀ {todo1 t1 H1 nd1}, R.sel = .stop todo1 t1 H1 nd1 → allT nd1 = true → Reach P todo t0 H0 todo1 t1 H1) (hc : allT (condsP R p) = true)
    (hl : lfD k0 ks M (R.at p) = (true, todo', (true, t'.map AV.bare, H'), nd)) (hn : allT nd = true) : Reach P todo t0 H0 todo' t' H' := by
  simp only [lfD, Prod.mk.injEq] at hl
  obtain ⟨a1, a2, ⟨a3, a4, a5⟩, a6⟩ := hl
  have hs := isStop_at a1 hc
  have h := hr hs (by rw [a6]; exact hn)
  subst hk
  have h2 := h.drops (ks := ks) (t2 := (dropsT H0.length ks (R.at p).tOf (R.at p).HOf).2.1) (H2 := (dropsT H0.length ks (R.at p).tOf (R.at p).HOf).2.2) (Prod.ext a3 rfl)
  rw [a2, a5] at h2
  exact (h2.weak (blur_eqv M _)).weak (eqv_of_bare a4)
theorem cway_drop {stop : List Item → Bool} {n k0 : Nat} {ks : List Nat} {L todo' : List Item} {p M nd : List Bool} {t0 t' : List AV} {H0 H' : List AB} (hT : SoundT P T) (hk : H0.length = k0) (hc : allT (condsP (cupto P T stop n L t0 H0) p) = true)
    (hl : lfD k0 ks M ((cupto P T stop n L t0 H0).at p) = (true, todo', (true, t'.map AV.bare, H'), nd)) (hn : allT nd = true) : Reach P L t0 H0 todo' t' H' :=
  sel_drop hk (fun hs h => cupto_reach hT hs h) hc hl hn
theorem jway_drop {stop : List Item → Bool} {n k0 : Nat} {ks : List Nat} {L todo' : List Item} {p M nd : List Bool} {t0 t' : List AV} {H0 H' : List AB} (hT : SoundT P T) (hk : H0.length = k0) (hc : allT (condsP (jupto P T stop n L t0 H0) p) = true)
    (hl : lfD k0 ks M ((jupto P T stop n L t0 H0).at p) = (true, todo', (true, t'.map AV.bare, H'), nd)) (hn : allT nd = true) : Reach P L t0 H0 todo' t' H' :=
  sel_drop hk (fun hs h => jupto_reach hT hs h) hc hl hn
theorem cway_reach {stop : List Item → Bool} {n : Nat} {L todo' : List Item} {p M nd : List Bool} {t0 t' : List AV} {H0 H' : List AB} (hT : SoundT P T) (hc : allT (condsP (cupto P T stop n L t0 H0) p) = true)
    (hl : lfM M ((cupto P T stop n L t0 H0).at p) = (true, todo', t'.map AV.bare, H', nd)) (hn : allT nd = true) : Reach P L t0 H0 todo' t' H' := by
  simp only [lfM, Prod.mk.injEq] at hl
  obtain ⟨a1, a2, a3, a4, a5⟩ := hl
  have hs := isStop_at a1 hc
  have hr := cupto_reach hT hs (by rw [a5]; exact hn)
  rw [a2, a4] at hr
  exact (hr.weak (blur_eqv M _)).weak (eqv_of_bare a3)
theorem cway_keep {stop : List Item → Bool} {n k : Nat} {L todo' : List Item} {p M nd : List Bool} {t0 t' : List AV} {H0 H1 : List AB} (hT : SoundT P T) (hc : allT (condsP (cupto P T stop n L t0 H0) p) = true)
    (hl : lfK k M ((cupto P T stop n L t0 H0).at p) = (true, todo', t'.map AV.bare, H1, nd)) (hn : allT nd = true) (hk : H0.length ≤ H1.length) (ht : belowL H1.length t' = true) (hB : belowH H1.length H1 = true) : Reach P L t0 H0 todo' t' H1 := by
  simp only [lfK, Prod.mk.injEq] at hl
  obtain ⟨a1, a2, a3, a4, a5⟩ := hl
  have h := cway_reach (stop := stop) (n := n) (L := L) (p := p) (M := M) (nd := nd) (t' := t') (todo' := todo') (H' := ((cupto P T stop n L t0 H0).at p).HOf) hT hc (by simp only [lfM, a1, a2, a3, a5]) hn
  rw [← List.take_append_drop k (((cupto P T stop n L t0 H0).at p).HOf), a4] at h
  exact h.keep hk ht hB
/-- An end, with blocks dropped: the value, memory, and whether all that is to be shown holds. -/
noncomputable def leafE (P : Program) (rs : List ResultVar) (k0 : Nat) (ks : List Nat) (r : Res) : Option (AV × List AB × Bool) := match endOf P rs r with
  | some (some (vs, m), H, nd) => match dropN k0 ks (tupV vs) H with
    | some (v, H') => some (v, H', allT (m ++ nd))
    | none => none
  | _ => none
theorem cend_call {stop : List Item → Bool} {n : Nat} {ks : List Nat} {L : List Item} {p : List Bool} {t1 args : List AV} {H0 H1 H' : List AB} {f : FuncId} {fn : Func} {C : Code} {v : AV} (hT : SoundT P T) (hf : P.funcs[f]? = some fn) (hb : fn.body = some C)
    (hr : Reach P [.code C] (args ++ undefs (fn.ntmps - args.length)) H0 L t1 H1) (hc : allT (condsP (cupto P T stop n L t1 H1) p) = true) (hl : leafE P fn.results.toList H0.length ks ((cupto P T stop n L t1 H1).at p) = some (v, H', true)) : CallOK P f args H0 v H' := by
  unfold leafE at hl
  split at hl <;> (try (cases hl; done))
  rename_i vs m H nd he
  split at hl <;> (try (cases hl; done))
  rename_i v0 H3 hd
  simp only [Option.some.injEq, Prod.mk.injEq] at hl
  obtain ⟨rfl, rfl, hn⟩ := hl
  rw [allT_append, Bool.and_eq_true] at hn
  obtain ⟨u, e1, e2⟩ := endOf_ends hT he (sel_of_conds _ _ hc) hn.2
  exact dropN_call hd (call_of_ends hf hb (hr.ends e1) e2 hn.1)
end
end Go.Ax

/- Helpers: ends of a run that joins straight branches; answers told without tags. -/
namespace Go.Ax
open Go Go.Proofs

def opsOf : List Item → Array Oper
  | .code (.region _ ops _) :: _ => ops
  | _ => #[]
def tlOf : List Item → List Item
  | _ :: k => k
  | [] => []
theorem ltQ_true {i n : Nat} (h : i < n) : ltQ false (Int.ofNat i) (n : Int) = true := by rw [ltQ_eq]; simp; omega
theorem ltQ_same (n : Nat) : ltQ false (Int.ofNat n) (n : Int) = false := by rw [ltQ_eq]; simp
theorem ofNat_next {i : Nat} (h : i ≤ 4611686018427387904) : wrapQ false .i64 (Int.ofNat i + 1) = Int.ofNat (i + 1) := by
  have : IntKind.i64.wrap (Int.ofNat i + 1) = Int.ofNat (i + 1) := by rw [wrap64_id] <;> simp <;> omega
  exact this
theorem wrapQ_id {l : Bool} {n : Int} (h0 : -9223372036854775808 ≤ n) (h1 : n ≤ 9223372036854775807) : wrapQ l .i64 n = n := by rw [wrapQ_eq, wrap64_id h0 h1]
theorem wrapU8_id {n : Int} (h0 : 0 ≤ n) (h1 : n ≤ 255) : IntKind.u8.wrap n = n := by
  simp [IntKind.wrap, IntKind.bits, IntKind.signed]; omega
theorem wrapU64_id {n : Int} (h0 : 0 ≤ n) (h1 : n ≤ 18446744073709551615) : IntKind.u64.wrap n = n := by
  simp [IntKind.wrap, IntKind.bits, IntKind.signed]; omega
theorem wrapU32_id {n : Int} (h0 : 0 ≤ n) (h1 : n ≤ 4294967295) : IntKind.u32.wrap n = n := by
  simp [IntKind.wrap, IntKind.bits, IntKind.signed]; omega
theorem at_nil (r : Res) : r.at [] = r := by cases r <;> rfl
theorem conds_nil (r : Res) : condsP r [] = [] := by cases r <;> rfl
section
variable {P : Program} {T : Table}
/-- A call out of a place that is reached and one way from there to the end. -/
theorem jend_call {stop : List Item → Bool} {n : Nat} {ks : List Nat} {L : List Item} {p : List Bool} {t1 args : List AV} {H0 H1 H' : List AB} {f : FuncId} {fn : Func} {C : Code} {v : AV} {b : Bool} (hT : SoundT P T) (hf : P.funcs[f]? = some fn) (hb : fn.body = some C)
    (hr : Reach P [.code C] (args ++ undefs (fn.ntmps - args.length)) H0 L t1 H1) (hc : allT (condsP (jupto P T stop n L t1 H1) p) = true) (hl : leafE P fn.results.toList H0.length ks ((jupto P T stop n L t1 H1).at p) = some (v, H', b)) (hn : b = true) : CallOK P f args H0 v H' := by
  subst hn
  unfold leafE at hl
  split at hl <;> (try (cases hl; done))
  rename_i vs m H nd he
  split at hl <;> (try (cases hl; done))
  rename_i v0 H3 hd
  simp only [Option.some.injEq, Prod.mk.injEq] at hl
  obtain ⟨rfl, rfl, hn⟩ := hl
  rw [allT_append, Bool.and_eq_true] at hn
  obtain ⟨u, e1, e2⟩ := way_ends (stop := stop) (n := n) (R := L) hT rfl hc he hn.2
  exact dropN_call hd (call_of_ends hf hb (hr.ends e1) e2 hn.1)
theorem jend_lp {stop : List Item → Bool} {n : Nat} {ks : List Nat} {L R : List Item} {p : List Bool} {t1 args : List AV} {H0 H1 H' : List AB} {f : FuncId} {fn : Func} {C : Code} {v : AV} {b : Bool} (hT : SoundT P T) (hL : toLp L = toLp R) (hf : P.funcs[f]? = some fn) (hb : fn.body = some C)
    (hr : Reach P [.code C] (args ++ undefs (fn.ntmps - args.length)) H0 L t1 H1) (hc : allT (condsP (jupto P T stop n R t1 H1) p) = true) (hl : leafE P fn.results.toList H0.length ks ((jupto P T stop n R t1 H1).at p) = some (v, H', b)) (hn : b = true) : CallOK P f args H0 v H' := by
  rw [← jupto_eq hL] at hc hl
  exact jend_call hT hf hb hr hc hl hn
theorem bare_rel {a a' : AV} (h : a.bare = a'.bare) {σ : List (Nat × Nat)} {x : Value} (r : Rel σ a x) : Rel σ a' x := Rel.unbare (h ▸ r.bare)
theorem bareL_rel : ∀ {l l' : List AV}, l.map AV.bare = l'.map AV.bare → ∀ {σ : List (Nat × Nat)} {x : List Value}, RelL σ l x → RelL σ l' x
  | [], [], _, _, _, r => r
  | [], _ :: _, h, _, _, _ => by cases h
  | _ :: _, [], h, _, _, _ => by cases h
  | a :: l, a' :: l', h, _, _, .cons r rs => by
    simp only [List.map_cons, List.cons.injEq] at h
    exact .cons (bare_rel h.1 r) (bareL_rel h.2 rs)
/-- The answer told without tags. -/
theorem CallOK.re {f : FuncId} {args : List AV} {H H' : List AB} {a a' : AV} (h : CallOK P f args H a H') (e : a.bare = a'.bare) : CallOK P f args H a' H' := h.weaken fun _ _ r => bare_rel e r
theorem CallOK.reT {f : FuncId} {args : List AV} {H H' : List AB} {l l' : List AV} (h : CallOK P f args H (.tup l) H') (e : l.map AV.bare = l'.map AV.bare) : CallOK P f args H (.tup l') H' := h.weaken fun _ _ r => by
  cases r with | tup r => exact .tup (bareL_rel e r)
end
end Go.Ax

/- spec.l01Seen: the number with a text. -/
namespace Go.Ax
open Go Go.Proofs

/-- The row of l01Float for places of both signs. -/
noncomputable def gFlt2 : List AV → Option (AV × List Bool)
  | [.i l .i64 k] => withN1 (.f l .f32 (fltOf k)) (chk l (decide (-2139095039 ≤ k) && decide (k ≤ 2139095039)))
  | _ => none
theorem flt2_at : SoundAt Tryd.prog 57 (pureT gFlt2) := fun args H nd K => by
  refine pureT_sound (fun args v n h hn H => ?_) args H nd K
  unfold gFlt2 at h
  split at h <;> (try (cases h; done))
  rename_i l k
  obtain ⟨rfl, hc⟩ := withN1_some h
  have hn := chk_spec hc hn
  simp only [Bool.and_eq_true, decide_eq_true_eq] at hn
  exact ((flt_ok k hn.1 hn.2 H).bare (args' := [.i l .i64 k]) rfl).weaken fun σ x r => (by cases r with | f hr => exact .f hr)

noncomputable def tabSe : Table := tabOf (jdeep Tryd.prog [(57, pureT gFlt2)] [] 3000 8)
theorem tabSe_sound : SoundT Tryd.prog tabSe := jdeep_sound (fun p hp => by
  simp only [List.mem_cons, List.not_mem_nil, or_false] at hp
  subst hp; exact flt2_at) 8

/-! ### The pure function -/
def hexV (c : UInt8) : Option Nat := bif decide (48 ≤ c.toNat) && decide (c.toNat ≤ 57) then some (c.toNat - 48) else bif decide (97 ≤ c.toNat) && decide (c.toNat ≤ 102) then some (c.toNat - 87) else none
def hexF : List UInt8 → Nat → Option Nat
  | [], n => some n
  | c :: cs, n => match hexV c with
    | some v => hexF cs (16 * n + v)
    | none => none
/-- Digits that cannot be those of a number: none, too many, or a zero ahead of others. -/
def badD (x y : List UInt8) : Bool := bif decide (y.length = 0) then true else bif decide (8 < y.length) then true else bif decide ((y.getD 0 0).toNat = 48) then !(x == [48]) else false
def finO (s : Int) : Option Nat → Option Int
  | some n => bif decide (2139095039 < n) then none else some (s * n)
  | none => none
def seenD (x y : List UInt8) (s : Int) : Option Int := bif badD x y then none else finO s (hexF y 0)
def isNeg (x : List UInt8) : Bool := bif decide (0 < x.length) then decide ((x.getD 0 0).toNat = 45) else false
def seenR (x : List UInt8) : Option Int := bif isNeg x then seenD x (x.drop 1) (-1) else seenD x x 1
noncomputable def seX (x : List UInt8) : Nat := match seenR x with
  | some k => fltOf k
  | none => 0
def seB (x : List UInt8) : Bool := (seenR x).isSome

/-! ### Evaluations -/
noncomputable def seC : Code := Tryd.f46.body.getD .skip
noncomputable def se0 (x : List UInt8) : Res := jupto Tryd.prog tabSe (atReg 5) 100 [.code seC] (.s false x :: undefs 78) []
noncomputable def seA : List Item := (se0 []).todo
def seTA (x y : List UInt8) (s : Int) : List AV := tmpsOf 79 [(0, .s false x), (4, .i false .i64 s), (5, .s false y)]
def seMA : List Bool := maskOf 79 [(0, .any), (4, .any), (5, .any)]
def seG (x : List UInt8) : Bool := bif ltQ false 0 x.length then eqQ false (x.getD (Int.toNat 0) 0).toNat 45 else false
def ix0 (x : List UInt8) : Bool := decide ((0 : Int) ≤ 0) && decide ((0 : Int) < (x.length : Int))
theorem se0_ok (x : List UInt8) : lfM seMA (se0 x) = (true, seA, (seTA x (bif seG x then List.drop (Int.toNat 1) (List.take x.length x) else x) (bif seG x then -1 else 1)).map AV.bare, [],
    [bif seG x then andT [decide ((0 : Int) ≤ 1) && true && decide (Int.toNat 1 ≤ x.length) && decide (x.length ≤ x.length)] else true, bif ltQ false 0 x.length then andT [ix0 x] else true]) := by kernel_rfl
noncomputable def se1 (x y : List UInt8) (s : Int) : Res := jupto Tryd.prog tabSe atLoop 100 seA (seTA x y s) []
noncomputable def seL : List Item := ((se1 [] [] 0).at [false]).todo
noncomputable def seR : List Item := toLp seL
def seT (x y : List UInt8) (s n k : Int) : List AV := tmpsOf 79 [(0, .s false x), (4, .i false .i64 s), (5, .s false y), (6, .i false .i64 n), (7, .i false .i64 k)]
def seM : List Bool := maskOf 79 [(0, .any), (4, .any), (5, .any), (6, .any), (7, .any)]
def badQ (x y : List UInt8) : Bool := bif eqQ false y.length 0 then true else bif ltQ false 8 y.length then true else bif eqQ false (y.getD (Int.toNat 0) 0).toNat 48 then !(x == [48]) else false
def seN1 (y : List UInt8) : List Bool := guardL (ltQ false 8 y.length) [] ++ guardL (!ltQ false 8 y.length) (guardL (eqQ false (y.getD (Int.toNat 0) 0).toNat 48) [ix0 y] ++ guardL (!eqQ false (y.getD (Int.toNat 0) 0).toNat 48) [ix0 y])
theorem se1_go (x y : List UInt8) (s : Int) : (condsP (se1 x y s) [false], lfM seM ((se1 x y s).at [false])) = ([!badQ x y], (true, seL, (seT x y s 0 0).map AV.bare, [], [bif !eqQ false y.length 0 then andT (seN1 y) else true])) := by kernel_rfl
theorem se1_bad (x y : List UInt8) (s : Int) : (condsP (se1 x y s) [true], leafE Tryd.prog Tryd.f46.results.toList 0 [] ((se1 x y s).at [true])) =
    ([badQ x y], some (.tup [.f true .f32 0, .b true false], [], allT (guardL (eqQ false y.length 0) [] ++ guardL (!eqQ false y.length 0) (seN1 y)))) := by kernel_rfl
noncomputable def seU (x y : List UInt8) (s n : Int) (k : Nat) : Res := jupto Tryd.prog tabSe atLoop 100 seR (seT x y s n (Int.ofNat k)) []
def chA (y : List UInt8) (k : Nat) : Int := (y.getD (Int.ofNat k).toNat 0).toNat
def dgQ (c : Int) : Bool := bif leQ false 48 c then leQ false c 57 else false
def hxQ (c : Int) : Bool := bif leQ false 97 c then leQ false c 102 else false
def ixQ (y : List UInt8) (k : Nat) : Bool := decide (0 ≤ Int.ofNat k) && decide (Int.ofNat k < ↑y.length)
theorem seU_dig (x y : List UInt8) (s n : Int) (k : Nat) : (condsP (seU x y s n k) [true, true], lfM seM ((seU x y s n k).at [true, true])) =
    ([ltQ false (Int.ofNat k) y.length, dgQ (chA y k)], (true, seR, (seT x y s (wrapQ false .i64 (wrapQ false .i64 (16 * n) + IntKind.i64.wrap (wrapQ false .u8 (chA y k - 48)))) (wrapQ false .i64 (Int.ofNat k + 1))).map AV.bare, [], [ixQ y k])) := by kernel_rfl
theorem seU_hex (x y : List UInt8) (s n : Int) (k : Nat) : (condsP (seU x y s n k) [true, false, true], lfM seM ((seU x y s n k).at [true, false, true])) =
    ([ltQ false (Int.ofNat k) y.length, !dgQ (chA y k), hxQ (chA y k)], (true, seR, (seT x y s (wrapQ false .i64 (wrapQ false .i64 (wrapQ false .i64 (16 * n) + IntKind.i64.wrap (wrapQ false .u8 (chA y k - 97))) + 10)) (wrapQ false .i64 (Int.ofNat k + 1))).map AV.bare, [], [ixQ y k])) := by kernel_rfl
theorem seU_non (x y : List UInt8) (s n : Int) (k : Nat) : (condsP (seU x y s n k) [true, false, false], leafE Tryd.prog Tryd.f46.results.toList 0 [] ((seU x y s n k).at [true, false, false])) =
    ([ltQ false (Int.ofNat k) y.length, !dgQ (chA y k), !hxQ (chA y k)], some (.tup [.f true .f32 0, .b true false], [], allT [ixQ y k])) := by kernel_rfl
theorem seU_big (x y : List UInt8) (s n : Int) (k : Nat) : (condsP (seU x y s n k) [false, true], leafE Tryd.prog Tryd.f46.results.toList 0 [] ((seU x y s n k).at [false, true])) =
    ([!ltQ false (Int.ofNat k) y.length, ltQ false 2139095039 n], some (.tup [.f true .f32 0, .b true false], [], true)) := by kernel_rfl
theorem seU_end (x y : List UInt8) (s n : Int) (k : Nat) : (condsP (seU x y s n k) [false, false], leafE Tryd.prog Tryd.f46.results.toList 0 [] ((seU x y s n k).at [false, false])) =
    ([!ltQ false (Int.ofNat k) y.length, !ltQ false 2139095039 n], some (.tup [.f false .f32 (fltOf (wrapQ false .i64 (s * n))), .b true true], [], allT [decide (-2139095039 ≤ wrapQ false .i64 (s * n)) && decide (wrapQ false .i64 (s * n) ≤ 2139095039)])) := by kernel_rfl
end Go.Ax

/- spec.l01Seen: its contract. -/
namespace Go.Ax
open Go Go.Proofs

/-- A number and whether there is one. -/
noncomputable def ansO (o : Option Int) : AV := .tup [.f false .f32 (match o with
  | some k => fltOf k
  | none => 0), .b false o.isSome]
theorem hexV_cases (c : UInt8) : (48 ≤ c.toNat ∧ c.toNat ≤ 57 ∧ hexV c = some (c.toNat - 48)) ∨ (¬ (48 ≤ c.toNat ∧ c.toNat ≤ 57) ∧ 97 ≤ c.toNat ∧ c.toNat ≤ 102 ∧ hexV c = some (c.toNat - 87)) ∨ (¬ (48 ≤ c.toNat ∧ c.toNat ≤ 57) ∧ ¬ (97 ≤ c.toNat ∧ c.toNat ≤ 102) ∧ hexV c = none) := by
  unfold hexV
  by_cases h1 : 48 ≤ c.toNat <;> by_cases h2 : c.toNat ≤ 57 <;> by_cases h3 : 97 ≤ c.toNat <;> by_cases h4 : c.toNat ≤ 102 <;> simp [h1, h2, h3, h4]
theorem hexV_lt {c : UInt8} {v : Nat} (h : hexV c = some v) : v < 16 := by
  rcases hexV_cases c with ⟨h1, h2, h3⟩ | ⟨_, h1, h2, h3⟩ | ⟨_, _, h3⟩ <;> rw [h3] at h <;> cases h <;> omega
theorem dgQ_eq (c : Int) : dgQ c = (decide (48 ≤ c) && decide (c ≤ 57)) := by
  simp only [dgQ, leQ_eq]; cases decide (48 ≤ c) <;> rfl
theorem hxQ_eq (c : Int) : hxQ c = (decide (97 ≤ c) && decide (c ≤ 102)) := by
  simp only [hxQ, leQ_eq]; cases decide (97 ≤ c) <;> rfl
theorem chA_eq {y : List UInt8} {k : Nat} {c : UInt8} (h : y[k]? = some c) : chA y k = c.toNat := by
  simp [chA, List.getD_eq_getElem?_getD, h]
theorem ixQ_ok {y : List UInt8} {k : Nat} (h : k < y.length) : ixQ y k = true := by simp [ixQ]; omega
theorem fn46 : Tryd.prog.funcs[46]? = some Tryd.f46 := Tryd.func46
theorem body46 : Tryd.f46.body = some seC := rfl
theorem pow16 {k : Nat} (h : k ≤ 8) : 16 ^ k ≤ 4294967296 := Nat.le_trans (Nat.pow_le_pow_right (by decide) h) (by decide)

theorem se_loop (x y : List UInt8) (s : Int) (hs : s = 1 ∨ s = -1) (hy : y.length ≤ 8) : ∀ (m k n : Nat) (L : List Item), k + m = y.length → n < 16 ^ k → toLp L = toLp seR → Reach Tryd.prog [.code seC] ([.s false x] ++ undefs (Tryd.f46.ntmps - 1)) [] L (seT x y s n k) [] →
    CallOK Tryd.prog 46 [.s false x] [] (ansO (finO s (hexF (y.drop k) n))) []
  | 0, k, n, L, hk, hn, hL, hr => by
    have hk' : k = y.length := by omega
    subst hk'
    have hn8 := Nat.lt_of_lt_of_le hn (pow16 hy)
    have hd : y.drop y.length = [] := by simp
    rw [hd]
    have hlt : ltQ false (Int.ofNat y.length) (y.length : Int) = false := ltQ_same _
    have hw : wrapQ false .i64 (s * n) = s * n := by rcases hs with rfl | rfl <;> exact wrapQ_id (by omega) (by omega)
    by_cases hb : 2139095039 < n
    · have h := seU_big x y s n y.length
      simp only [Prod.mk.injEq] at h
      have hq : ltQ false 2139095039 (n : Int) = true := by rw [ltQ_eq]; simp; omega
      have := jend_lp tabSe_sound hL fn46 body46 hr (by show allT (condsP (seU x y s n y.length) [false, true]) = true; rw [h.1, hlt, hq]; rfl) h.2 rfl
      have e : finO s (hexF [] n) = none := by simp [hexF, finO, hb]
      rw [e]
      exact this.reT rfl
    · have h := seU_end x y s n y.length
      simp only [Prod.mk.injEq] at h
      have hq : ltQ false 2139095039 (n : Int) = false := by rw [ltQ_eq]; simp; omega
      have := jend_lp tabSe_sound hL fn46 body46 hr (by show allT (condsP (seU x y s n y.length) [false, false]) = true; rw [h.1, hlt, hq]; rfl) h.2 (by
        rw [hw]
        simp only [allT, Bool.and_true, Bool.and_eq_true, decide_eq_true_eq]
        rcases hs with rfl | rfl <;> omega)
      have e : finO s (hexF [] n) = some (s * n) := by simp [hexF, finO, hb]
      rw [e]
      rw [hw] at this
      exact this.reT rfl
  | m + 1, k, n, L, hk, hn, hL, hr => by
    have hkl : k < y.length := by omega
    obtain ⟨c, hc⟩ : ∃ c, y[k]? = some c := ⟨_, List.getElem?_eq_getElem hkl⟩
    have hd : y.drop k = c :: y.drop (k + 1) := by
      rw [List.drop_eq_getElem_cons hkl]
      have := (List.getElem?_eq_some_iff.1 hc).2
      rw [this]
    have hlt : ltQ false (Int.ofNat k) (y.length : Int) = true := ltQ_true hkl
    have hch := chA_eq hc
    have hn8 := Nat.lt_of_lt_of_le hn (pow16 (k := k) (by omega))
    have hnx : wrapQ false .i64 (Int.ofNat k + 1) = Int.ofNat (k + 1) := ofNat_next (by omega)
    have hb := c.toNat_lt
    have hp : 16 ^ (k + 1) = 16 * 16 ^ k := by rw [Nat.pow_succ, Nat.mul_comm]
    rw [hd]
    rcases hexV_cases c with ⟨h1, h2, h3⟩ | ⟨h0, h1, h2, h3⟩ | ⟨h0, h1, h3⟩
    · have h := seU_dig x y s n k
      simp only [Prod.mk.injEq] at h
      have hq : dgQ (chA y k) = true := by rw [dgQ_eq, hch]; simp; omega
      have hv : wrapQ false .i64 (wrapQ false .i64 (16 * (n : Int)) + IntKind.i64.wrap (wrapQ false .u8 (chA y k - 48))) = ((16 * n + (c.toNat - 48) : Nat) : Int) := by
        rw [hch, wrapQ_eq false .u8, wrapU8_id (by omega) (by omega), wrap64_id (n := (c.toNat : Int) - 48) (by omega) (by omega), wrapQ_id (n := 16 * (n : Int)) (by omega) (by omega), wrapQ_id (by omega) (by omega)]
        omega
      rw [hv, hnx] at h
      have r2 := hr.trans (way_reach (stop := atLoop) (n := 100) (R := seR) (p := [true, true]) (M := seM) tabSe_sound hL (by show allT (condsP (seU x y s n k) [true, true]) = true; rw [h.1, hlt, hq]; rfl) h.2 (by simp [allT, ixQ_ok hkl]))
      have := se_loop x y s hs hy m (k + 1) (16 * n + (c.toNat - 48)) seR (by omega) (by omega) rfl r2
      simp only [hexF, h3]
      exact this
    · have h := seU_hex x y s n k
      simp only [Prod.mk.injEq] at h
      have hq : dgQ (chA y k) = false := by rw [dgQ_eq, hch]; simp; omega
      have hq2 : hxQ (chA y k) = true := by rw [hxQ_eq, hch]; simp; omega
      have hv : wrapQ false .i64 (wrapQ false .i64 (wrapQ false .i64 (16 * (n : Int)) + IntKind.i64.wrap (wrapQ false .u8 (chA y k - 97))) + 10) = ((16 * n + (c.toNat - 87) : Nat) : Int) := by
        rw [hch, wrapQ_eq false .u8, wrapU8_id (by omega) (by omega), wrap64_id (n := (c.toNat : Int) - 97) (by omega) (by omega), wrapQ_id (n := 16 * (n : Int)) (by omega) (by omega), wrapQ_id (n := 16 * (n : Int) + _) (by omega) (by omega), wrapQ_id (by omega) (by omega)]
        omega
      rw [hv, hnx] at h
      have r2 := hr.trans (way_reach (stop := atLoop) (n := 100) (R := seR) (p := [true, false, true]) (M := seM) tabSe_sound hL (by show allT (condsP (seU x y s n k) [true, false, true]) = true; rw [h.1, hlt, hq, hq2]; rfl) h.2 (by simp [allT, ixQ_ok hkl]))
      have := se_loop x y s hs hy m (k + 1) (16 * n + (c.toNat - 87)) seR (by omega) (by omega) rfl r2
      simp only [hexF, h3]
      exact this
    · have h := seU_non x y s n k
      simp only [Prod.mk.injEq] at h
      have hq : dgQ (chA y k) = false := by rw [dgQ_eq, hch]; simp; omega
      have hq2 : hxQ (chA y k) = false := by rw [hxQ_eq, hch]; simp; omega
      have := jend_lp tabSe_sound hL fn46 body46 hr (by show allT (condsP (seU x y s n k) [true, false, false]) = true; rw [h.1, hlt, hq, hq2]; rfl) h.2 (by simp [allT, ixQ_ok hkl])
      simp only [hexF, h3]
      exact this.reT rfl

theorem badQ_eq (x y : List UInt8) : badQ x y = badD x y := by
  unfold badQ badD
  simp only [eqQ_eq, ltQ_eq]
  have e1 : ((y.length : Int) == 0) = decide (y.length = 0) := by
    rw [Bool.eq_iff_iff]; simp
  have e2 : decide ((8 : Int) < (y.length : Int)) = decide (8 < y.length) := by
    rw [Bool.eq_iff_iff]; simp; omega
  have e3 : ((((y.getD (Int.toNat 0) 0).toNat : Nat) : Int) == 48) = decide ((y.getD 0 0).toNat = 48) := by
    rw [Bool.eq_iff_iff]; simp; omega
  rw [e1, e2, e3]
theorem ix0_ok {y : List UInt8} (h : 0 < y.length) : ix0 y = true := by simp [ix0]; omega
theorem seN1_ok {y : List UInt8} (h : 0 < y.length) : allT (seN1 y) = true := by
  unfold seN1
  rw [ix0_ok h]
  generalize ltQ false 8 (y.length : Int) = a
  generalize eqQ false ((y.getD (Int.toNat 0) 0).toNat : Int) 48 = b
  cases a <;> cases b <;> rfl
theorem guardL_ok {b : Bool} {l : List Bool} (h : b = true → allT l = true) : allT (guardL b l) = true := by
  cases l with
  | nil => rfl
  | cons a l => cases b with
    | false => rfl
    | true =>
      have := h rfl
      simp only [guardL, cond_true, allT, andT_eq, Bool.and_true]
      exact this
theorem eqQ_len (y : List UInt8) : eqQ false (y.length : Int) 0 = decide (y.length = 0) := by
  rw [eqQ_eq, Bool.eq_iff_iff]; simp
theorem se_mid (x y : List UInt8) (s : Int) (hs : s = 1 ∨ s = -1) (hr : Reach Tryd.prog [.code seC] ([.s false x] ++ undefs (Tryd.f46.ntmps - 1)) [] seA (seTA x y s) []) : CallOK Tryd.prog 46 [.s false x] [] (ansO (seenD x y s)) [] := by
  unfold seenD
  cases hb : badD x y with
  | true =>
    have h := se1_bad x y s
    simp only [Prod.mk.injEq] at h
    have := jend_call tabSe_sound fn46 body46 hr (by show allT (condsP (se1 x y s) [true]) = true; rw [h.1, badQ_eq, hb]; rfl) h.2 (by
      rw [eqQ_len]
      by_cases h0 : y.length = 0
      · rw [decide_eq_true h0]; rfl
      · rw [decide_eq_false h0]
        have := seN1_ok (y := y) (by omega)
        rw [allT_append]
        rw [guardL_ok fun _ => rfl, guardL_ok fun _ => this]; rfl)
    exact this.reT rfl
  | false =>
    have h := se1_go x y s
    simp only [Prod.mk.injEq] at h
    have hl : 0 < y.length ∧ y.length ≤ 8 := by
      unfold badD at hb
      by_cases h0 : y.length = 0
      · simp [h0] at hb
      · by_cases h8 : 8 < y.length
        · simp [h0, h8] at hb
        · omega
    have r2 := hr.trans (way_reach (stop := atLoop) (n := 100) (R := seA) (p := [false]) (M := seM) tabSe_sound rfl (by show allT (condsP (se1 x y s) [false]) = true; rw [h.1, badQ_eq, hb]; rfl) h.2 (by
      rw [andT_eq, seN1_ok hl.1, eqQ_len]
      by_cases h0 : y.length = 0 <;> simp [h0, allT]))
    have := se_loop x y s hs hl.2 y.length 0 0 seL (by omega) (by decide) (by kernel_rfl) r2
    rw [List.drop_zero] at this
    simp only [cond_false]
    exact this
theorem seG_eq (x : List UInt8) : seG x = isNeg x := by
  unfold seG isNeg
  rw [ltQ_eq, eqQ_eq]
  have e1 : decide ((0 : Int) < (x.length : Int)) = decide (0 < x.length) := by rw [Bool.eq_iff_iff]; simp
  have e2 : ((((x.getD (Int.toNat 0) 0).toNat : Nat) : Int) == 45) = decide ((x.getD 0 0).toNat = 45) := by rw [Bool.eq_iff_iff]; simp; omega
  rw [e1, e2]
theorem isNeg_pos {x : List UInt8} (h : isNeg x = true) : 0 < x.length := by
  unfold isNeg at h
  by_cases h0 : 0 < x.length
  · exact h0
  · simp [h0] at h
theorem se_ok0 (x : List UInt8) : CallOK Tryd.prog 46 [.s false x] [] (ansO (seenR x)) [] := by
  have h := se0_ok x
  rw [seG_eq] at h
  have r := way_reach (P := Tryd.prog) (T := tabSe) (stop := atReg 5) (n := 100) (L := [.code seC]) (R := [.code seC]) (p := []) (t0 := .s false x :: undefs 78) (H0 := []) (M := seMA) tabSe_sound rfl (by
    have : ∀ r : Res, condsP r [] = [] := fun r => by cases r <;> rfl
    rw [this]; rfl) (by
    have : ∀ r : Res, r.at [] = r := fun r => by cases r <;> rfl
    rw [this]; exact h) (by
    have e0 : ltQ false 0 (x.length : Int) = decide (0 < x.length) := by rw [ltQ_eq, Bool.eq_iff_iff]; simp
    rw [e0]
    cases hg : isNeg x with
    | true =>
      have := isNeg_pos hg
      simp [allT, andT, ix0_ok this]; omega
    | false =>
      by_cases h0 : 0 < x.length
      · simp [allT, andT, h0, ix0_ok h0]
      · simp [allT, h0])
  unfold seenR
  cases hg : isNeg x with
  | true =>
    rw [hg] at r
    have e : List.drop (Int.toNat 1) (List.take x.length x) = x.drop 1 := by rw [List.take_length]; rfl
    simp only [cond_true, e] at r
    exact se_mid x _ _ (.inr rfl) r
  | false =>
    rw [hg] at r
    exact se_mid x _ _ (.inl rfl) r
noncomputable def gSee : List AV → Option (AV × List Bool)
  | [.s _ x] => some (.tup [.f false .f32 (seX x), .b false (seB x)], [])
  | _ => none
theorem see_at : SoundAt Tryd.prog 46 (pureT gSee) := fun args H nd K => by
  refine pureT_sound (fun args v n h hn H => ?_) args H nd K
  unfold gSee at h
  split at h <;> (try (cases h; done))
  rename_i l x
  cases h
  exact ((se_ok0 x).lift rfl rfl H rfl).bare (args' := [.s l x]) rfl
end Go.Ax

/- spec.l01Split: the parts of a text between bytes. -/
namespace Go.Ax
open Go Go.Proofs

/-- The parts of a text. -/
def spl (b : UInt8) : List UInt8 → List (List UInt8)
  | [] => [[]]
  | c :: cs => bif c == b then [] :: spl b cs else match spl b cs with
    | h :: t => (c :: h) :: t
    | [] => [[c]]
/-- Something put ahead of the first part. -/
def onH (p : List UInt8) : List (List UInt8) → List (List UInt8)
  | h :: t => (p ++ h) :: t
  | [] => [p]
theorem spl_ne (b : UInt8) : ∀ x, spl b x ≠ []
  | [] => by simp [spl]
  | c :: cs => by
    unfold spl
    cases c == b with
    | true => simp
    | false => simp only [cond_false]; split <;> simp
theorem onH_nil {l : List (List UInt8)} (h : l ≠ []) : onH [] l = l := by cases l <;> simp_all [onH]
theorem spl_hit {b : UInt8} {cs : List UInt8} : spl b (b :: cs) = [] :: spl b cs := by simp [spl]
theorem spl_miss {b c : UInt8} (h : (c == b) = false) (cs : List UInt8) : spl b (c :: cs) = onH [c] (spl b cs) := by
  simp only [spl, h, cond_false]
  cases hs : spl b cs with
  | nil => exact absurd hs (spl_ne b cs)
  | cons h t => rfl
theorem onH_onH (p q : List UInt8) (l : List (List UInt8)) : onH p (onH q l) = onH (p ++ q) l := by cases l <;> simp [onH]
theorem spl_len (b : UInt8) : ∀ x, (spl b x).length ≤ x.length + 1
  | [] => by simp [spl]
  | c :: cs => by
    have ih := spl_len b cs
    unfold spl
    cases c == b with
    | true => simp; omega
    | false =>
      simp only [cond_false]
      split <;> simp_all <;> omega

noncomputable def tabSp : Table := tabOf (jdeep Tryd.prog [] [] 3000 8)
theorem tabSp_sound : SoundT Tryd.prog tabSp := jdeep_sound (fun p hp => by cases hp) 8
noncomputable def spC : Code := Tryd.f29.body.getD .skip
noncomputable def sp0 (x : List UInt8) (b : Int) : Res := jupto Tryd.prog tabSp atLoop 100 [.code spC] (.s false x :: .i false .u8 b :: undefs 33) []
noncomputable def spL : List Item := (sp0 [] 0).todo
noncomputable def spR : List Item := toLp spL
def spTs (x : List UInt8) (b : Int) (s : AV) (a k : Int) : List AV := tmpsOf 35 [(0, .s false x), (1, .i false .u8 b), (5, s), (6, .i false .i64 a), (7, .i false .i64 k)]
def spT (x : List UInt8) (b : Int) (m : Nat) (a k : Int) : List AV := spTs x b (.sl false 0 0 m 1) a k
def spM : List Bool := maskOf 35 [(0, .any), (1, .any), (5, .any), (6, .any), (7, .any)]
def sb (ys : List (List UInt8)) : List AB := [.cells true (.strs ys)]
noncomputable def spU (x : List UInt8) (b : Int) (ys : List (List UInt8)) (a k : Nat) : Res := jupto Tryd.prog tabSp atLoop 100 spR (spT x b ys.length (Int.ofNat a) (Int.ofNat k)) (sb ys)
theorem sp0_ok (x : List UInt8) (b : Int) : lfM spM (sp0 x b) = (true, spL, (spT x b 0 0 0).map AV.bare, sb [], []) := by kernel_rfl
def apS (ys : List (List UInt8)) : Bool := decide (0 = 0) && decide (1 = 1) && decide (ys.length * 1 = (Cells.strs ys).len) && decide ((2 * (ys.length + 1) + 1024) * 16 ≤ 2 ^ 48)
def cutQ (x : List UInt8) (a k : Nat) : Bool := decide (0 ≤ Int.ofNat a) && decide (0 ≤ Int.ofNat k) && decide ((Int.ofNat a).toNat ≤ (Int.ofNat k).toNat) && decide ((Int.ofNat k).toNat ≤ x.length)
def cutV (x : List UInt8) (a k : Nat) : List UInt8 := List.drop (Int.ofNat a).toNat (List.take (Int.ofNat k).toNat x)
def spN (ys : List (List UInt8)) (v : List UInt8) : List AB := [.dead, .cells true (.lit [.s false v]), .cells true (.strs (List.take (ys.length * 1) (List.drop 0 ys) ++ [v]))]
theorem spU_hit (x : List UInt8) (b : Int) (ys : List (List UInt8)) (a k : Nat) : (condsP (spU x b ys a k) [true, true], lfM spM ((spU x b ys a k).at [true, true])) =
    ([ltQ false (Int.ofNat k) x.length, eqQ false (chA x k) b], (true, spR, (spTs x b (.sl false 2 0 (ys.length + 1) 1) (wrapQ false .i64 (Int.ofNat k + 1)) (wrapQ false .i64 (Int.ofNat k + 1))).map AV.bare, spN ys (cutV x a k), [apS ys, cutQ x a k, ixQ x k])) := by kernel_rfl
theorem sp_drop (x : List UInt8) (b : Int) (ys : List (List UInt8)) (v : List UInt8) (a k : Int) : dropsT 0 [1, 0] (spTs x b (.sl false 2 0 (ys.length + 1) 1) a k) (spN ys v) = (true, spT x b (ys.length + 1) a k, sb (List.take (ys.length * 1) (List.drop 0 ys) ++ [v])) := by kernel_rfl
theorem spU_miss (x : List UInt8) (b : Int) (ys : List (List UInt8)) (a k : Nat) : (condsP (spU x b ys a k) [true, false], lfM spM ((spU x b ys a k).at [true, false])) =
    ([ltQ false (Int.ofNat k) x.length, !eqQ false (chA x k) b], (true, spR, (spT x b ys.length (Int.ofNat a) (wrapQ false .i64 (Int.ofNat k + 1))).map AV.bare, sb ys, [ixQ x k])) := by kernel_rfl
theorem spU_end (x : List UInt8) (b : Int) (ys : List (List UInt8)) (a k : Nat) : (condsP (spU x b ys a k) [false], leafE Tryd.prog Tryd.f29.results.toList 0 [1, 0] ((spU x b ys a k).at [false])) =
    ([!ltQ false (Int.ofNat k) x.length], some (.sl false 0 0 (ys.length + 1) 1, sb (List.take (ys.length * 1) (List.drop 0 ys) ++ [List.drop (Int.ofNat a).toNat (List.take x.length x)]),
      allT [apS ys, decide (0 ≤ Int.ofNat a) && true && decide ((Int.ofNat a).toNat ≤ x.length) && decide (x.length ≤ x.length)])) := by kernel_rfl

theorem fn29 : Tryd.prog.funcs[29]? = some Tryd.f29 := Tryd.func29
theorem body29 : Tryd.f29.body = some spC := rfl
theorem take_all (ys : List (List UInt8)) : List.take (ys.length * 1) (List.drop 0 ys) = ys := by simp
theorem apS_ok {ys : List (List UInt8)} (h : ys.length ≤ 2097152) : apS ys = true := by
  simp only [apS, Cells.len, Nat.mul_one, Bool.and_eq_true, decide_eq_true_eq]
  exact ⟨⟨⟨trivial, trivial⟩, trivial⟩, by omega⟩
theorem eqQ_byte (c b : UInt8) : eqQ false (c.toNat : Int) (b.toNat : Int) = (c == b) := by
  rw [eqQ_eq, Bool.eq_iff_iff]
  simp only [beq_iff_eq]
  constructor
  · intro h; exact UInt8.toNat_inj.1 (by omega)
  · intro h; rw [h]

theorem sp_loop (x : List UInt8) (b : UInt8) (hx : x.length ≤ 1048576) : ∀ (m k a : Nat) (ys : List (List UInt8)) (L : List Item), k + m = x.length → a ≤ k → ys.length ≤ k → toLp L = toLp spR → Reach Tryd.prog [.code spC] ([.s false x, .i false .u8 (b.toNat : Int)] ++ undefs (Tryd.f29.ntmps - 2)) [] L (spT x b.toNat ys.length (Int.ofNat a) (Int.ofNat k)) (sb ys) →
    CallOK Tryd.prog 29 [.s false x, .i false .u8 (b.toNat : Int)] [] (.sl false 0 0 (ys ++ onH (cutV x a k) (spl b (x.drop k))).length 1) (sb (ys ++ onH (cutV x a k) (spl b (x.drop k))))
  | 0, k, a, ys, L, hk, ha, hy, hL, hr => by
    have hk' : k = x.length := by omega
    subst hk'
    have h := spU_end x b.toNat ys a x.length
    simp only [Prod.mk.injEq] at h
    have := jend_lp tabSp_sound hL fn29 body29 hr (by show allT (condsP (spU x b.toNat ys a x.length) [false]) = true; rw [h.1, ltQ_same]; rfl) h.2 (by
      have := apS_ok (ys := ys) (by omega)
      simp [allT, this]; omega)
    rw [take_all] at this
    have e : onH (cutV x a x.length) (spl b (x.drop x.length)) = [List.drop (Int.ofNat a).toNat (List.take x.length x)] := by simp [spl, onH, cutV]
    rw [e, List.length_append]
    exact this
  | m + 1, k, a, ys, L, hk, ha, hy, hL, hr => by
    have hkl : k < x.length := by omega
    obtain ⟨c, hc⟩ : ∃ c, x[k]? = some c := ⟨_, List.getElem?_eq_getElem hkl⟩
    have hd : x.drop k = c :: x.drop (k + 1) := by
      rw [List.drop_eq_getElem_cons hkl]
      have := (List.getElem?_eq_some_iff.1 hc).2
      rw [this]
    have hlt : ltQ false (Int.ofNat k) (x.length : Int) = true := ltQ_true hkl
    have hnx : wrapQ false .i64 (Int.ofNat k + 1) = Int.ofNat (k + 1) := ofNat_next (by omega)
    have hch := chA_eq hc
    rw [hd]
    cases hcb : c == b with
    | true =>
      have hcb' : c = b := by simpa using hcb
      subst hcb'
      have h := spU_hit x c.toNat ys a k
      simp only [Prod.mk.injEq] at h
      rw [hnx] at h
      have r1 := hr.trans (way_reach (stop := atLoop) (n := 100) (R := spR) (p := [true, true]) (M := spM) tabSp_sound hL (by show allT (condsP (spU x c.toNat ys a k) [true, true]) = true; rw [h.1, hlt, hch, eqQ_byte]; simp [allT]) h.2 (by
        have := apS_ok (ys := ys) (by omega)
        simp [allT, this, ixQ_ok hkl, cutQ]; omega))
      have r2 := r1.drops (ks := [1, 0]) (sp_drop x c.toNat ys (cutV x a k) _ _)
      rw [take_all] at r2
      have e : (ys ++ [cutV x a k]).length = ys.length + 1 := by simp
      rw [← e] at r2
      have := sp_loop x c hx m (k + 1) (k + 1) (ys ++ [cutV x a k]) spR (by omega) (Nat.le_refl _) (by simp; omega) rfl r2
      have e2 : cutV x (k + 1) (k + 1) = [] := by simp [cutV]
      rw [e2, onH_nil (spl_ne _ _)] at this
      rw [spl_hit]
      have e3 : ys ++ onH (cutV x a k) ([] :: spl c (x.drop (k + 1))) = ys ++ [cutV x a k] ++ spl c (x.drop (k + 1)) := by simp [onH]
      rw [e3]
      exact this
    | false =>
      have h := spU_miss x b.toNat ys a k
      simp only [Prod.mk.injEq] at h
      rw [hnx] at h
      have r2 := hr.trans (way_reach (stop := atLoop) (n := 100) (R := spR) (p := [true, false]) (M := spM) tabSp_sound hL (by show allT (condsP (spU x b.toNat ys a k) [true, false]) = true; rw [h.1, hlt, hch, eqQ_byte, hcb]; rfl) h.2 (by simp [allT, ixQ_ok hkl]))
      have := sp_loop x b hx m (k + 1) a ys spR (by omega) (by omega) (by omega) rfl r2
      rw [spl_miss hcb, onH_onH]
      have e : cutV x a (k + 1) = cutV x a k ++ [c] := by
        simp only [cutV, Int.ofNat_eq_natCast, Int.toNat_natCast]
        rw [List.take_add_one, hc, List.drop_append_of_le_length (by simp; omega)]
        rfl
      rw [← e]
      exact this
theorem sp_ok0 (x : List UInt8) (b : UInt8) (hx : x.length ≤ 1048576) : CallOK Tryd.prog 29 [.s false x, .i false .u8 (b.toNat : Int)] [] (.sl false 0 0 (spl b x).length 1) (sb (spl b x)) := by
  have r := way_reach (P := Tryd.prog) (T := tabSp) (stop := atLoop) (n := 100) (L := [.code spC]) (R := [.code spC]) (p := []) (t0 := .s false x :: .i false .u8 b.toNat :: undefs 33) (H0 := []) (M := spM) tabSp_sound rfl (by rw [conds_nil]; rfl) (by rw [at_nil]; exact sp0_ok x b.toNat) rfl
  have := sp_loop x b hx x.length 0 0 [] spL (by omega) (Nat.le_refl _) (Nat.le_refl _) (by kernel_rfl) r
  have e : cutV x 0 0 = [] := by simp [cutV]
  rw [e, List.drop_zero, onH_nil (spl_ne _ _), List.nil_append] at this
  exact this
/-- The parts of a text in any memory. -/
theorem sp_ok (x : List UInt8) (b : UInt8) (hx : x.length ≤ 1048576) (H : List AB) : CallOK Tryd.prog 29 [.s false x, .i false .u8 (b.toNat : Int)] H (.sl false H.length 0 (spl b x).length 1) (H ++ sb (spl b x)) := by
  have h := (sp_ok0 x b hx).fresh (fun g => rfl) rfl H
  have e : mapV (pickI 0 H.length []) (AV.sl false 0 0 (spl b x).length 1) = .sl false H.length 0 (spl b x).length 1 := by simp [mapV, pickI]
  rw [e] at h
  exact h
end Go.Ax

/- Rows out of the kit's contracts: strconv's two errors, strings.Split, strings.Cut. -/
namespace Go.Ax
open Go Go.Proofs Go.RowKit

/-- A call that leaves what was there, and whose answer is of no further use. -/
theorem below_sim {σ : List (Nat × Nat)} {H : List AB} {w w' : World} (s : Sim σ H w) (hb : Below w.heap.size w w') : Sim σ H w' ∧ Fr σ H w σ H w' :=
  sim_fr s s.len (fun i b z hi => by
    have h := s.blk i b z hi
    cases hg : getB H i with
    | dead => trivial
    | cells r B =>
      have := s.lt hi (by rw [hg]; rfl)
      rw [hb.block b this, ← hg]; exact h
    | code o0 xs0 =>
      have := s.lt hi (by rw [hg]; rfl)
      rw [hb.block b this, ← hg]; exact h) s.inj
    ⟨hb.os, hb.tape, hb.output, hb.size, fun b hlt _ => hb.block b hlt, Ext.refl σ, fun i b z h h' => (by rw [h'] at h; cases h), fun _ _ h => h⟩
def gErr : List AV → Option (AV × List Bool)
  | [.s _ _, .s _ x] => some (.any, [decide (x.length ≤ 1048576)])
  | _ => none
theorem two_strs {σ : List (Nat × Nat)} {l l' : Bool} {x y : List UInt8} {rargs : Array Value} (h : RelL σ [.s l x, .s l' y] rargs.toList) : rargs = #[.string ⟨x.toArray⟩, .string ⟨y.toArray⟩] := by
  obtain ⟨r1, r2, hrs, h1, h2⟩ := relL_two h
  have hra' : rargs = #[r1, r2] := by rw [← Array.toArray_toList (xs := rargs), hrs]
  subst hra'
  cases h1; cases h2; rfl
theorem size_le {x : List UInt8} {n : Nat} (h : x.length ≤ n) : (⟨x.toArray⟩ : ByteArray).size ≤ n := by
  show x.toArray.size ≤ n
  simpa using h
theorem syn_at : SoundAt Tryd.prog 81 (pureT gErr) := fun args H nd K => by
  refine pureT_sound (fun args v n h hn H => ?_) args H nd K
  unfold gErr at h
  split at h <;> (try (cases h; done))
  rename_i l f l' x
  cases h
  simp only [allT, Bool.and_true, decide_eq_true_eq] at hn
  intro σ w rargs s hra
  rw [two_strs hra]
  obtain ⟨ev, h1, h2⟩ := (s.base (5, 0, isIfc) (by simp [baseC])).1
  refine (AnyPu.strconv_syntaxError laysSyn ⟨f.toArray⟩ ⟨x.toArray⟩ ev w (size_le (Nat.le_trans hn (by decide))) h1 h2).mono ?_
  rintro e w' ⟨N, rfl, _, _, hb⟩
  obtain ⟨s', f'⟩ := below_sim s hb
  exact ⟨_, rfl, σ, .any, s', f'⟩
theorem rng_at : SoundAt Tryd.prog 82 (pureT gErr) := fun args H nd K => by
  refine pureT_sound (fun args v n h hn H => ?_) args H nd K
  unfold gErr at h
  split at h <;> (try (cases h; done))
  rename_i l f l' x
  cases h
  simp only [allT, Bool.and_true, decide_eq_true_eq] at hn
  intro σ w rargs s hra
  rw [two_strs hra]
  obtain ⟨ev, h1, h2⟩ := (s.base (6, 0, isIfc) (by simp [baseC])).1
  refine (AnyPu.strconv_rangeError laysRng ⟨f.toArray⟩ ⟨x.toArray⟩ ev w (size_le (Nat.le_trans hn (by decide))) h1 h2).mono ?_
  rintro e w' ⟨N, rfl, _, _, hb⟩
  obtain ⟨s', f'⟩ := below_sim s hb
  exact ⟨_, rfl, σ, .any, s', f'⟩
end Go.Ax
