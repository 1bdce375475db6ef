/- Regions of open order in which calls that write to one block (and follow each other) stand among operations that leave memory alone. -/
import Derived.Test.YtdcjjibekhcplaaGreatBae
import Derived.Test.YtdcjjibekhcplaaGreatProg
import Derived.KernelRfl
namespace Go.Ax
open Go

section
variable {P : Program} {T : Table} {ops : Array Oper} {m : Nat}

/-- An operation of the one block that is written: its value, and memory behind it. -/
def EVal (P : Program) (ops : Array Oper) (k : Nat) (t : List AV) (H : List AB) (v : AV) (H1 : List AB) : Prop :=
  ∃ o, ops[k]? = some o ∧ ∀ (σ : List (Nat × Nat)) (w : World) (a : Act) (Q : Exit → Act → World → Prop) (next : Act → World → Prop), Sim σ H w →
    (∀ n ∈ looks ops o, Rel σ (getL t n) (a.tmps.getD n undef)) → a.tmps.size = t.length →
    (∀ rv w', Rel σ v rv → Sim σ H1 w' → Fr σ H w σ H1 w' → next (a.put o.dst rv) w') → wpOp P ops Q k next a w
theorem getB_setB {H : List AB} {src i : Nat} {B : AB} : getB (setB H src B) i = if i = src ∧ src < H.length then B else getB H i := by
  by_cases h : i = src
  · subst h
    by_cases h2 : i < H.length
    · rw [getB_setB_same h2, if_pos ⟨rfl, h2⟩]
    · rw [if_neg (fun e => h2 e.2)]
      have : ∀ (l : List AB) (n : Nat) (v : AB), l.length ≤ n → setB l n v = l := by
        intro l
        induction l with
        | nil => intros; rfl
        | cons a l ih => intro n v hn; cases n with
          | zero => simp at hn
          | succ n => simp only [setB]; rw [ih n v (by simpa using hn)]
      rw [this H i B (by omega)]
  · rw [getB_setB_ne (Ne.symm h), if_neg (fun e => h e.1)]
theorem QVal.alive {k src : Nat} {t : List AV} {G Hd : List AB} {v : AV} (h : QVal P ops k t Hd v) (e : setB G src .dead = Hd) (hrw : (getB G src).rw = true) : QVal P ops k t G v := by
  obtain ⟨o, ho, hq⟩ := h
  refine ⟨o, ho, fun σ w a Q next s r hsz q => ?_⟩
  subst e
  have hsl : src < G.length := by
    rcases Nat.lt_or_ge src G.length with h | h
    · exact h
    · rw [getB_none h] at hrw; cases hrw
  have sd : Sim σ (setB G src .dead) w := by
    refine ⟨by rw [setB_length]; exact s.len, fun i b z hb => ?_, fun i j b z z' hi hj hr hl => ?_⟩
    · rw [getB_setB]
      split
      · trivial
      · exact s.blk i b z hb
    · rw [getB_setB] at hr hl
      split at hr
      · cases hr
      · split at hl
        · cases hl
        · exact s.inj i j b z z' hi hj hr hl
  refine hq σ w a Q next sd r hsz fun rv w' hr s' f' => q rv w' hr ?_ ?_
  · refine ⟨s.len, fun i b z hb => ?_, s.inj⟩
    by_cases hi : i = src
    · subst hi
      have hlt := s.lt hb (rw_live hrw)
      rw [f'.old b hlt fun i' z' hr' hi' => ?_]
      · exact s.blk i b z hb
      · rw [getB_setB] at hr'
        split at hr'
        · cases hr'
        · rename_i hne
          exact hne ⟨s.inj i' i b z' z hi' hb hr' (rw_live hrw), hsl⟩
    · have := s'.blk i b z hb
      rwa [getB_setB, if_neg (fun e => hi e.1)] at this
  · refine ⟨f'.os, f'.tape, f'.output, f'.size, fun b hb hno => f'.old b hb fun i z hr' => ?_, Ext.refl _, fun i b z h h' => (by rw [h'] at h; cases h), fun _ _ h => h⟩
    rw [getB_setB] at hr'
    split at hr'
    · cases hr'
    · exact hno i z hr'

theorem any_mix (hok : drawOK ops m = true) (hmn : m ≤ ops.size) {t t' : List AV} {Hd H' : List AB} {val : Nat → AV} {eff : Nat → Bool} {mem : Nat → List AB} {src : Nat}
    (hq : ∀ i, i < m → eff i = false → QVal P ops i (stAt ops val t 0 i) Hd (val i) ∧ mem (i + 1) = mem i)
    (he : ∀ i, i < m → eff i = true → EVal P ops i (stAt ops val t 0 i) (mem i) (val i) (mem (i + 1)) ∧ ∀ k, k < i → eff k = true → aheadOf ops 10 i k = true)
    (hm : ∀ i, i ≤ m → setB (mem i) src .dead = Hd ∧ (getB (mem i) src).rw = true)
    (c : Chain P ops m (stAt ops val t 0 m) (mem m) ops.size t' H') {Q : Exit → Act → World → Prop} {σ : List (Nat × Nat)} :
    ∀ (fuel : Nat) (listed : Array Bool) (a : Act) (w : World) (k : Nat), listed.size = ops.size → Down ops listed →
      (left ops listed).length ≤ fuel → (∀ i, m ≤ i → ¬ Ls listed i) → k ≤ m → (∀ i, i < m → eff i = true → (Ls listed i ↔ i < k)) → Sim σ (mem k) w → a.tmps.size = t.length →
      (∀ x, (∀ i, i < m → Ls listed i → gDst ops i = some x → x < t.length → Rel σ (val i) (a.tmps.getD x undef)) ∧ ((∀ i, i < m → Ls listed i → gDst ops i ≠ some x) → Rel σ (getL t x) (a.tmps.getD x undef))) →
      (∀ a' w' σ', RelL σ' t' a'.tmps.toList → a'.defers = a.defers → Sim σ' H' w' → Fr σ (mem k) w σ' H' w' → Q .normal a' w') → wpAny P .any ops Q fuel listed a w := by
  have hdist : ∀ i i', i < m → i' < m → i' ≠ i → ∀ x, gDst ops i = some x → gDst ops i' ≠ some x := fun i i' hi hi' hne x hx => by
    have hoi : ops[i]? = some ops[i] := Array.getElem?_eq_getElem (by omega)
    have hd : ops[i].dst = some x := by simpa [gDst, hoi] using hx
    exact ((drawOK_spec hok i _ hoi).2.1 hi).2 i' hi' hne x hd
  -- memory stays where nothing of the one block comes between
  have hsame : ∀ (n k : Nat), k + n ≤ m → (∀ i, k ≤ i → i < k + n → eff i = false) → mem (k + n) = mem k := by
    intro n
    induction n with
    | zero => intros; rfl
    | succ n ih =>
      intro k hk hno
      rw [show k + (n + 1) = (k + n) + 1 by omega, (hq (k + n) (by omega) (hno _ (by omega) (by omega))).2]
      exact ih k (by omega) fun i h1 h2 => hno i h1 (by omega)
  have htail : ∀ (fuel : Nat) (listed : Array Bool) (a : Act) (w : World) (k : Nat), listed.size = ops.size → Down ops listed →
      (left ops listed).length ≤ fuel → (∀ i, m ≤ i → ¬ Ls listed i) → (∀ i, i < m → Ls listed i) → k ≤ m → (∀ i, i < m → eff i = true → (Ls listed i ↔ i < k)) → Sim σ (mem k) w → a.tmps.size = t.length →
      (∀ x, (∀ i, i < m → Ls listed i → gDst ops i = some x → x < t.length → Rel σ (val i) (a.tmps.getD x undef)) ∧ ((∀ i, i < m → Ls listed i → gDst ops i ≠ some x) → Rel σ (getL t x) (a.tmps.getD x undef))) →
      (∀ a' w' σ', RelL σ' t' a'.tmps.toList → a'.defers = a.defers → Sim σ' H' w' → Fr σ (mem k) w σ' H' w' → Q .normal a' w') → wpAny P .any ops Q fuel listed a w := by
    intro fuel listed a w k hsz hd hf hnm hall hkm hk s hat hx q
    have hmk : mem m = mem k := by
      have := hsame (m - k) k (by omega) fun i h1 h2 => by
        cases hei : eff i with
        | false => rfl
        | true => have := (hk i (by omega) hei).1 (hall i (by omega)); omega
      rwa [show k + (m - k) = m by omega] at this
    rw [← hmk] at s q
    refine any_tail hok fuel listed m _ (mem m) σ a w hsz hd hf (Nat.le_refl _) (fun i hi => ⟨fun h => ?_, fun h => hall i h⟩) c s ?_ q
    · rcases Nat.lt_or_ge i m with h' | h'
      · exact h'
      · exact absurd h (hnm i h')
    · refine RelL.of_get (by rw [stAt_length]; simpa using hat.symm) fun x b y hb hy => ?_
      have hxl : x < t.length := by
        rcases Nat.lt_or_ge x t.length with h' | h'
        · exact h'
        · rw [List.getElem?_eq_none (by rw [stAt_length]; exact h')] at hb; cases hb
      have hb' : b = getL (stAt ops val t 0 m) x := by
        rw [getL_some (by rw [stAt_length]; exact hxl)] at hb; cases hb; rfl
      have hy' : a.tmps.getD x undef = y := by
        have : a.tmps[x]? = some y := by simpa using hy
        rw [Array.getD_eq_getD_getElem?, this]; rfl
      subst hb'
      rw [← hy']
      by_cases hex : ∃ i, i < m ∧ gDst ops i = some x
      · obtain ⟨i, hi, hgi⟩ := hex
        rw [stAt_val ops val m 0 t i (by omega) (by omega) hgi hxl (fun i' _ h2 h3 => hdist i i' hi (by omega) h3 x hgi)]
        exact (hx x).1 i hi (hall i hi) hgi hxl
      · have hno : ∀ i, i < m → gDst ops i ≠ some x := fun i hi hg => hex ⟨i, hi, hg⟩
        rw [stAt_untouched ops val m 0 t (fun i _ h2 => hno i (by omega))]
        exact (hx x).2 fun i hi _ => hno i hi
  intro fuel
  induction fuel with
  | zero =>
    intro listed a w k hsz hd hf hnm hkm hk s hat hx q
    refine htail 0 listed a w k hsz hd hf hnm (fun i hi => ?_) hkm hk s hat hx q
    apply Classical.byContradiction
    intro hn
    have : i ∈ left ops listed := mem_left.2 ⟨by omega, hn⟩
    have := List.length_pos_of_mem this
    omega
  | succ fuel ih =>
    intro listed a w k hsz hd hf hnm hkm hk s hat hx q
    by_cases hall : ∀ i, i < m → Ls listed i
    · exact htail _ listed a w k hsz hd hf hnm hall hkm hk s hat hx q
    refine ⟨fun hr => ?_, fun j hj => ?_⟩
    · exfalso
      apply hall
      intro i hi
      apply Classical.byContradiction
      intro hn
      obtain ⟨y, hy⟩ := ready_some hok hsz i (by omega) hn
      rw [hr] at hy; cases hy
    · obtain ⟨hnl, o, ho, hafter⟩ := (mem_ready' hsz).1 hj
      have hjs := (Array.getElem?_eq_some_iff.1 ho).1
      have hjm : j < m := by
        rcases Nat.lt_or_ge j m with h | h
        · exact h
        · exfalso
          apply hall
          intro i hi
          exact ahead_ready hd hsz hj ((drawOK_spec hok j o ho).2.2 h i (by omega))
      have hdst : gDst ops j = o.dst := by simp [gDst, ho]
      have hlook : ∀ n ∈ looks ops o, Rel σ (getL (stAt ops val t 0 j) n) (a.tmps.getD n undef) := fun n hn => by
        by_cases hnl' : n < t.length
        · by_cases hex : ∃ i, i < m ∧ gDst ops i = some n
          · obtain ⟨i, hi, hgi⟩ := hex
            have hah := ((drawOK_spec hok j o ho).2.1 hjm).1 n hn i hi hgi
            have hil := ahead_ready hd hsz hj hah
            have him : i < m := hi
            have hij : i < j := aheadOf_lt hok 10 j i hah
            rw [stAt_val ops val j 0 t i (by omega) (by omega) hgi hnl' (fun i' _ h2 h3 => hdist i i' him (by omega) h3 n hgi)]
            exact (hx n).1 i him hil hgi hnl'
          · have hno : ∀ i, i < m → gDst ops i ≠ some n := fun i hi hg => hex ⟨i, hi, hg⟩
            rw [stAt_untouched ops val j 0 t (fun i _ h2 => hno i (by omega))]
            exact (hx n).2 fun i hi _ => hno i (by omega)
        · rw [getL_none (by rw [stAt_length]; omega)]
          have : a.tmps.getD n undef = undef := by
            rw [Array.getD_eq_getD_getElem?, Array.getElem?_eq_none (by omega)]; rfl
          rw [this]; exact .tup .nil
      -- behind the operation
      have hnext : ∀ (k' : Nat) (rv : Value) (w' : World), k' ≤ m → (∀ i, i < m → eff i = true → (Ls (listed.setIfInBounds j true) i ↔ i < k')) → Rel σ (val j) rv → Sim σ (mem k') w' → Fr σ (mem k) w σ (mem k') w' →
          wpAny P .any ops Q fuel (listed.setIfInBounds j true) (a.put o.dst rv) w' := fun k' rv w' hk'm hk' hrv s' f' => by
        refine ih (listed.setIfInBounds j true) (a.put o.dst rv) w' k' (by simpa using hsz) (hd.set hsz hj) ?_ (fun i hi => ?_) hk'm hk' s' ?_ (fun x => ⟨fun i hi hli hgi hxl => ?_, fun hno => ?_⟩) fun a2 w2 σ2 r2 d2 s2 f2 => q a2 w2 σ2 r2 (d2.trans (put_defers _ _ _)) s2 (f'.trans f2)
        · have := left_set hjs hsz hnl; omega
        · rw [Ls_set (by omega)]; rintro (rfl | h)
          · omega
          · exact hnm i hi h
        · cases o.dst <;> simp [Act.put, hat]
        · rw [Ls_set (by omega)] at hli
          by_cases hij : i = j
          · subst hij
            rw [hdst] at hgi
            rw [hgi]
            simp only [Act.put]
            rw [Array.getD_eq_getD_getElem?, Array.getElem?_setIfInBounds_self_of_lt (by omega)]
            exact hrv
          · have hne : o.dst ≠ some x := by rw [← hdst]; exact hdist i j hi hjm (Ne.symm hij) x hgi
            have : (a.put o.dst rv).tmps.getD x undef = a.tmps.getD x undef := by
              cases hod : o.dst with
              | none => rfl
              | some d =>
                have hdx : d ≠ x := fun e => hne (by rw [hod, e])
                simp [Act.put, Array.getD_eq_getD_getElem?, Array.getElem?_setIfInBounds_ne hdx]
            rw [this]
            exact (hx x).1 i hi (hli.resolve_left hij) hgi hxl
        · have hne : o.dst ≠ some x := by rw [← hdst]; exact hno j hjm ((Ls_set (by omega)).2 (.inl rfl))
          have : (a.put o.dst rv).tmps.getD x undef = a.tmps.getD x undef := by
            cases hod : o.dst with
            | none => rfl
            | some d =>
              have hdx : d ≠ x := fun e => hne (by rw [hod, e])
              simp [Act.put, Array.getD_eq_getD_getElem?, Array.getElem?_setIfInBounds_ne hdx]
          rw [this]
          exact (hx x).2 fun i hi hli => hno i hi ((Ls_set (by omega)).2 (.inr hli))
      cases hej : eff j with
      | false =>
        obtain ⟨o', ho', hqv⟩ := (hq j hjm hej).1.alive (hm k hkm).1 (hm k hkm).2
        rw [ho] at ho'; cases ho'
        refine hqv σ w a Q _ s hlook (by rw [stAt_length]; exact hat) fun rv w' hrv s' f' => hnext k rv w' hkm (fun i hi hei => ?_) hrv s' f'
        rw [Ls_set (by omega)]
        have hij : i ≠ j := fun e => by rw [e, hej] at hei; cases hei
        rw [← hk i hi hei]
        exact ⟨fun h => h.resolve_left hij, .inr⟩
      | true =>
        obtain ⟨hev, hahead⟩ := he j hjm hej
        have hkj : k ≤ j := by
          rcases Nat.lt_or_ge j k with h | h
          · exact absurd ((hk j hjm hej).2 h) hnl
          · exact h
        have hmj : mem j = mem k := by
          have := hsame (j - k) k (by omega) fun i h1 h2 => by
            cases hei : eff i with
            | false => rfl
            | true =>
              have := (hk i (by omega) hei).1 (ahead_ready hd hsz hj (hahead i (by omega) hei))
              omega
          rwa [show k + (j - k) = j by omega] at this
        obtain ⟨o', ho', hqv⟩ := hev
        rw [ho] at ho'; cases ho'
        rw [hmj] at hqv
        refine hqv σ w a Q _ s hlook (by rw [stAt_length]; exact hat) fun rv w' hrv s' f' => hnext (j + 1) rv w' (by omega) (fun i hi hei => ?_) hrv s' f'
        rw [Ls_set (by omega)]
        constructor
        · rintro (rfl | h)
          · omega
          · have := (hk i hi hei).1 h; omega
        · intro h
          by_cases hij : i = j
          · exact .inl hij
          · exact .inr (ahead_ready hd hsz hj (hahead i (by omega) hei))
end

/-! ### Their evaluation -/
def roBut (src : Nat) (H : List AB) : List AB := setB (roH H) src (getB H src)
theorem roBut_get (src : Nat) (H : List AB) (i : Nat) : getB (roBut src H) i = if i = src then getB H i else roB (getB H i) := by
  unfold roBut
  rw [getB_setB, roH_length, getB_roH]
  by_cases h : i = src
  · subst h
    rw [if_pos rfl]
    by_cases h2 : i < H.length
    · rw [if_pos ⟨rfl, h2⟩]
    · rw [if_neg (fun e => h2 e.2), getB_none (by omega)]; rfl
  · rw [if_neg (fun e => h e.1), if_neg h]
theorem Sim.roBut {σ : List (Nat × Nat)} {H : List AB} {w : World} (s : Sim σ H w) (src : Nat) : Sim σ (roBut src H) w := by
  have hl : ∀ j, (getB (Go.Ax.roBut src H) j).live = true → (getB H j).live = true := fun j h => by
    rw [roBut_get] at h
    split at h
    · exact h
    · cases hg : getB H j <;> rw [hg] at h
      · exact h
      · rfl
      · rfl
  have hrw : ∀ j, (getB (Go.Ax.roBut src H) j).rw = true → (getB H j).rw = true := fun j h => by
    rw [roBut_get] at h
    split at h
    · exact h
    · rw [roB_rw] at h; cases h
  refine ⟨by unfold Go.Ax.roBut; rw [setB_length, roH_length]; exact s.len, fun i b z hb => ?_, fun i j b z z' hi hj hr hlv => s.inj i j b z z' hi hj (hrw i hr) (hl j hlv)⟩
  rw [roBut_get]
  split
  · exact s.blk i b z hb
  · have := s.ro.blk i b z hb
    rwa [getB_roH] at this
/-- Back from a call that was given one block to write to. -/
theorem Sim.back_one {σ σ' : List (Nat × Nat)} {H H' : List AB} {w w' : World} {src : Nat} (s : Sim σ H w) (hrw : (getB H src).rw = true) (s' : Sim σ' H' w') (f : Fr σ (Go.Ax.roBut src H) w σ' H' w')
    (hlow : lowB H.length (getB H' src) = true) (hrw' : (getB H' src).rw = true) : Sim σ (setB H src (getB H' src)) w' ∧ Fr σ H w σ (setB H src (getB H' src)) w' := by
  have hsl : src < H.length := by
    rcases Nat.lt_or_ge src H.length with h | h
    · exact h
    · rw [getB_none h] at hrw; cases hrw
  have hold : ∀ b, b < w.heap.size → (∀ z, σ[src]? ≠ some (b, z)) → w'.heap[b]? = w.heap[b]? := fun b hb hno => f.old b hb fun i z hr hi => by
    rw [roBut_get] at hr
    split at hr
    · rename_i e; subst e; exact hno z hi
    · rw [roB_rw] at hr; cases hr
  have hkey : ∀ i, (getB (setB H src (getB H' src)) i).rw = (getB H i).rw ∧ (getB (setB H src (getB H' src)) i).live = (getB H i).live := fun i => by
    rw [getB_setB]
    split
    · rename_i e
      rw [e.1, hrw', hrw]
      exact ⟨rfl, by rw [rw_live hrw', rw_live hrw]⟩
    · exact ⟨rfl, rfl⟩
  refine ⟨⟨by rw [setB_length]; exact s.len, fun i b z hb => ?_, fun i j b z z' hi hj hr hl => s.inj i j b z z' hi hj (by rw [← (hkey i).1]; exact hr) (by rw [← (hkey j).2]; exact hl)⟩, ?_⟩
  · rw [getB_setB]
    split
    · rename_i e
      have e1 := e.1
      subst e1
      exact low_blk f.ext s.len hlow (s'.blk i b z (f.ext i _ hb))
    · rename_i hne
      have hb0 := s.blk i b z hb
      cases hg : getB H i with
      | dead => trivial
      | cells r A =>
        rw [hg] at hb0
        have hlt := s.lt hb (by rw [hg]; rfl)
        rw [hold b hlt fun z' hs => hne ⟨(s.inj src i b z' z hs hb hrw (by rw [hg]; rfl)).symm, hsl⟩]
        exact hb0
      | code o0 xs0 =>
        rw [hg] at hb0
        have hlt := s.lt hb (by rw [hg]; rfl)
        rw [hold b hlt fun z' hs => hne ⟨(s.inj src i b z' z hs hb hrw (by rw [hg]; rfl)).symm, hsl⟩]
        exact hb0
  · exact ⟨f.os, f.tape, f.output, f.size, fun b hb hno => hold b hb fun z hs => hno src z hrw hs, Ext.refl _, fun i b z h h' => (by rw [h'] at h; cases h), fun i _ hr => by rwa [(hkey i).1] at hr⟩

def isEffCall (E : List FuncId) (o : Oper) : Bool :=
  match o.op with
  | .call c => match c.callee with
    | .value f => match f with
      | .func g => E.any (Nat.beq g)
      | _ => false
    | _ => false
  | .store _ _ _ => E.any (Nat.beq 0)
  | _ => false
def effAt (E : List FuncId) (ops : Array Oper) (i : Nat) : Bool :=
  match ops[i]? with
  | some o => isEffCall E o
  | none => false
def effOK (E : List FuncId) (ops : Array Oper) (m : Nat) : Bool := (List.range m).all fun j => !effAt E ops j || (List.range j).all fun i => !effAt E ops i || aheadOf ops 10 j i
section
variable (P : Program) (T : Table) (E : List FuncId) (src : Nat)
def runM : List Oper → List AV → List AB → List Bool → KT → Res
  | [], t, H, nd, K => K t H nd
  | o :: rest, t, H, nd, K =>
    match o.guard with
    | some _ => .fail
    | none => match isEffCall E o with
      | false => stepQ P T o t (setB H src .dead) nd fun t nd => runM rest t H nd K
      | true => if o.op.operands.all okOpd then
          match o.op with
          | .call c => match aCall c (evA t) with
            | some (g, args) => match P.funcs[g]? with
              | some fn => match fn.body with
                | some _ => match fn.name == "runtime.NumGoroutine" with
                  | true => .fail
                  | false => T g args (roBut src H) nd fun v H' nd' => match below H.length v && lowB H.length (getB H' src) && (getB H' src).rw with
                    | true => runM rest (putT t o.dst v) (setB H src (getB H' src)) nd' K
                    | false => .fail
                | none => .fail
              | none => .fail
            | none => .fail
          | .store ty x y => match eop P (.store ty x y) (evA t) (roBut src H) with
            | some (v, H', n) => match below H.length v && lowB H.length (getB H' src) && (getB H' src).rw with
              | true => runM rest (putT t o.dst v) (setB H src (getB H' src)) (n ++ nd) K
              | false => .fail
            | none => .fail
          | _ => .fail
        else .fail
end
inductive MChain (P : Program) (E : List FuncId) (ops : Array Oper) (src : Nat) (Hd : List AB) : Nat → List AV → List AB → Nat → List AV → List AB → Prop
  | nil {k : Nat} {t : List AV} {H : List AB} (hH : setB H src .dead = Hd) (hrw : (getB H src).rw = true) : MChain P E ops src Hd k t H k t H
  | q {k j : Nat} {t t' : List AV} {H H' : List AB} {v : AV} (he : effAt E ops k = false) (h : QVal P ops k t Hd v) (hH : setB H src .dead = Hd) (hrw : (getB H src).rw = true) (c : MChain P E ops src Hd (k + 1) (putT t (gDst ops k) v) H j t' H') : MChain P E ops src Hd k t H j t' H'
  | e {k j : Nat} {t t' : List AV} {H H1 H' : List AB} {v : AV} (he : effAt E ops k = true) (h : EVal P ops k t H v H1) (hH : setB H src .dead = Hd) (hrw : (getB H src).rw = true) (c : MChain P E ops src Hd (k + 1) (putT t (gDst ops k) v) H1 j t' H') : MChain P E ops src Hd k t H j t' H'
theorem MChain.vals {P : Program} {E : List FuncId} {ops : Array Oper} {src : Nat} {Hd : List AB} {k j : Nat} {t t' : List AV} {H H' : List AB} (c : MChain P E ops src Hd k t H j t' H') :
    ∃ (val : Nat → AV) (mem : Nat → List AB), k ≤ j ∧ t' = stAt ops val t k (j - k) ∧ mem k = H ∧ mem j = H' ∧ (∀ i, k ≤ i → i ≤ j → setB (mem i) src .dead = Hd ∧ (getB (mem i) src).rw = true) ∧
      ∀ i, k ≤ i → i < j → (effAt E ops i = false → QVal P ops i (stAt ops val t k (i - k)) Hd (val i) ∧ mem (i + 1) = mem i) ∧ (effAt E ops i = true → EVal P ops i (stAt ops val t k (i - k)) (mem i) (val i) (mem (i + 1))) := by
  have hcongr : ∀ (val : Nat → AV) (v : AV) (k n k' : Nat) (t : List AV), k < k' → stAt ops (fun i => if i = k then v else val i) t k' n = stAt ops val t k' n := by
    intro val v k n
    induction n with
    | zero => intros; rfl
    | succ n ihn => intro k' t hk; simp only [stAt]; rw [if_neg (by omega)]; exact ihn _ _ (by omega)
  have step : ∀ {k j : Nat} {t t' : List AV} {H H1 H' : List AB} {v : AV}, (setB H src .dead = Hd ∧ (getB H src).rw = true) →
      ((effAt E ops k = false → QVal P ops k t Hd v ∧ H1 = H) ∧ (effAt E ops k = true → EVal P ops k t H v H1)) →
      (∃ (val : Nat → AV) (mem : Nat → List AB), k + 1 ≤ j ∧ t' = stAt ops val (putT t (gDst ops k) v) (k + 1) (j - (k + 1)) ∧ mem (k + 1) = H1 ∧ mem j = H' ∧ (∀ i, k + 1 ≤ i → i ≤ j → setB (mem i) src .dead = Hd ∧ (getB (mem i) src).rw = true) ∧
        ∀ i, k + 1 ≤ i → i < j → (effAt E ops i = false → QVal P ops i (stAt ops val (putT t (gDst ops k) v) (k + 1) (i - (k + 1))) Hd (val i) ∧ mem (i + 1) = mem i) ∧ (effAt E ops i = true → EVal P ops i (stAt ops val (putT t (gDst ops k) v) (k + 1) (i - (k + 1))) (mem i) (val i) (mem (i + 1)))) →
      ∃ (val : Nat → AV) (mem : Nat → List AB), k ≤ j ∧ t' = stAt ops val t k (j - k) ∧ mem k = H ∧ mem j = H' ∧ (∀ i, k ≤ i → i ≤ j → setB (mem i) src .dead = Hd ∧ (getB (mem i) src).rw = true) ∧
        ∀ i, k ≤ i → i < j → (effAt E ops i = false → QVal P ops i (stAt ops val t k (i - k)) Hd (val i) ∧ mem (i + 1) = mem i) ∧ (effAt E ops i = true → EVal P ops i (stAt ops val t k (i - k)) (mem i) (val i) (mem (i + 1))) := by
    intro k j t t' H H1 H' v hH h ⟨val, mem, hle, e1, e2, e3, e4, e5⟩
    refine ⟨fun i => if i = k then v else val i, fun i => if i = k then H else mem i, by omega, ?_, by simp, by simp only []; rw [if_neg (by omega)]; exact e3, fun i h1 h2 => ?_, fun i h1 h2 => ?_⟩
    · rw [show j - k = (j - (k + 1)) + 1 by omega, e1]
      simp only [stAt, if_true]
      exact (hcongr _ _ _ _ _ _ (by omega)).symm
    · by_cases hik : i = k
      · simp only [hik, if_true]; exact hH
      · simp only [hik, if_false]; exact e4 i (by omega) h2
    · by_cases hik : i = k
      · subst hik
        simp only [Nat.sub_self, if_true, show ¬ i + 1 = i by omega, if_false, e2]
        exact h
      · have e6 : i - k = (i - (k + 1)) + 1 := by omega
        rw [e6]
        simp only [stAt, if_true, hik, if_false, show ¬ i + 1 = k by omega]
        rw [hcongr _ _ _ _ _ _ (by omega)]
        exact e5 i (by omega) h2
  induction c with
  | @nil k t H hH hrw => exact ⟨fun _ => .tup [], fun _ => H, Nat.le_refl _, (by rw [Nat.sub_self]; rfl), rfl, rfl, fun _ _ _ => ⟨hH, hrw⟩, fun i h1 h2 => by omega⟩
  | q he h hH hrw c ih => exact step ⟨hH, hrw⟩ ⟨fun _ => ⟨h, rfl⟩, fun h' => (by rw [he] at h'; cases h')⟩ ih
  | e he h hH hrw c ih => exact step ⟨hH, hrw⟩ ⟨fun h' => (by rw [he] at h'; cases h'), fun _ => h⟩ ih

section
variable {P : Program} {T : Table} {E : List FuncId} {src : Nat} {ops : Array Oper}
theorem runM_sound (hT : SoundT P T) (K : KT) {m : Nat} (hm : m ≤ ops.size) : ∀ (l : List Oper) (k : Nat) (t : List AV) (H Hd : List AB) (nd : List Bool), l = (ops.toList.take m).drop k → k ≤ m → setB H src .dead = Hd → (getB H src).rw = true →
    (runM P T E src l t H nd K).sel = .fail ∨ ∃ t' H' nd', (runM P T E src l t H nd K).sel = (K t' H' nd').sel ∧ (allT nd' = true → allT nd = true ∧ MChain P E ops src Hd k t H m t' H')
  | [], k, t, H, Hd, nd, hl, hk, hH, hrw => by
    have : m ≤ k := by
      have := congrArg List.length hl
      simp at this; omega
    have : k = m := by omega
    subst this
    exact .inr ⟨t, H, nd, rfl, fun h => ⟨h, .nil hH hrw⟩⟩
  | o :: rest, k, t, H, Hd, nd, hl, hk, hH, hrw => by
    obtain ⟨ho, hrest⟩ := drop_cons hl
    have hks : k < m := by
      rcases Nat.lt_or_ge k m with h' | h'
      · exact h'
      · rw [List.getElem?_eq_none (by simp; omega)] at ho; cases ho
    have ho' : ops[k]? = some o := by
      rw [List.getElem?_take_of_lt hks] at ho; simpa using ho
    have hgd : gDst ops k = o.dst := by simp [gDst, ho']
    unfold runM
    cases hg : o.guard with
    | some g => exact .inl rfl
    | none =>
      dsimp only
      have hw : ∀ (Q : Exit → Act → World → Prop) (next : Act → World → Prop) (a : Act) (w : World), (o.wp P a w next Q → wpOp P ops Q k next a w) := fun Q next a w h => by
        simp only [wpOp, ho']
        rw [if_pos (by simp [Region.wanted, hg])]
        exact .inl h
      cases he : isEffCall E o with
      | false =>
        have heff : effAt E ops k = false := by simp [effAt, ho', he]
        rcases stepQ_sound (H := setB H src .dead) hT o t nd (fun t nd => runM P T E src rest t H nd K) with h2 | ⟨v, nd2, h2, h3⟩
        · exact .inl h2
        rw [h2]
        rcases runM_sound hT K hm rest (k + 1) (putT t o.dst v) H Hd nd2 hrest hks hH hrw with h4 | ⟨t', H', nd', h4, h5⟩
        · exact .inl h4
        refine .inr ⟨t', H', nd', h4, fun hn => ?_⟩
        obtain ⟨h6, c⟩ := h5 hn
        obtain ⟨h8, hok, h9⟩ := h3 h6
        rw [← hgd] at c
        rw [hH] at h9
        exact ⟨h8, .q heff ⟨o, ho', fun σ w a Q next s r _ q => hw Q next a w (h9 σ w a Q next s (opds_looks hok fun n hn => r n hn) q)⟩ hH hrw c⟩
      | true =>
        have heff : effAt E ops k = true := by simp [effAt, ho', he]
        dsimp only
        split
        case isFalse => exact .inl rfl
        rename_i hok
        cases hop : o.op
        case call c =>
          dsimp only
          cases hcall : aCall c (evA t) with
          | none => exact .inl rfl
          | some x =>
            obtain ⟨g, args⟩ := x
            dsimp only
            cases hfn : P.funcs[g]? with
            | none => exact .inl rfl
            | some fn =>
              dsimp only
              cases hb : fn.body with
              | none => exact .inl rfl
              | some body =>
                dsimp only
                cases hname : (fn.name == "runtime.NumGoroutine") with
                | true => exact .inl rfl
                | false =>
                  dsimp only
                  rcases hT g args (roBut src H) nd (fun v H' nd' => match below H.length v && lowB H.length (getB H' src) && (getB H' src).rw with
                    | true => runM P T E src rest (putT t o.dst v) (setB H src (getB H' src)) nd' K
                    | false => .fail) with h | ⟨v, H1, nd1, h1, h2⟩
                  · exact .inl h
                  rw [h1]
                  cases hc3 : below H.length v && lowB H.length (getB H1 src) && (getB H1 src).rw with
                  | false => exact .inl rfl
                  | true =>
                    simp only [Bool.and_eq_true] at hc3
                    obtain ⟨⟨hbl, hlow⟩, hrw1⟩ := hc3
                    dsimp only
                    have hsl : src < H.length := by
                      rcases Nat.lt_or_ge src H.length with h | h
                      · exact h
                      · rw [getB_none h] at hrw; cases hrw
                    have hH1 : setB (setB H src (getB H1 src)) src .dead = Hd := by
                      rw [← hH]
                      have : ∀ (l : List AB) (n : Nat) (x y : AB), setB (setB l n x) n y = setB l n y := by
                        intro l
                        induction l with
                        | nil => intros; rfl
                        | cons a l ih => intro n x y; cases n with
                          | zero => rfl
                          | succ n => simp only [setB]; rw [ih]
                      exact this _ _ _ _
                    rcases runM_sound hT K hm rest (k + 1) (putT t o.dst v) (setB H src (getB H1 src)) Hd nd1 hrest hks hH1 (by rw [getB_setB_same hsl]; exact hrw1) with h4 | ⟨t', H', nd', h4, h5⟩
                    · exact .inl h4
                    refine .inr ⟨t', H', nd', h4, fun hn => ?_⟩
                    obtain ⟨h6, ch⟩ := h5 hn
                    obtain ⟨h8, h9⟩ := h2 h6
                    rw [← hgd] at ch
                    refine ⟨h8, .e heff ⟨o, ho', fun σ w a Q next s r _ q => hw Q next a w ?_⟩ hH hrw ch⟩
                    have hopd := opds_looks hok fun n hn => r n hn
                    obtain ⟨rargs, hra, hrun⟩ := call_run (w := w) (P := P) hop hcall hopd
                    show o.upon P a next Q ((execOp a.eval o).run P w)
                    rw [hrun, callFunc_enter hfn hb hname]
                    refine (h9 σ w rargs (s.roBut src) hra).mono ?_
                    rintro e w' ⟨rv, rfl, σ', e2, e3, e4⟩
                    obtain ⟨s', f'⟩ := s.back_one hrw e3 e4 hlow hrw1
                    exact q _ _ (below_rel e4.ext s.len hbl e2) s' f'
        case store ty x y =>
          dsimp only
          cases heop : eop P (.store ty x y) (evA t) (roBut src H) with
          | none => exact .inl rfl
          | some z =>
            obtain ⟨v, H1, n⟩ := z
            dsimp only
            cases hc3 : below H.length v && lowB H.length (getB H1 src) && (getB H1 src).rw with
            | false => exact .inl rfl
            | true =>
              simp only [Bool.and_eq_true] at hc3
              obtain ⟨⟨hbl, hlow⟩, hrw1⟩ := hc3
              dsimp only
              have hsl : src < H.length := by
                rcases Nat.lt_or_ge src H.length with h | h
                · exact h
                · rw [getB_none h] at hrw; cases hrw
              have hH1 : setB (setB H src (getB H1 src)) src .dead = Hd := by
                rw [← hH]
                have : ∀ (l : List AB) (n : Nat) (x y : AB), setB (setB l n x) n y = setB l n y := by
                  intro l
                  induction l with
                  | nil => intros; rfl
                  | cons a l ih => intro n x y; cases n with
                    | zero => rfl
                    | succ n => simp only [setB]; rw [ih]
                exact this _ _ _ _
              rcases runM_sound hT K hm rest (k + 1) (putT t o.dst v) (setB H src (getB H1 src)) Hd (n ++ nd) hrest hks hH1 (by rw [getB_setB_same hsl]; exact hrw1) with h4 | ⟨t', H', nd', h4, h5⟩
              · exact .inl h4
              refine .inr ⟨t', H', nd', h4, fun hn => ?_⟩
              obtain ⟨h6, ch⟩ := h5 hn
              rw [allT_append, Bool.and_eq_true] at h6
              rw [← hgd] at ch
              refine ⟨h6.2, .e heff ⟨o, ho', fun σ w a Q next s r _ q => hw Q next a w ?_⟩ hH hrw ch⟩
              have hopd := opds_looks hok fun n hn => r n hn
              rw [← hop] at heop
              obtain ⟨rv, w', e1, σ', e2, e3, e4⟩ := eop_out (ρ := a.eval) heop h6.1 (s.roBut src) hopd
              obtain ⟨s', f'⟩ := s.back_one hrw e3 e4 hlow hrw1
              have hrel := below_rel e4.ext s.len hbl e2
              show o.upon P a next Q ((execOp a.eval o).run P w)
              rcases e1 with e1 | ⟨e1, rfl⟩
              · rw [e1]; exact q _ _ hrel s' f'
              · rw [e1]; exact q _ _ hrel s' f'
        all_goals exact .inl rfl

/-- A region of the mixed kind. -/
theorem mix_reach (hT : SoundT P T) (hf : P.follows .mixedOrders = true) {m : Nat} (hm : m ≤ ops.size) (hok : drawOK ops m = true) (heff : effOK E ops m = true) {id : Nat} {k : List Item} {t t' : List AV} {H H' : List AB} {nd : List Bool} (hrw : (getB H src).rw = true)
    (h : (runM P T E src (ops.toList.take m) t H [] fun t H nd => runOps P T ops (ops.toList.drop m) t H nd fun t H nd => .stop [] t H nd).sel = .stop [] t' H' nd) (hn : allT nd = true) : Reach P (.code (.region id ops true) :: k) t H k t' H' := by
  rcases runM_sound (src := src) (E := E) (ops := ops) hT (fun t H nd => runOps P T ops (ops.toList.drop m) t H nd fun t H nd => .stop [] t H nd) hm (ops.toList.take m) 0 t H _ [] (by simp) (Nat.zero_le _) rfl hrw with h1 | ⟨t1, H1, nd1, h1, h2⟩
  · rw [h] at h1; cases h1
  rw [h1] at h
  rcases runOps_sound (ops := ops) hT (fun t H nd => .stop [] t H nd) (ops.toList.drop m) m t1 H1 nd1 rfl hm with h3 | ⟨t2, H2, nd2, h3, h4⟩
  · rw [h] at h3; cases h3
  rw [h] at h3
  cases h3
  obtain ⟨h5, ch⟩ := h4 hn
  obtain ⟨_, mc⟩ := h2 h5
  obtain ⟨val, mem, _, e1, e2, e3, e4, e5⟩ := mc.vals
  rw [Nat.sub_zero] at e1
  rw [e1, ← e3] at ch
  refine region_reach fun σ w a Q s r q => wp_region_any hf ?_
  have hnl : ∀ i, ¬ Ls (Array.replicate ops.size false) i := fun i => by
    unfold Ls
    rw [Array.getD_eq_getD_getElem?]
    by_cases hi : i < ops.size
    · simp [hi]
    · simp [hi]
  have hsm : Same w { w with drawn := w.drawn + 1 } := Same.drew w
  refine any_mix (eff := effAt E ops) hok hm (fun i hi hei => ?_) (fun i hi hei => ⟨?_, fun j hj hej => ?_⟩) (fun i hi => e4 i (Nat.zero_le _) hi) ch ops.size _ a _ 0 (by simp) (fun i o _ hl => absurd hl (hnl i)) ?_ (fun i _ => hnl i) (Nat.zero_le _) (fun i hi hei => ⟨fun h => absurd h (hnl i), fun h => by omega⟩)
    (by rw [e2]; exact hsm.sim s) ?_ (fun x => ⟨fun i _ hl => absurd hl (hnl i), fun _ => r.getD x⟩) fun a' w' σ' r' d' s' f' => q a' w' σ' r' d' s' (by rw [e2] at f'; exact hsm.fr.trans f')
  · have := (e5 i (Nat.zero_le _) hi).1 hei
    rwa [Nat.sub_zero] at this
  · have := (e5 i (Nat.zero_le _) hi).2 hei
    rwa [Nat.sub_zero] at this
  · unfold effOK at heff
    simp only [List.all_eq_true, List.mem_range, Bool.or_eq_true, Bool.not_eq_true'] at heff
    rcases heff i hi with h | h
    · rw [hei] at h; cases h
    · rcases h j hj with h | h
      · rw [hej] at h; cases h
      · exact h
  · have := List.length_filter_le (fun i => !(Array.replicate ops.size false).getD i false) (List.range ops.size)
    simp only [List.length_range] at this
    exact this
  · have := r.length; simpa using this.symm
end
end Go.Ax

/- Floats that are exact. -/
namespace Go.Ax
open Go Ieee

/-- A finite number of a format: its last digit's place counts r above the least one. -/
def canon (f : Format) (g : Bool) (m r : Nat) : Nat := f.word g (r * f.binade + m)
theorem log2_eq {m k : Nat} (h0 : 2 ^ k ≤ m) (h1 : m < 2 ^ (k + 1)) : m.log2 = k := by
  have hm : m ≠ 0 := by have := Nat.two_pow_pos k; omega
  have a := (Nat.le_log2 hm).2 h0
  have b := (Nat.log2_lt hm).2 h1
  omega
theorem cut_exact (g : Bool) (m s : Nat) (hm : m ≠ 0) : Toward.even.cut g (m * 2 ^ s) s = m := by
  have hl : s ≤ (m * 2 ^ s).log2 := by
    rw [Nat.le_log2 (Nat.mul_ne_zero hm (Nat.pos_iff_ne_zero.1 (Nat.two_pow_pos s)))]
    exact Nat.le_mul_of_pos_left _ (Nat.pos_of_ne_zero hm)
  have hmin : min s ((m * 2 ^ s).log2 + 2) = s := by omega
  unfold Toward.cut
  simp only [hmin, Nat.one_shiftLeft, Nat.mul_div_cancel _ (Nat.two_pow_pos s), Nat.mul_mod_left]
  have hp := Nat.two_pow_pos s
  have h1 : ¬ (2 ^ s < 2 * 0) := by omega
  have h2 : (2 ^ s == 2 * 0) = false := by simp
  simp [h2]
theorem cut_zero (g : Bool) (m : Nat) : Toward.even.cut g m 0 = m := by
  unfold Toward.cut
  simp [Nat.mod_one]

/-- A number m * 2 ^ s at a place, m of full length: it is written as it is. -/
theorem nearest_down (f : Format) (g : Bool) (m s r : Nat) (place : Int) (h0 : 2 ^ f.fractionBits ≤ m) (h1 : m < 2 ^ (f.fractionBits + 1)) (hp : place + s = f.leastPlace + r) (hi : r * f.binade + m ≤ f.infRung) :
    f.nearest g (m * 2 ^ s) place = canon f g m r := by
  have hm : m ≠ 0 := by have := Nat.two_pow_pos f.fractionBits; omega
  have hlog : (m * 2 ^ s).log2 = f.fractionBits + s := by
    refine log2_eq ?_ ?_
    · rw [Nat.pow_add]; exact Nat.mul_le_mul_right _ h0
    · rw [show f.fractionBits + s + 1 = f.fractionBits + 1 + s by omega, Nat.pow_add]
      exact Nat.mul_lt_mul_of_pos_right h1 (Nat.two_pow_pos s)
  unfold Format.nearest
  rw [if_neg (Nat.mul_ne_zero hm (Nat.pos_iff_ne_zero.1 (Nat.two_pow_pos s)))]
  have hlast : max (place + ((m * 2 ^ s).log2 : Nat) - f.fractionBits) f.leastPlace = f.leastPlace + r := by rw [hlog]; omega
  simp only [hlast]
  have e1 : (place - (f.leastPlace + r)).toNat = 0 := by omega
  have e2 : ((f.leastPlace + r) - place).toNat = s := by omega
  have e3 : (f.leastPlace + (r : Int) - f.leastPlace).toNat = r := by omega
  rw [e1, e2, e3, Nat.shiftLeft_zero, cut_exact g m s hm, Nat.min_eq_left hi]
  rfl
/-- A number that is shorter: zeros are put behind it. -/
theorem nearest_up (f : Format) (g : Bool) (m s r : Nat) (place : Int) (h0 : 2 ^ f.fractionBits ≤ m * 2 ^ s) (h1 : m * 2 ^ s < 2 ^ (f.fractionBits + 1)) (hp : place = f.leastPlace + r + s) (hi : r * f.binade + m * 2 ^ s ≤ f.infRung) :
    f.nearest g m place = canon f g (m * 2 ^ s) r := by
  have hm : m ≠ 0 := by
    intro h
    subst h
    have := Nat.two_pow_pos f.fractionBits
    simp at h0
  have hlog : m.log2 + s = f.fractionBits := by
    have : (m * 2 ^ s).log2 = f.fractionBits := log2_eq h0 h1
    rw [← this]
    refine (log2_eq ?_ ?_).symm
    · rw [Nat.pow_add]; exact Nat.mul_le_mul_right _ (Nat.log2_self_le hm)
    · rw [show m.log2 + s + 1 = m.log2 + 1 + s by omega, Nat.pow_add]
      exact Nat.mul_lt_mul_of_pos_right Nat.lt_log2_self (Nat.two_pow_pos s)
  unfold Format.nearest
  rw [if_neg hm]
  have hlast : max (place + (m.log2 : Nat) - f.fractionBits) f.leastPlace = f.leastPlace + r := by omega
  simp only [hlast]
  have e1 : (place - (f.leastPlace + r)).toNat = s := by omega
  have e2 : ((f.leastPlace + r) - place).toNat = 0 := by omega
  have e3 : (f.leastPlace + (r : Int) - f.leastPlace).toNat = r := by omega
  rw [e1, e2, e3, Nat.shiftLeft_eq, cut_zero, Nat.min_eq_left hi]
  rfl
/-- A number below the full length at the least place. -/
theorem nearest_sub (f : Format) (g : Bool) (m s : Nat) (place : Int) (h1 : m < 2 ^ (f.fractionBits + 1)) (hp : place + s = f.leastPlace) (hi : m ≤ f.infRung) :
    f.nearest g (m * 2 ^ s) place = canon f g m 0 := by
  by_cases hm : m = 0
  · subst hm
    unfold Format.nearest
    simp [canon]
  have hlog : (m * 2 ^ s).log2 ≤ f.fractionBits + s := by
    have := (Nat.log2_lt (k := f.fractionBits + s + 1) (Nat.mul_ne_zero hm (Nat.pos_iff_ne_zero.1 (Nat.two_pow_pos s)))).2 (by
      rw [show f.fractionBits + s + 1 = f.fractionBits + 1 + s by omega, Nat.pow_add]
      exact Nat.mul_lt_mul_of_pos_right h1 (Nat.two_pow_pos s))
    omega
  unfold Format.nearest
  rw [if_neg (Nat.mul_ne_zero hm (Nat.pos_iff_ne_zero.1 (Nat.two_pow_pos s)))]
  have hlast : max (place + ((m * 2 ^ s).log2 : Nat) - f.fractionBits) f.leastPlace = f.leastPlace := by omega
  simp only [hlast]
  have e1 : (place - f.leastPlace).toNat = 0 := by omega
  have e2 : (f.leastPlace - place).toNat = s := by omega
  have e3 : (f.leastPlace - f.leastPlace).toNat = 0 := by omega
  rw [e1, e2, e3, Nat.shiftLeft_zero, cut_exact g m s hm, Nat.zero_mul, Nat.zero_add, Nat.min_eq_left hi]
  simp [canon]

theorem read_word (f : Format) (g : Bool) (k : Nat) (hk : k < f.signWeight) : (f.word g k / f.signWeight % 2 == 1) = g ∧ f.word g k % f.signWeight = k := by
  have hs : 0 < f.signWeight := Nat.two_pow_pos _
  cases g with
  | false =>
    simp only [Format.word, Bool.false_eq_true, if_false]
    rw [Nat.div_eq_of_lt hk, Nat.mod_eq_of_lt hk]
    exact ⟨rfl, rfl⟩
  | true =>
    simp only [Format.word, if_true]
    rw [Nat.add_div_left _ hs, Nat.div_eq_of_lt hk, Nat.add_mod_left, Nat.mod_eq_of_lt hk]
    exact ⟨rfl, rfl⟩
theorem inf_lt (f : Format) : f.infRung < f.signWeight := by
  have h : 0 < f.binade := Nat.two_pow_pos _
  have : f.infRung + f.binade = f.signWeight := by
    have h : 0 < 2 ^ f.exponentBits := Nat.two_pow_pos _
    unfold Format.infRung Format.signWeight
    rw [Nat.pow_add, ← Nat.succ_mul]
    exact congrArg (· * f.binade) (by omega)
  omega
/-- What a written number reads as. -/
theorem read_canon (f : Format) (g : Bool) (m r : Nat) (h1 : m < 2 ^ (f.fractionBits + 1)) (h0 : r = 0 ∨ 2 ^ f.fractionBits ≤ m) (hi : r * f.binade + m < f.infRung) :
    f.read (canon f g m r) = .number g m (f.leastPlace + r) := by
  have hs := inf_lt f
  obtain ⟨e1, e2⟩ := read_word f g (r * f.binade + m) (by omega)
  have hb : f.binade = 2 ^ f.fractionBits := rfl
  have hbp : 0 < f.binade := Nat.two_pow_pos _
  rw [Nat.pow_succ, ← hb] at h1
  rw [← hb] at h0
  unfold canon Format.read
  simp only [e1, e2]
  by_cases hlt : r * f.binade + m < f.binade
  · have hr : r = 0 := by
      rcases Nat.eq_zero_or_pos r with h | h
      · exact h
      · have : 1 * f.binade ≤ r * f.binade := Nat.mul_le_mul_right _ h
        omega
    subst hr
    rw [if_pos hlt]
    simp
  · rw [if_neg hlt, if_pos hi]
    have hm : f.binade ≤ m := by
      rcases h0 with h | h
      · subst h; omega
      · exact h
    have hd : (r * f.binade + m) / f.binade = r + 1 := by
      rw [Nat.add_comm, Nat.add_mul_div_right _ _ hbp]
      have : m / f.binade = 1 := by
        refine Nat.div_eq_of_lt_le (by omega) (by omega)
      omega
    have hmod : (r * f.binade + m) % f.binade = m - f.binade := by
      rw [Nat.add_comm, Nat.add_mul_mod_self_right, Nat.mod_eq_sub_mod hm, Nat.mod_eq_of_lt (by omega)]
    rw [hd, hmod]
    congr 1
    omega
end Go.Ax

/- Numbers that are not too great do not become infinite. -/
namespace Go.Ax
open Go Ieee

theorem cut_le (g : Bool) (n d k : Nat) (hk : n < 2 ^ (k + d)) (hd : 0 < k) : Toward.even.cut g n d ≤ 2 ^ k := by
  unfold Toward.cut
  simp only [Nat.one_shiftLeft]
  have hb : ∀ b : Bool, b.toNat ≤ 1 := fun b => by cases b <;> decide
  have hlow : n / 2 ^ min d (n.log2 + 2) < 2 ^ k := by
    rw [Nat.div_lt_iff_lt_mul (Nat.two_pow_pos _), ← Nat.pow_add]
    rcases Nat.le_total d (n.log2 + 2) with h | h
    · rw [Nat.min_eq_left h]; exact hk
    · rw [Nat.min_eq_right h]
      exact Nat.lt_of_lt_of_le (Nat.lt_log2_self (n := n)) (Nat.pow_le_pow_right (by decide) (by omega))
  have := hb ((decide (2 ^ min d (n.log2 + 2) < 2 * (n % 2 ^ min d (n.log2 + 2)))) || (2 ^ min d (n.log2 + 2) == 2 * (n % 2 ^ min d (n.log2 + 2)) && n / 2 ^ min d (n.log2 + 2) % 2 == 1))
  omega

theorem nearest_small (g : Bool) (m : Nat) (place : Int) (h : place + m.log2 ≤ 126) : (single.read (single.nearest g m place)).isInfinity = false := by
  have hrung : ∃ k, single.nearest g m place = single.word g k ∧ k < single.infRung := by
    unfold Format.nearest
    by_cases hm : m = 0
    · rw [if_pos hm]; exact ⟨0, rfl, by decide⟩
    · rw [if_neg hm]
      refine ⟨_, rfl, ?_⟩
      have hl : single.leastPlace = -149 := by decide
      have hf : single.fractionBits = 23 := rfl
      have hbin : single.binade = 8388608 := rfl
      have hinf : single.infRung = 2139095040 := rfl
      simp only [hl, hf, hbin, hinf]
      generalize hlast : max (place + (m.log2 : Nat) - (23 : Nat)) (-149) = last
      have h1 : last ≤ 103 := by omega
      have h2 : -149 ≤ last := by omega
      have hml := Nat.lt_log2_self (n := m)
      have hkept : Toward.even.cut g (m <<< (place - last).toNat) (last - place).toNat ≤ 2 ^ 24 := by
        refine cut_le g _ _ 24 ?_ (by decide)
        rw [Nat.shiftLeft_eq]
        calc m * 2 ^ (place - last).toNat < 2 ^ (m.log2 + 1) * 2 ^ (place - last).toNat := Nat.mul_lt_mul_of_pos_right hml (Nat.two_pow_pos _)
          _ = 2 ^ (m.log2 + 1 + (place - last).toNat) := by rw [← Nat.pow_add]
          _ ≤ 2 ^ (24 + (last - place).toNat) := Nat.pow_le_pow_right (by decide) (by omega)
      have h3 : (last - -149).toNat * 8388608 ≤ 252 * 8388608 := Nat.mul_le_mul_right _ (by omega)
      have h4 : (2 : Nat) ^ 24 = 16777216 := by decide
      rw [h4] at hkept
      refine Nat.lt_of_le_of_lt (Nat.min_le_left _ _) ?_
      exact Nat.lt_of_le_of_lt (Nat.add_le_add h3 hkept) (by decide)
  obtain ⟨k, e, hk⟩ := hrung
  obtain ⟨_, e2⟩ := read_word single g k (Nat.lt_trans hk (inf_lt single))
  rw [e]
  unfold Format.read
  simp only [e2]
  split
  · rfl
  · rfl
theorem fcvtOK_small (x : Nat) (g : Bool) (m : Nat) (e : Int) (hx : double.read x = .number g m e) (h : e + m.log2 ≤ 126) : fcvtOK .f64 .f32 x = true := by
  have h1 : FloatKind.f64.decode x = .number g m e := hx
  have h2 : (FloatKind.f32.decode (FloatKind.f32.encode (.number g m e))).isInfinity = false := nearest_small g m e h
  unfold fcvtOK
  rw [if_neg (by decide), h1]
  dsimp only
  rw [h2]; rfl
end Go.Ax

/- spec.l01Next: the next number of a source. -/
namespace Go.Ax
open Go Go.Proofs

noncomputable def nxH (h : Int) : Int := IntKind.u64.wrap (IntKind.u64.wrap (h * 6364136223846793005) + 1442695040888963407)
noncomputable def nxX (h : Int) : Int := IntKind.i64.wrap (IntKind.u64.wrap (↑(BitVec.ofInt IntKind.u64.bits ((nxH h).fdiv (2 ^ min (Int.toNat 33) IntKind.u64.bits)) &&& BitVec.ofInt IntKind.u64.bits 2147483647).toNat))
noncomputable def nxB (c : Cd) (a : Nat) : Int := IntKind.i64.wrap (c.bytes.getD (c.off + (Int.ofNat a).toNat * 1 - c.off) 0)
/-- The number. -/
noncomputable def nxV (c : Cd) (a : Nat) (h n : Int) : Int :=
  if n < 1 then 0 else if Int.ofNat a < ↑c.len then (IntKind.i64.wrap (nxX h + nxB c a)).tmod n else (nxX h).tmod n
noncomputable def nxA (c : Cd) (a : Nat) (n : Int) : Nat := if n < 1 then a else if a < c.len then a + 1 else a
noncomputable def nxS (h n : Int) : Int := if n < 1 then h else nxH h

theorem nxX_bound (h : Int) : 0 ≤ nxX h ∧ nxX h < 2147483648 := by
  unfold nxX
  generalize BitVec.ofInt IntKind.u64.bits ((nxH h).fdiv (2 ^ min (Int.toNat 33) IntKind.u64.bits)) = x
  have h1 : (x &&& BitVec.ofInt IntKind.u64.bits 2147483647).toNat ≤ 2147483647 := by
    rw [BitVec.toNat_and]
    exact Nat.le_trans Nat.and_le_right (by decide)
  generalize (x &&& BitVec.ofInt IntKind.u64.bits 2147483647).toNat = y at h1
  have h2 : IntKind.u64.wrap (y : Int) = y := by
    simp [IntKind.wrap, IntKind.bits, IntKind.signed]; omega
  rw [h2, wrap64_id (by omega) (by omega)]
  omega
theorem nxB_bound {c : Cd} (hc : goodB c = true) (a : Nat) : 0 ≤ nxB c a ∧ nxB c a < 256 := by
  have : 0 ≤ c.bytes.getD (c.off + (Int.ofNat a).toNat * 1 - c.off) 0 ∧ c.bytes.getD (c.off + (Int.ofNat a).toNat * 1 - c.off) 0 < 256 := by
    rw [List.getD_eq_getElem?_getD]
    cases hg : c.bytes[c.off + (Int.ofNat a).toNat * 1 - c.off]? with
    | none => exact ⟨by decide, by decide⟩
    | some b =>
      have hm : b ∈ c.bytes := List.mem_of_getElem? hg
      simp only [goodB, Bool.and_eq_true, List.all_eq_true, decide_eq_true_eq] at hc
      exact hc.2 b hm
  unfold nxB
  rw [wrap64_id (by omega) (by omega)]
  exact this
theorem nxV_bound {c : Cd} (hc : goodB c = true) (a : Nat) (h n : Int) : 0 ≤ nxV c a h n ∧ (1 ≤ n → nxV c a h n < n) := by
  unfold nxV
  have hx := nxX_bound h
  have hb := nxB_bound hc a
  split
  · exact ⟨by omega, by omega⟩
  · split
    · rw [wrap64_id (by omega) (by omega)]
      exact ⟨Int.tmod_nonneg _ (by omega), fun _ => Int.tmod_lt_of_pos _ (by omega)⟩
    · exact ⟨Int.tmod_nonneg _ (by omega), fun _ => Int.tmod_lt_of_pos _ (by omega)⟩

noncomputable def nextRes (c : Cd) (a : Nat) (h n : Int) : Res :=
  Res.ite (decide (n < 1)) (Res.ret (AV.i true IntKind.i64 (Int.ofNat 0)) [codeB c false, srcB c a h] [])
    (Res.ite (decide (Int.ofNat a < ↑c.len))
      (Res.ret (AV.i false IntKind.i64 ((IntKind.i64.wrap (nxX h + nxB c a)).tmod n))
        [codeB c false, AB.cells true (Cells.lit [AV.sl false 0 c.off c.len 0, AV.i false IntKind.i64 (IntKind.i64.wrap (Int.ofNat a + 1)), AV.i false IntKind.u64 (nxH h)])]
        [!n == 0, decide (c.off ≤ c.off + (Int.ofNat a).toNat * 1), decide (c.off + (Int.ofNat a).toNat * 1 - c.off < c.bytes.length), decide (0 ≤ Int.ofNat a) && decide (Int.ofNat a < ↑c.len)])
      (Res.ret (AV.i false IntKind.i64 ((nxX h).tmod n)) [codeB c false, srcB c a (nxH h)] [!n == 0]))
theorem next_run (c : Cd) (a : Nat) (h n : Int) :
    runF Tryz.prog noT 200 72 [.p true 1 0, .i false .i64 n] [codeB c false, srcB c a h] [] (fun v H nd => .ret v H nd) = nextRes c a h n := by kernel_rfl

theorem next_ok {c : Cd} (hc : goodB c = true) (a : Nat) (h n : Int) : SrcOK Tryz.prog 72 [.i false .i64 n] c a h (.i false .i64 (nxV c a h n)) (nxA c a n) (nxS h n) := by
  have hr := next_run c a h n
  have hS := runF_sound (noT_sound Tryz.prog) 200
  have hg := hc
  simp only [goodB, Bool.and_eq_true, decide_eq_true_eq] at hg
  by_cases hn : n < 1
  · refine ⟨_, (call_of_sel (H' := [codeB c false, srcB c a h]) (nd := []) hS (v := .i true .i64 (Int.ofNat 0)) ?_ rfl).weaken ?_, ?_, rfl, rfl⟩
    · rw [hr]; simp [nextRes, Res.sel, hn]
    · intro σ x r
      simp only [nxV, hn, if_true]
      cases r; exact .i _ _
    · simp [nxA, nxS, hn]; rfl
  · have hn0 : ¬ n = 0 := by omega
    by_cases ha : a < c.len
    · refine ⟨_, (call_of_sel (H' := [codeB c false, AB.cells true (Cells.lit [AV.sl false 0 c.off c.len 0, AV.i false IntKind.i64 (IntKind.i64.wrap (Int.ofNat a + 1)), AV.i false IntKind.u64 (nxH h)])])
        (nd := [!n == 0, decide (c.off ≤ c.off + (Int.ofNat a).toNat * 1), decide (c.off + (Int.ofNat a).toNat * 1 - c.off < c.bytes.length), decide (0 ≤ Int.ofNat a) && decide (Int.ofNat a < ↑c.len)])
        hS (v := AV.i false IntKind.i64 ((IntKind.i64.wrap (nxX h + nxB c a)).tmod n)) ?_ ?_).weaken ?_, ?_, rfl, rfl⟩
      · rw [hr]
        have : Int.ofNat a < ↑c.len := by simp; omega
        simp only [nextRes, Res.sel, hn, decide_false, Bool.false_eq_true, if_false, this, decide_true, if_true]
      · have hlt : a < c.bytes.length := by omega
        simp [allT, hn0]
        exact ⟨hlt, ha⟩
      · intro σ x r
        have : Int.ofNat a < ↑c.len := by simp; omega
        simp only [nxV, hn, if_false, this, if_true]
        exact r
      · have h1 : IntKind.i64.wrap (Int.ofNat a + 1) = Int.ofNat (a + 1) := by
          rw [wrap64_id] <;> simp <;> omega
        rw [h1]
        simp only [nxA, nxS, hn, if_false, ha, if_true]
        rfl
    · refine ⟨_, (call_of_sel (H' := [codeB c false, srcB c a (nxH h)]) (nd := [!n == 0]) hS (v := AV.i false IntKind.i64 ((nxX h).tmod n)) ?_ ?_).weaken ?_, ?_, rfl, rfl⟩
      · rw [hr]
        have : ¬ Int.ofNat a < ↑c.len := by simp; omega
        simp only [nextRes, Res.sel, hn, decide_false, Bool.false_eq_true, if_false, this]
      · simp [allT, hn0]
      · intro σ x r
        have : ¬ Int.ofNat a < ↑c.len := by simp; omega
        simp only [nxV, hn, if_false, this]
        exact r
      · simp only [nxA, nxS, hn, if_false, ha]
        rfl
end Go.Ax

/- spec.l01Two: powers of two. -/
namespace Go.Ax
open Go Go.Proofs

noncomputable def twoT (k : Int) (x : Nat) (g : Nat → AV) : List AV := [.i false .i64 k, g 1, g 2, .f false .f64 x, g 4, g 5, g 6, g 7, g 8, g 9, g 10, g 11, g 12, g 13, g 14, g 15, g 16]
noncomputable def two0 (k : Int) : Res := toLoop Tryz.prog noT 100 [.code (Tryz.f218.body.getD .skip)] (.i false .i64 k :: undefs 16) []
noncomputable def twoL1 : List Item := (two0 0).todo
noncomputable def two1 (L : List Item) (k : Int) (x : Nat) (g : Nat → AV) : Res := toLoop Tryz.prog noT 100 L (twoT k x g) []
noncomputable def twoR : List Item := ((two1 twoL1 0 0 fun _ => .pnil).at [true]).todo
noncomputable def twoL2 : List Item := ((two1 twoL1 0 0 fun _ => .pnil).at [false]).todo
noncomputable def twoS : List Item := ((two1 twoL2 0 0 fun _ => .pnil).at [true]).todo
noncomputable def twoA (k : Int) (x : Nat) (g : Nat → AV) : List AV := [AV.i false IntKind.i64 (IntKind.i64.wrap (k - 1)), g 1, g 2,
      AV.f false FloatKind.f64 (fmul FloatKind.f64 x 4611686018427387904), AV.i false IntKind.i64 k,
      AV.b false (decide (0 < k)), AV.i false IntKind.i64 k, AV.i false IntKind.i64 (IntKind.i64.wrap (k - 1)),
      AV.f false FloatKind.f64 x, AV.f false FloatKind.f64 (fmul FloatKind.f64 x 4611686018427387904), g 10, g 11, g 12,
      g 13, g 14, g 15, g 16]
noncomputable def twoB (k : Int) (x : Nat) (g : Nat → AV) : List AV := [AV.i false IntKind.i64 k, g 1, g 2, AV.f false FloatKind.f64 x, AV.i false IntKind.i64 k,
      AV.b false (decide (0 < k)), g 6, g 7, g 8, g 9, g 10, g 11, g 12, g 13, g 14, g 15, g 16]
noncomputable def twoC (k : Int) (x : Nat) (g : Nat → AV) : List AV := [AV.i false IntKind.i64 (IntKind.i64.wrap (k + 1)), g 1, g 2,
      AV.f false FloatKind.f64 (fdiv FloatKind.f64 x 4611686018427387904), g 4, g 5, g 6, g 7, g 8, g 9, AV.i false IntKind.i64 k,
      AV.b false (decide (k < 0)), AV.i false IntKind.i64 k, AV.i false IntKind.i64 (IntKind.i64.wrap (k + 1)),
      AV.f false FloatKind.f64 x, AV.f false FloatKind.f64 (fdiv FloatKind.f64 x 4611686018427387904), g 16]
noncomputable def twoD (k : Int) (x : Nat) (g : Nat → AV) : List AV := [AV.i false IntKind.i64 k, g 1, AV.f false FloatKind.f64 x, AV.f false FloatKind.f64 x, g 4, g 5, g 6, g 7, g 8, g 9, AV.i false IntKind.i64 k,
      AV.b false (decide (k < 0)), g 12, g 13, g 14, g 15, AV.f false FloatKind.f64 x]

theorem two0_eq (k : Int) : two0 k = .stop twoL1 [.i false .i64 k, .tup [], .f true .f64 0, .f true .f64 4607182418800017408, .tup [], .tup [], .tup [], .tup [], .tup [], .tup [], .tup [], .tup [], .tup [], .tup [], .tup [], .tup [], .tup []] [] [] := by kernel_rfl
theorem two1_eq (k : Int) (x : Nat) (g : Nat → AV) : two1 twoL1 k x g = .ite (decide (0 < k)) (.stop twoR (twoA k x g) [] []) (.stop twoL2 (twoB k x g) [] []) := by kernel_rfl
theorem twoR_eq (k : Int) (x : Nat) (g : Nat → AV) : two1 twoR k x g = .ite (decide (0 < k)) (.stop twoR (twoA k x g) [] []) (.stop twoL2 (twoB k x g) [] []) := by kernel_rfl
theorem two2_eq (k : Int) (x : Nat) (g : Nat → AV) : two1 twoL2 k x g = .ite (decide (k < 0)) (.stop twoS (twoC k x g) [] []) (.ret (.tup (twoD k x g)) [] []) := by kernel_rfl
theorem twoS_eq (k : Int) (x : Nat) (g : Nat → AV) : two1 twoS k x g = .ite (decide (k < 0)) (.stop twoS (twoC k x g) [] []) (.ret (.tup (twoD k x g)) [] []) := by kernel_rfl

noncomputable def dbl : Nat → Nat → Nat
  | 0, x => x
  | n + 1, x => dbl n (fmul .f64 x 4611686018427387904)
noncomputable def hlv : Nat → Nat → Nat
  | 0, x => x
  | n + 1, x => hlv n (fdiv .f64 x 4611686018427387904)
theorem hT0 : SoundT Tryz.prog noT := noT_sound Tryz.prog

theorem two_up (L : List Item) (hL : ∀ k x g, two1 L k x g = .ite (decide (0 < k)) (.stop twoR (twoA k x g) [] []) (.stop twoL2 (twoB k x g) [] [])) :
    ∀ (n : Nat) (k : Int) (x : Nat) (g : Nat → AV), k = n → n < 4000 → ∃ g', Reach Tryz.prog L (twoT k x g) [] twoL2 (twoT 0 (dbl n x) g') []
  | 0, k, x, g, hk, _ => by
    refine ⟨fun i => getL (twoB k x g) i, ?_⟩
    have hk0 : k = 0 := by omega
    subst hk0
    refine toLoop_reach (n := 100) (nd := []) hT0 (T := noT) ?_ rfl
    have := hL 0 x g
    unfold two1 at this
    rw [this]; rfl
  | n + 1, k, x, g, hk, hn => by
    have h1 : Reach Tryz.prog L (twoT k x g) [] twoR (twoA k x g) [] := by
      refine toLoop_reach (n := 100) (nd := []) hT0 (T := noT) ?_ rfl
      have := hL k x g
      unfold two1 at this
      rw [this]
      have : 0 < k := by omega
      simp [Res.sel, this]
    have hw : IntKind.i64.wrap (k - 1) = k - 1 := wrap64_id (by omega) (by omega)
    have h2 : twoA k x g = twoT (k - 1) (fmul .f64 x 4611686018427387904) (fun i => getL (twoA k x g) i) := by
      unfold twoA twoT
      rw [hw]; rfl
    rw [h2] at h1
    obtain ⟨g', h3⟩ := two_up twoR twoR_eq n (k - 1) (fmul .f64 x 4611686018427387904) (fun i => getL (twoA k x g) i) (by omega) (by omega)
    exact ⟨g', h1.trans h3⟩
theorem two_down (L : List Item) (hL : ∀ k x g, two1 L k x g = .ite (decide (k < 0)) (.stop twoS (twoC k x g) [] []) (.ret (.tup (twoD k x g)) [] [])) :
    ∀ (n : Nat) (k : Int) (x : Nat) (g : Nat → AV), k = -n → n < 4000 → ∃ g', Ends Tryz.prog L (twoT k x g) [] (twoD 0 (hlv n x) g') []
  | 0, k, x, g, hk, _ => by
    refine ⟨g, ?_⟩
    have hk0 : k = 0 := by omega
    subst hk0
    refine toLoop_ends (n := 100) (nd := []) hT0 (T := noT) ?_ rfl
    have := hL 0 x g
    unfold two1 at this
    rw [this]; rfl
  | n + 1, k, x, g, hk, hn => by
    have h1 : Reach Tryz.prog L (twoT k x g) [] twoS (twoC k x g) [] := by
      refine toLoop_reach (n := 100) (nd := []) hT0 (T := noT) ?_ rfl
      have := hL k x g
      unfold two1 at this
      rw [this]
      have : k < 0 := by omega
      simp [Res.sel, this]
    have hw : IntKind.i64.wrap (k + 1) = k + 1 := wrap64_id (by omega) (by omega)
    have h2 : twoC k x g = twoT (k + 1) (fdiv .f64 x 4611686018427387904) (fun i => getL (twoC k x g) i) := by
      unfold twoC twoT
      rw [hw]; rfl
    rw [h2] at h1
    obtain ⟨g', h3⟩ := two_down twoS twoS_eq n (k + 1) (fdiv .f64 x 4611686018427387904) (fun i => getL (twoC k x g) i) (by omega) (by omega)
    exact ⟨g', h1.ends h3⟩

/-- 2 to the k, in bits. -/
noncomputable def pow2 (k : Int) : Nat := ((k + 1023).toNat) * 4503599627370496
theorem dbl_step : ((List.range 130).all fun n => fmul .f64 ((n + 1023) * 4503599627370496) 4611686018427387904 == (n + 1024) * 4503599627370496) = true := by kernel_rfl
theorem hlv_step : ((List.range 160).all fun n => fdiv .f64 ((1023 - n) * 4503599627370496) 4611686018427387904 == (1022 - n) * 4503599627370496) = true := by kernel_rfl
theorem dbl_pow : ∀ (n m : Nat), m + n ≤ 130 → dbl n ((m + 1023) * 4503599627370496) = (m + n + 1023) * 4503599627370496
  | 0, m, _ => rfl
  | n + 1, m, h => by
    have := List.all_eq_true.1 dbl_step m (by simp; omega)
    simp only [beq_iff_eq] at this
    rw [dbl, this]
    have := dbl_pow n (m + 1) (by omega)
    rw [show m + 1024 = m + 1 + 1023 by omega, this]
    exact congrArg (· * 4503599627370496) (by omega)
theorem hlv_pow : ∀ (n m : Nat), m + n ≤ 160 → hlv n ((1023 - m) * 4503599627370496) = (1023 - (m + n)) * 4503599627370496
  | 0, m, _ => rfl
  | n + 1, m, h => by
    have := List.all_eq_true.1 hlv_step m (by simp; omega)
    simp only [beq_iff_eq] at this
    rw [hlv, this]
    have := hlv_pow n (m + 1) (by omega)
    rw [show 1022 - m = 1023 - (m + 1) by omega, this]
    exact congrArg (· * 4503599627370496) (by omega)

theorem two_ok (k : Int) (h0 : -160 ≤ k) (h1 : k ≤ 130) (H : List AB) : CallOK Tryz.prog 218 [.i false .i64 k] H (.f false .f64 (pow2 k)) H := by
  have e0 : Reach Tryz.prog [.code (Tryz.f218.body.getD .skip)] (.i false .i64 k :: undefs 16) [] twoL1 (twoT k 4607182418800017408 fun i => getL [.i false .i64 k, .tup [], .f true .f64 0, .f true .f64 4607182418800017408, .tup [], .tup [], .tup [], .tup [], .tup [], .tup [], .tup [], .tup [], .tup [], .tup [], .tup [], .tup [], .tup []] i) [] := by
    have : Reach Tryz.prog [.code (Tryz.f218.body.getD .skip)] (.i false .i64 k :: undefs 16) [] twoL1 [.i false .i64 k, .tup [], .f true .f64 0, .f true .f64 4607182418800017408, .tup [], .tup [], .tup [], .tup [], .tup [], .tup [], .tup [], .tup [], .tup [], .tup [], .tup [], .tup [], .tup []] [] := by
      refine toLoop_reach (n := 100) (nd := []) hT0 (T := noT) ?_ rfl
      have := two0_eq k
      unfold two0 at this
      rw [this]; rfl
    exact this.weak (eqv_of_bare rfl)
  have fin : ∀ {x : Nat} {g : Nat → AV}, Ends Tryz.prog [.code (Tryz.f218.body.getD .skip)] (.i false .i64 k :: undefs 16) [] (twoD 0 x g) [] → x = pow2 k → CallOK Tryz.prog 218 [.i false .i64 k] H (.f false .f64 (pow2 k)) H := fun {x g} he hx => by
    subst hx
    have hb : Tryz.f218.body = some (Tryz.f218.body.getD .skip) := rfl
    have := call_of_ends (args := [.i false .i64 k]) (m := []) (vs := [.f false .f64 (pow2 k)]) Tryz.func218 hb he (by rfl) rfl
    exact this.lift rfl rfl H rfl
  rcases (by omega : k < 0 ∨ 0 ≤ k) with hk | hk
  · obtain ⟨n, hn⟩ : ∃ n : Nat, k = -n := ⟨k.natAbs, by omega⟩
    have e1 : ∀ x g, Reach Tryz.prog twoL1 (twoT k x g) [] twoL2 (twoT k x fun i => getL (twoB k x g) i) [] := fun x g => by
      refine toLoop_reach (n := 100) (nd := []) hT0 (T := noT) ?_ rfl
      have := two1_eq k x g
      unfold two1 at this
      rw [this]
      have : ¬ 0 < k := by omega
      simp [Res.sel, this]; rfl
    obtain ⟨g', e2⟩ := two_down twoL2 two2_eq n k 4607182418800017408 _ hn (by omega)
    refine fin ((e0.trans (e1 _ _)).ends e2) ?_
    have := hlv_pow n 0 (by omega)
    rw [show (1023 - 0) * 4503599627370496 = 4607182418800017408 from rfl] at this
    rw [this]
    unfold pow2
    exact congrArg (· * 4503599627370496) (by omega)
  · obtain ⟨n, hn⟩ : ∃ n : Nat, k = n := ⟨k.natAbs, by omega⟩
    obtain ⟨g1, e1⟩ := two_up twoL1 two1_eq n k 4607182418800017408 (fun i => getL [.i false .i64 k, .tup [], .f true .f64 0, .f true .f64 4607182418800017408, .tup [], .tup [], .tup [], .tup [], .tup [], .tup [], .tup [], .tup [], .tup [], .tup [], .tup [], .tup [], .tup []] i) hn (by omega)
    obtain ⟨g', e2⟩ := two_down twoL2 two2_eq 0 0 (dbl n 4607182418800017408) g1 rfl (by omega)
    refine fin ((e0.trans e1).ends e2) ?_
    have := dbl_pow n 0 (by omega)
    rw [show (0 + 1023) * 4503599627370496 = 4607182418800017408 from rfl] at this
    show dbl n 4607182418800017408 = _
    rw [this]
    unfold pow2
    exact congrArg (· * 4503599627370496) (by omega)
end Go.Ax

/- spec.l01Float: the float with a place. -/
namespace Go.Ax
open Go Go.Proofs Ieee

theorem d_least : double.leastPlace = -1074 := by decide
theorem s_least : single.leastPlace = -149 := by decide
theorem d_frac : double.fractionBits = 52 := rfl
theorem s_frac : single.fractionBits = 23 := rfl
theorem d_bin : double.binade = 4503599627370496 := rfl
theorem s_bin : single.binade = 8388608 := rfl
theorem d_inf : double.infRung = 9218868437227405312 := rfl
theorem s_inf : single.infRung = 2139095040 := rfl

/-- A whole number of at most 53 digits, as a float64. -/
theorem near_int (n s : Nat) (h0 : 4503599627370496 ≤ n * 2 ^ s) (h1 : n * 2 ^ s < 9007199254740992) (hs : s ≤ 52) : FloatKind.f64.nearest (n : Int) = canon double false (n * 2 ^ s) (1074 - s) := by
  have e : FloatKind.f64.nearest (n : Int) = double.nearest false n 0 := by
    unfold FloatKind.nearest FloatKind.encode
    have : decide ((n : Int) < 0) = false := by simp
    rw [this]; rfl
  rw [e]
  refine nearest_up double false n s (1074 - s) 0 h0 h1 (by rw [d_least]; omega) ?_
  rw [d_bin, d_inf]
  have : (1074 - s) * 4503599627370496 ≤ 1074 * 4503599627370496 := Nat.mul_le_mul_right _ (by omega)
  exact Nat.le_trans (Nat.add_le_add this (Nat.le_of_lt h1)) (by decide)
theorem pow2_canon (k : Int) (h : -1022 ≤ k) : pow2 k = canon double false (4503599627370496) (k + 1022).toNat := by
  unfold pow2 canon Format.word
  rw [d_bin]
  simp only [Bool.false_eq_true, if_false]
  omega
/-- A number times a power of two. -/
theorem mul_pow2 (m r : Nat) (k : Int) (h0 : 4503599627370496 ≤ m) (h1 : m < 9007199254740992) (hr : r ≤ 2000) (hk : -1022 ≤ k) (hk' : k ≤ 900) (hrk : 0 ≤ r + k) (hrk' : r + k ≤ 2000) :
    fmul .f64 (canon double false m r) (pow2 k) = canon double false m (r + k).toNat := by
  rw [pow2_canon k hk]
  have e1 : double.read (canon double false m r) = .number false m (double.leastPlace + r) := by
    refine read_canon double false m r h1 (.inr h0) ?_
    rw [d_bin, d_inf]
    have : r * 4503599627370496 ≤ 2000 * 4503599627370496 := Nat.mul_le_mul_right _ hr
    omega
  have e2 : double.read (canon double false (4503599627370496) (k + 1022).toNat) = .number false (4503599627370496) (double.leastPlace + ((k + 1022).toNat : Nat)) := by
    refine read_canon double false _ _ (by decide) (.inr (Nat.le_refl _)) ?_
    rw [d_bin, d_inf]
    have : (k + 1022).toNat * 4503599627370496 ≤ 1922 * 4503599627370496 := Nat.mul_le_mul_right _ (by omega)
    omega
  have e3 : double.mul (canon double false m r) (canon double false (4503599627370496) (k + 1022).toNat) = some (double.nearest false (m * 4503599627370496) (double.leastPlace + r + (double.leastPlace + ((k + 1022).toNat : Nat)))) := by
    unfold Format.mul
    rw [e1, e2]
    rfl
  have e4 := nearest_down double false m 52 (r + k).toNat (double.leastPlace + r + (double.leastPlace + ((k + 1022).toNat : Nat))) h0 h1 (by rw [d_least]; omega) (by
    rw [d_bin, d_inf]
    have : (r + k).toNat * 4503599627370496 ≤ 2000 * 4503599627370496 := Nat.mul_le_mul_right _ (by omega)
    exact Nat.le_trans (Nat.add_le_add this (Nat.le_of_lt h1)) (by decide))
  show (double.mul _ _).getD _ = _
  rw [e3, e4]
  rfl

theorem shift_of (n : Nat) (h : 0 < n) (h1 : n < 9007199254740992) : ∃ s, s ≤ 52 ∧ 4503599627370496 ≤ n * 2 ^ s ∧ n * 2 ^ s < 9007199254740992 := by
  have hn : n ≠ 0 := by omega
  have hl : n.log2 < 53 := (Nat.log2_lt hn).2 (by rw [show 2 ^ 53 = 9007199254740992 from rfl]; exact h1)
  refine ⟨52 - n.log2, by omega, ?_, ?_⟩
  · have e : 4503599627370496 = 2 ^ n.log2 * 2 ^ (52 - n.log2) := by
      rw [← Nat.pow_add, show n.log2 + (52 - n.log2) = 52 by omega]
    calc 4503599627370496 = 2 ^ n.log2 * 2 ^ (52 - n.log2) := e
      _ ≤ n * 2 ^ (52 - n.log2) := Nat.mul_le_mul_right _ (Nat.log2_self_le hn)
  · have e : 2 ^ (n.log2 + 1) * 2 ^ (52 - n.log2) = 9007199254740992 := by
      rw [← Nat.pow_add, show n.log2 + 1 + (52 - n.log2) = 53 by omega]
    calc n * 2 ^ (52 - n.log2) < 2 ^ (n.log2 + 1) * 2 ^ (52 - n.log2) := Nat.mul_lt_mul_of_pos_right Nat.lt_log2_self (Nat.two_pow_pos _)
      _ = 9007199254740992 := e

/-- A float of 24 digits by a whole number times a power of two. -/
theorem place_float (n : Nat) (k : Int) (hn : 0 < n) (h1 : n < 16777216) (hk : -149 ≤ k) (hk' : k ≤ 104) (hs : k = -149 ∨ 8388608 ≤ n) :
    fcvt .f64 .f32 (fmul .f64 (FloatKind.f64.nearest (n : Int)) (pow2 k)) = (k + 149).toNat * 8388608 + n ∧ fcvtOK .f64 .f32 (fmul .f64 (FloatKind.f64.nearest (n : Int)) (pow2 k)) = true := by
  obtain ⟨s, hs1, hs2, hs3⟩ := shift_of n hn (by omega)
  have hs' : s ≤ 1074 := by omega
  rw [near_int n s hs2 hs3 hs1, mul_pow2 (n * 2 ^ s) (1074 - s) k hs2 hs3 (by omega) (by omega) (by omega) (by omega) (by omega)]
  have e1 : double.read (canon double false (n * 2 ^ s) (((1074 - s : Nat) : Int) + k).toNat) = .number false (n * 2 ^ s) (double.leastPlace + ((((1074 - s : Nat) : Int) + k).toNat : Nat)) := by
    refine read_canon double false _ _ hs3 (.inr hs2) ?_
    rw [d_bin, d_inf]
    have : (((1074 - s : Nat) : Int) + k).toNat * 4503599627370496 ≤ 1200 * 4503599627370496 := Nat.mul_le_mul_right _ (by omega)
    omega
  have e2 : single.nearest false (n * 2 ^ s) (double.leastPlace + ((((1074 - s : Nat) : Int) + k).toNat : Nat)) = canon single false n (k + 149).toNat := by
    rcases hs with h | h
    · subst h
      exact nearest_sub single false n s _ (by rw [s_frac]; omega) (by rw [d_least, s_least]; omega) (by rw [s_inf]; omega)
    · refine nearest_down single false n s (k + 149).toNat _ (by rw [s_frac]; exact h) (by rw [s_frac]; omega) (by rw [d_least, s_least]; omega) ?_
      rw [s_bin, s_inf]
      have : (k + 149).toNat * 8388608 ≤ 253 * 8388608 := Nat.mul_le_mul_right _ (by omega)
      exact Nat.le_trans (Nat.add_le_add this (Nat.le_of_lt h1)) (by decide)
  have e3 : single.read (canon single false n (k + 149).toNat) = .number false n (single.leastPlace + ((k + 149).toNat : Nat)) := by
    refine read_canon single false n _ (by rw [s_frac]; omega) ?_ ?_
    · rcases hs with h | h
      · left; omega
      · right; rw [s_frac]; exact h
    · rw [s_bin, s_inf]
      have : (k + 149).toNat * 8388608 ≤ 253 * 8388608 := Nat.mul_le_mul_right _ (by omega)
      omega
  have e4 : FloatKind.f64.decode (canon double false (n * 2 ^ s) (((1074 - s : Nat) : Int) + k).toNat) = .number false (n * 2 ^ s) (double.leastPlace + ((((1074 - s : Nat) : Int) + k).toNat : Nat)) := e1
  have e5 : FloatKind.f32.encode (.number false (n * 2 ^ s) (double.leastPlace + ((((1074 - s : Nat) : Int) + k).toNat : Nat))) = canon single false n (k + 149).toNat := e2
  have e6 : FloatKind.f32.decode (canon single false n (k + 149).toNat) = .number false n (single.leastPlace + ((k + 149).toNat : Nat)) := e3
  constructor
  · unfold fcvt
    rw [if_neg (by decide), e4]
    dsimp only
    rw [e5]
    unfold canon Format.word
    rw [s_bin]
    simp
  · unfold fcvtOK
    rw [if_neg (by decide), e4]
    dsimp only
    rw [e5, e6]
    rfl
end Go.Ax

/- Whole numbers by powers of two. -/
namespace Go.Ax
open Go Go.Proofs Ieee

theorem near_signed (g : Bool) (n s : Nat) (h0 : 4503599627370496 ≤ n * 2 ^ s) (h1 : n * 2 ^ s < 9007199254740992) (hs : s ≤ 52) : double.nearest g n 0 = canon double g (n * 2 ^ s) (1074 - s) := by
  refine nearest_up double g n s (1074 - s) 0 h0 h1 (by rw [d_least]; omega) ?_
  rw [d_bin, d_inf]
  have : (1074 - s) * 4503599627370496 ≤ 1074 * 4503599627370496 := Nat.mul_le_mul_right _ (by omega)
  exact Nat.le_trans (Nat.add_le_add this (Nat.le_of_lt h1)) (by decide)

theorem quot_exact (g : Bool) (m N d q : Nat) (i j : Int) (hN : N ≠ 0) (hl : m.log2 = N.log2) (q1 : m <<< d / N = q) (q2 : m <<< d % N = 0) :
    Datum.quotient d (.number g m i) (.number false N j) = some (.number g (2 * q) (i - j - d - 1)) := by
  unfold Datum.quotient
  simp only [if_neg hN, hl, Nat.add_sub_cancel, q1, q2]
  simp
theorem div_pow2 (g : Bool) (m r : Nat) (k : Int) (h0 : 4503599627370496 ≤ m) (h1 : m < 9007199254740992) (hr : r ≤ 2000) (hk : -1022 ≤ k) (hk' : k ≤ 900) (hrk : 0 ≤ r - k) (hrk' : r - k ≤ 2000) :
    fdiv .f64 (canon double g m r) (pow2 k) = canon double g m (r - k).toNat := by
  rw [pow2_canon k hk]
  have e1 : double.read (canon double g m r) = .number g m (double.leastPlace + r) := by
    refine read_canon double g m r h1 (.inr h0) ?_
    rw [d_bin, d_inf]
    have : r * 4503599627370496 ≤ 2000 * 4503599627370496 := Nat.mul_le_mul_right _ hr
    omega
  have e2 : double.read (canon double false (4503599627370496) (k + 1022).toNat) = .number false (4503599627370496) (double.leastPlace + ((k + 1022).toNat : Nat)) := by
    refine read_canon double false _ _ (by decide) (.inr (Nat.le_refl _)) ?_
    rw [d_bin, d_inf]
    have : (k + 1022).toNat * 4503599627370496 ≤ 1922 * 4503599627370496 := Nat.mul_le_mul_right _ (by omega)
    omega
  have l1 : m.log2 = 52 := log2_eq h0 h1
  have l2 : (4503599627370496 : Nat).log2 = 52 := log2_eq (by decide) (by decide)
  have q1 : m <<< 54 / 4503599627370496 = m * 4 := by
    rw [Nat.shiftLeft_eq, show (2 : Nat) ^ 54 = 4 * 4503599627370496 by decide, ← Nat.mul_assoc, Nat.mul_div_cancel _ (by decide)]
  have q2 : m <<< 54 % 4503599627370496 = 0 := by
    rw [Nat.shiftLeft_eq, show (2 : Nat) ^ 54 = 4 * 4503599627370496 by decide, ← Nat.mul_assoc, Nat.mul_mod_left]
  have e3 : double.div (canon double g m r) (canon double false (4503599627370496) (k + 1022).toNat) = some (double.nearest g (m * 2 ^ 3) (double.leastPlace + r - (double.leastPlace + ((k + 1022).toNat : Nat)) - 55)) := by
    unfold Format.div
    rw [e1, e2]
    have : Datum.quotient (double.fractionBits + 2) (.number g m (double.leastPlace + r)) (.number false 4503599627370496 (double.leastPlace + ((k + 1022).toNat : Nat))) =
        some (.number g (m * 2 ^ 3) (double.leastPlace + r - (double.leastPlace + ((k + 1022).toNat : Nat)) - 55)) := by
      have := quot_exact g m 4503599627370496 54 (m * 4) (double.leastPlace + r) (double.leastPlace + ((k + 1022).toNat : Nat)) (by decide) (l1.trans l2.symm) q1 q2
      have hd : double.fractionBits + 2 = 54 := rfl
      rw [hd, this]
      have h8 : 2 * (m * 4) = m * 2 ^ 3 := by rw [show (2 : Nat) ^ 3 = 8 from rfl]; omega
      have h9 : ∀ y : Int, y - ((54 : Nat) : Int) - 1 = y - 55 := fun y => by omega
      rw [h8, h9]
    rw [this]
    rfl
  have e4 := nearest_down double g m 3 (r - k).toNat (double.leastPlace + r - (double.leastPlace + ((k + 1022).toNat : Nat)) - 55) h0 h1 (by rw [d_least]; omega) (by
    rw [d_bin, d_inf]
    have : (r - k).toNat * 4503599627370496 ≤ 2000 * 4503599627370496 := Nat.mul_le_mul_right _ (by omega)
    exact Nat.le_trans (Nat.add_le_add this (Nat.le_of_lt h1)) (by decide))
  show (double.div _ _).getD _ = _
  rw [e3, e4]
  rfl

/-- A whole number of at most 26 digits by a power of two: it is no great number. -/
theorem unit_ok (x : Int) (k : Int) (hx : x.natAbs < 67108864) (hx0 : x ≠ 0) (hk : 0 ≤ k) (hk' : k ≤ 100) : fcvtOK .f64 .f32 (fdiv .f64 (FloatKind.f64.nearest x) (pow2 k)) = true := by
  have e : FloatKind.f64.nearest x = double.nearest (decide (x < 0)) x.natAbs 0 := rfl
  obtain ⟨s, hs1, hs2, hs3⟩ := shift_of x.natAbs (by omega) (by omega)
  rw [e, near_signed _ _ s hs2 hs3 hs1, div_pow2 _ _ _ k hs2 hs3 (by omega) (by omega) (by omega) (by omega) (by omega)]
  have hl : (x.natAbs * 2 ^ s).log2 = 52 := log2_eq hs2 hs3
  have hs26 : 26 < s := by
    rcases Nat.lt_or_ge 26 s with h | h
    · exact h
    · have h2 : 2 ^ s ≤ 2 ^ 26 := Nat.pow_le_pow_right (by decide) h
      have : x.natAbs * 2 ^ s ≤ 67108863 * 2 ^ 26 := Nat.mul_le_mul (by omega) h2
      have h3 : (2 : Nat) ^ 26 = 67108864 := by decide
      rw [h3] at this
      omega
  refine fcvtOK_small _ (decide (x < 0)) (x.natAbs * 2 ^ s) (double.leastPlace + ((((1074 - s : Nat) : Int) - k).toNat : Nat)) ?_ ?_
  · refine read_canon double _ _ _ hs3 (.inr hs2) ?_
    rw [d_bin, d_inf]
    have : (((1074 - s : Nat) : Int) - k).toNat * 4503599627370496 ≤ 1100 * 4503599627370496 := Nat.mul_le_mul_right _ (by omega)
    omega
  · rw [hl, d_least]; omega
end Go.Ax

/- spec.l01Float: the float with a place (its call). -/
namespace Go.Ax
open Go Go.Proofs

def withN1 (v : AV) : Option (List Bool) → Option (AV × List Bool)
  | some n => some (v, n)
  | none => none
theorem withN1_some {v v' : AV} {o : Option (List Bool)} {n : List Bool} (h : withN1 v o = some (v', n)) : v = v' ∧ o = some n := by
  cases o <;> simp [withN1] at h
  exact ⟨h.1, by rw [h.2]⟩
noncomputable def gTwo : List AV → Option (AV × List Bool)
  | [.i l .i64 k] => withN1 (.f l .f64 (pow2 k)) (chk l (decide (-160 ≤ k) && decide (k ≤ 130)))
  | _ => none
theorem two_at : SoundAt Tryz.prog 218 (pureT gTwo) := fun args H nd K => by
  refine pureT_sound (fun args v n h hn H => ?_) args H nd K
  unfold gTwo at h
  split at h <;> (try (cases h; done))
  rename_i l k
  obtain ⟨rfl, hc⟩ := withN1_some h
  have hn := chk_spec hc hn
  simp only [Bool.and_eq_true, decide_eq_true_eq] at hn
  exact ((two_ok k hn.1 hn.2 H).bare (args' := [.i l .i64 k]) rfl).weaken fun σ x r => (by cases r with | f hr => exact .f hr)
/-- The float with a place. -/
noncomputable def fltOf (k : Int) : Nat := if k < 0 then 2147483648 + (-k).toNat else k.toNat
noncomputable def tF1 : Table := look [(218, pureT gTwo)] noT
theorem tF1_sound : SoundT Tryz.prog tF1 := look_sound (noT_sound _) fun p hp => by
  simp only [List.mem_cons, List.not_mem_nil, or_false] at hp
  subst hp; exact two_at

noncomputable def fltE (k : Int) : Int := IntKind.i64.wrap (IntKind.i64.wrap (k.fdiv (2 ^ min (Int.toNat 23) IntKind.i64.bits) - 127) - 23)
noncomputable def fltRes (r : Res) (k : Int) : Res := Res.ite (decide (k < 0)) r
  (Res.ite (decide (k < 8388608))
    (Res.ret (AV.f false FloatKind.f32 (fcvt FloatKind.f64 FloatKind.f32 (fmul FloatKind.f64 (FloatKind.f64.nearest k) (pow2 (-149))))) [] [fcvtOK FloatKind.f64 FloatKind.f32 (fmul FloatKind.f64 (FloatKind.f64.nearest k) (pow2 (-149)))])
    (Res.ret (AV.f false FloatKind.f32 (fcvt FloatKind.f64 FloatKind.f32 (fmul FloatKind.f64 (FloatKind.f64.nearest (IntKind.i64.wrap (k.tmod 8388608 + 8388608))) (pow2 (fltE k))))) []
      [fcvtOK FloatKind.f64 FloatKind.f32 (fmul FloatKind.f64 (FloatKind.f64.nearest (IntKind.i64.wrap (k.tmod 8388608 + 8388608))) (pow2 (fltE k))),
        decide (-160 ≤ fltE k) && decide (fltE k ≤ 130)]))
theorem flt_run1 (k : Int) : runF Tryz.prog tF1 100 202 [.i false .i64 k] [] [] (fun v H nd => .ret v H nd) = fltRes .fail k := by kernel_rfl

theorem flt_zero : fcvt .f64 .f32 (fmul .f64 (FloatKind.f64.nearest 0) (pow2 (-149))) = 0 ∧ fcvtOK .f64 .f32 (fmul .f64 (FloatKind.f64.nearest 0) (pow2 (-149))) = true := by
  constructor <;> kernel_rfl
theorem flt_pos (k : Int) (h0 : 0 ≤ k) (h1 : k ≤ 2139095039) (H : List AB) : CallOK Tryz.prog 202 [.i false .i64 k] H (.f false .f32 (fltOf k)) H := by
  have hS := runF_sound tF1_sound 100
  have hr := flt_run1 k
  have hn : ¬ k < 0 := by omega
  have hv : fltOf k = k.toNat := by unfold fltOf; rw [if_neg hn]
  rw [hv]
  by_cases hs : k < 8388608
  · have key : fcvt .f64 .f32 (fmul .f64 (FloatKind.f64.nearest k) (pow2 (-149))) = k.toNat ∧ fcvtOK .f64 .f32 (fmul .f64 (FloatKind.f64.nearest k) (pow2 (-149))) = true := by
      by_cases hz : k = 0
      · subst hz; exact flt_zero
      · have := place_float k.toNat (-149) (by omega) (by omega) (by omega) (by omega) (.inl rfl)
        rw [Int.toNat_of_nonneg h0] at this
        simpa using this
    refine (call_of_sel (T := runF Tryz.prog tF1 100) (H' := []) hS (v := .f false .f32 k.toNat) (nd := [fcvtOK FloatKind.f64 FloatKind.f32 (fmul FloatKind.f64 (FloatKind.f64.nearest k) (pow2 (-149)))]) ?_ ?_).lift rfl rfl H rfl
    · rw [hr]; simp only [fltRes, Res.sel, hn, hs, decide_false, decide_true, Bool.false_eq_true, if_false, if_true, key.1]
    · simp only [allT, key.2]; rfl
  · have hq : k.fdiv (2 ^ min (Int.toNat 23) IntKind.i64.bits) = k / 8388608 := by
      rw [Int.fdiv_eq_ediv_of_nonneg _ (by decide)]
      rfl
    have hm : k.tmod 8388608 = k % 8388608 := Int.tmod_eq_emod_of_nonneg h0
    have hE : fltE k = k / 8388608 - 150 := by
      unfold fltE
      rw [hq, wrap64_id (n := k / 8388608 - 127) (by omega) (by omega), wrap64_id (by omega) (by omega)]
      omega
    have hM : IntKind.i64.wrap (k.tmod 8388608 + 8388608) = ((k % 8388608 + 8388608).toNat : Nat) := by
      rw [hm, wrap64_id (by omega) (by omega)]
      omega
    have key := place_float (k % 8388608 + 8388608).toNat (k / 8388608 - 150) (by omega) (by omega) (by omega) (by omega) (.inr (by omega))
    have hval : (k / 8388608 - 150 + 149).toNat * 8388608 + (k % 8388608 + 8388608).toNat = k.toNat := by omega
    rw [hval] at key
    refine (call_of_sel (T := runF Tryz.prog tF1 100) (H' := []) hS (v := .f false .f32 k.toNat) (nd := [fcvtOK FloatKind.f64 FloatKind.f32 (fmul FloatKind.f64 (FloatKind.f64.nearest (IntKind.i64.wrap (k.tmod 8388608 + 8388608))) (pow2 (fltE k))),
        decide (-160 ≤ fltE k) && decide (fltE k ≤ 130)]) ?_ ?_).lift rfl rfl H rfl
    · rw [hr]; simp only [fltRes, Res.sel, hn, hs, decide_false, Bool.false_eq_true, if_false, hE, hM, key.1]
    · rw [hE, hM, key.2]
      simp [allT]
      omega

noncomputable def gFlt : List AV → Option (AV × List Bool)
  | [.i l .i64 k] => withN1 (.f l .f32 (fltOf k)) (chk l (decide (0 ≤ k) && decide (k ≤ 2139095039)))
  | _ => none
theorem flt_at : SoundAt Tryz.prog 202 (pureT gFlt) := fun args H nd K => by
  refine pureT_sound (fun args v n h hn H => ?_) args H nd K
  unfold gFlt at h
  split at h <;> (try (cases h; done))
  rename_i l k
  obtain ⟨rfl, hc⟩ := withN1_some h
  have hn := chk_spec hc hn
  simp only [Bool.and_eq_true, decide_eq_true_eq] at hn
  exact ((flt_pos k hn.1 hn.2 H).bare (args' := [.i l .i64 k]) rfl).weaken fun σ x r => (by cases r with | f hr => exact .f hr)
noncomputable def tF2 : Table := look [(202, pureT gFlt), (218, pureT gTwo)] noT
theorem tF2_sound : SoundT Tryz.prog tF2 := look_sound (noT_sound _) fun p hp => by
  simp only [List.mem_cons, List.not_mem_nil, or_false] at hp
  rcases hp with rfl | rfl
  · exact flt_at
  · exact two_at
theorem neg_word (m : Nat) (h : m < 2147483648) : fneg .f32 m = 2147483648 + m := by
  show m ^^^ 2 ^ 31 = 2 ^ 31 + m
  have h' : m < 2 ^ 31 := h
  have e := Nat.two_pow_add_eq_or_of_lt h' 1
  rw [Nat.mul_one] at e
  rw [e]
  refine Nat.eq_of_testBit_eq fun i => ?_
  rw [Nat.testBit_xor, Nat.testBit_or, Nat.testBit_two_pow]
  by_cases hi : 31 = i
  · subst hi
    rw [Nat.testBit_lt_two_pow h']; simp
  · simp [hi]
noncomputable def fltNeg (k : Int) : Res := Res.ret (AV.f false .f32 (fneg .f32 (fltOf (IntKind.i64.wrap (0 - k))))) [] [decide (0 ≤ IntKind.i64.wrap (0 - k)) && decide (IntKind.i64.wrap (0 - k) ≤ 2139095039)]
theorem flt_run2 (k : Int) : runF Tryz.prog tF2 100 202 [.i false .i64 k] [] [] (fun v H nd => .ret v H nd) = fltRes (fltNeg k) k := by kernel_rfl
theorem flt_ok (k : Int) (h0 : -2139095039 ≤ k) (h1 : k ≤ 2139095039) (H : List AB) : CallOK Tryz.prog 202 [.i false .i64 k] H (.f false .f32 (fltOf k)) H := by
  by_cases hk : 0 ≤ k
  · exact flt_pos k hk h1 H
  · have hn : k < 0 := by omega
    have hS := runF_sound tF2_sound 100
    have hr := flt_run2 k
    have hw : IntKind.i64.wrap (0 - k) = -k := by rw [wrap64_id (by omega) (by omega)]; omega
    have hneg : fneg .f32 (fltOf (-k)) = fltOf k := by
      unfold fltOf
      rw [if_pos hn, if_neg (by omega)]
      have hb : (-k).toNat < 2147483648 := by omega
      generalize (-k).toNat = m at hb
      exact neg_word m hb
    refine (call_of_sel (T := runF Tryz.prog tF2 100) (H' := []) hS (v := .f false .f32 (fltOf k)) (nd := [decide (0 ≤ -k) && decide (-k ≤ 2139095039)]) ?_ ?_).lift rfl rfl H rfl
    · rw [hr]; simp only [fltRes, fltNeg, Res.sel, hn, decide_true, if_true, hw, hneg]
    · simp [allT]; omega
noncomputable def gFloat : List AV → Option (AV × List Bool)
  | [.i l .i64 k] => withN1 (.f l .f32 (fltOf k)) (chk l (decide (-2139095039 ≤ k) && decide (k ≤ 2139095039)))
  | _ => none
theorem float_at : SoundAt Tryz.prog 202 (pureT gFloat) := fun args H nd K => by
  refine pureT_sound (fun args v n h hn H => ?_) args H nd K
  unfold gFloat at h
  split at h <;> (try (cases h; done))
  rename_i l k
  obtain ⟨rfl, hc⟩ := withN1_some h
  have hn := chk_spec hc hn
  simp only [Bool.and_eq_true, decide_eq_true_eq] at hn
  exact ((flt_ok k hn.1 hn.2 H).bare (args' := [.i l .i64 k]) rfl).weaken fun σ x r => (by cases r with | f hr => exact .f hr)
end Go.Ax

/- spec.l01Next as a table's row: small numbers are told one by one. -/
namespace Go.Ax
open Go Go.Proofs

def splitK (K : AV → Res) (x : Int) : Nat → Res
  | 0 => K (.i true .i64 (Int.ofNat 0))
  | j + 1 => .ite (decide (x = Int.ofNat (j + 1))) (K (.i true .i64 (Int.ofNat (j + 1)))) (splitK K x j)
theorem splitK_sel (K : AV → Res) (x : Int) : ∀ j, ∃ k : Nat, (splitK K x j).sel = (K (.i true .i64 (Int.ofNat k))).sel ∧ (0 ≤ x → x ≤ j → x = k)
  | 0 => ⟨0, rfl, fun h0 h1 => by omega⟩
  | j + 1 => by
    by_cases h : x = Int.ofNat (j + 1)
    · exact ⟨j + 1, by simp only [splitK, Res.sel, h, decide_true, if_true], fun _ _ => h⟩
    · obtain ⟨k, h1, h2⟩ := splitK_sel K x j
      refine ⟨k, by simp only [splitK, Res.sel, h, decide_false, Bool.false_eq_true, if_false, h1], fun h0 h3 => h2 h0 ?_⟩
      have : x ≠ ((j + 1 : Nat) : Int) := h
      omega

noncomputable def nextT : Table := fun _ args H nd K =>
  match args with
  | [p, .i l .i64 n] => match p with
    | .p _ id off => match readCode (getB H 0), readSrc (getB H id), decide (off = 0) && !decide (id = 0) with
      | some (o', b), some (o, m, a, h), true =>
        match l && decide (1 ≤ n) && decide (n ≤ 9) with
        | true => splitK (fun v => K v (setB H id (srcR o m (nxA ⟨b, o', m⟩ a n) (nxS h n))) (okB ⟨b, o', m⟩ o m :: nd)) (nxV ⟨b, o', m⟩ a h n) (n.toNat - 1)
        | false => K (.i false .i64 (nxV ⟨b, o', m⟩ a h n)) (setB H id (srcR o m (nxA ⟨b, o', m⟩ a n) (nxS h n))) (okB ⟨b, o', m⟩ o m :: nd)
      | _, _, _ => .fail
    | _ => .fail
  | _ => .fail

theorem next_at : SoundAt Tryz.prog 72 nextT := fun args H nd K => by
  unfold nextT
  split
  case h_2 => exact .inl rfl
  rename_i p l n
  split
  case h_2 => exact .inl rfl
  rename_i lp id off
  split
  case h_2 => exact .inl rfl
  rename_i o' b o m a h hc hs h0
  simp only [Bool.and_eq_true, decide_eq_true_eq, Bool.not_eq_true', decide_eq_false_iff_not] at h0
  obtain ⟨rfl, h0⟩ := h0
  have main : ∀ v : AV, (okB ⟨b, o', m⟩ o m = true → v.bare = .i false .i64 (nxV ⟨b, o', m⟩ a h n)) → allT (okB ⟨b, o', m⟩ o m :: nd) = true →
      allT nd = true ∧ CallOK Tryz.prog 72 [.p lp id 0, .i l .i64 n] H v (setB H id (srcR o m (nxA ⟨b, o', m⟩ a n) (nxS h n))) := fun v hv hn => by
    simp only [allT, Bool.and_eq_true] at hn
    have hg : goodB ⟨b, o', m⟩ = true := by have := hn.1; simp only [okB, Bool.and_eq_true] at this; exact this.1.1
    have ho : o = o' := by have := hn.1; simp only [okB, Bool.and_eq_true, decide_eq_true_eq] at this; exact this.1.2
    subst ho
    obtain ⟨H2, k, e1, e2, e3⟩ := next_ok hg a h n
    refine ⟨hn.2, ?_⟩
    have hk := (k.src e1 e2 e3 (l := lp) (id := id) (H := H) hc h0 hs).bare (args' := [.p lp id 0, .i l .i64 n]) rfl
    refine hk.weaken fun σ x r => ?_
    have := hv hn.1
    rw [← this] at r
    exact r.unbare
  split
  · rename_i hl
    simp only [Bool.and_eq_true, decide_eq_true_eq] at hl
    obtain ⟨k, e1, e2⟩ := splitK_sel (fun v => K v (setB H id (srcR o m (nxA ⟨b, o', m⟩ a n) (nxS h n))) (okB ⟨b, o', m⟩ o m :: nd)) (nxV ⟨b, o', m⟩ a h n) (n.toNat - 1)
    refine .inr ⟨_, _, _, e1, fun hn => main _ (fun hk => ?_) hn⟩
    have hg : goodB ⟨b, o', m⟩ = true := by simp only [okB, Bool.and_eq_true] at hk; exact hk.1.1
    have hb := nxV_bound hg a h n
    have hb2 := hb.2 hl.1.2
    have := e2 hb.1 (by omega)
    rw [this]; rfl
  · exact .inr ⟨_, _, _, rfl, fun hn => main _ (fun _ => rfl) hn⟩

theorem list_two {α : Type} {p : α → Prop} {x y : α} (hx : p x) (hy : p y) : ∀ z ∈ [x, y], p z := by
  intro z hz
  simp only [List.mem_cons, List.not_mem_nil, or_false] at hz
  rcases hz with rfl | rfl
  · exact hx
  · exact hy
def allAt (P : Program) : List (FuncId × Table) → Prop
  | [] => True
  | p :: l => SoundAt P p.1 p.2 ∧ allAt P l
theorem allAt_mem {P : Program} : ∀ {l : List (FuncId × Table)}, allAt P l → ∀ p ∈ l, SoundAt P p.1 p.2
  | [], _, p, hp => by cases hp
  | q :: l, h, p, hp => by
    cases hp with
    | head => exact h.1
    | tail _ hp => exact allAt_mem h.2 p hp
noncomputable def rows1 : List (FuncId × Table) := [(72, nextT), (202, pureT gFloat)]
theorem rows1_at : allAt Tryz.prog rows1 := ⟨next_at, float_at, trivial⟩
end Go.Ax

/- spec.l01DrawNumber: some number. -/
namespace Go.Ax
open Go Go.Proofs

def plc (x : Int) : Bool := decide (-2139095039 ≤ x) && decide (x ≤ 2139095039)
def numNd (k : Bool) (x0 x1 x2 x3 x4 : Int) : List Bool :=
  List.replicate 41 k ++ ([plc (x1)] ++ (List.replicate 5 k ++ ([plc (IntKind.i64.wrap (0 - x1))] ++ (List.replicate 5 k ++ ([plc (IntKind.i64.wrap (2139095039 - x2))] ++ (List.replicate 5 k ++ ([plc (IntKind.i64.wrap (0 - IntKind.i64.wrap (2139095039 - x2)))] ++ (List.replicate 5 k ++ ([plc (IntKind.i64.wrap (x3 * 8388608))] ++ (List.replicate 5 k ++ ([plc (IntKind.i64.wrap (0 - IntKind.i64.wrap (x3 * 8388608)))] ++ (List.replicate 5 k ++ ([plc (IntKind.i64.wrap (IntKind.i64.wrap (52 * 8388608) + x4))] ++ (List.replicate 6 k ++ ([plc (IntKind.i64.wrap (0 - IntKind.i64.wrap (IntKind.i64.wrap (52 * 8388608) + x4)))] ++ (List.replicate 6 k ++ ([plc (IntKind.i64.wrap (IntKind.i64.wrap (190 * 8388608) + x4))] ++ (List.replicate 6 k ++ ([plc (IntKind.i64.wrap (0 - IntKind.i64.wrap (IntKind.i64.wrap (190 * 8388608) + x4)))] ++ (List.replicate 6 k ++ ([plc (IntKind.i64.wrap (IntKind.i64.wrap (63 * 8388608) + x4))] ++ (List.replicate 6 k ++ ([plc (IntKind.i64.wrap (0 - IntKind.i64.wrap (IntKind.i64.wrap (63 * 8388608) + x4)))] ++ (List.replicate 6 k ++ ([plc (x0)] ++ (List.replicate 4 k ++ ([plc (IntKind.i64.wrap (0 - x0))] ++ (List.replicate 3 k))))))))))))))))))))))))))))
theorem plc_true (x : Int) (h : -2139095039 ≤ x ∧ x ≤ 2139095039) : plc x = true := by
  simp [plc, h.1, h.2]
theorem allT_rep : ∀ (n : Nat), allT (List.replicate n true) = true
  | 0 => rfl
  | n + 1 => by simpa [List.replicate_succ, allT] using allT_rep n
theorem numNd_true (x0 x1 x2 x3 x4 : Int) (h0 : 0 ≤ x0 ∧ x0 < 2139095040) (h1 : 0 ≤ x1 ∧ x1 < 16777216) (h2 : 0 ≤ x2 ∧ x2 < 4194304) (h3 : 0 ≤ x3 ∧ x3 < 255) (h4 : 0 ≤ x4 ∧ x4 < 16777216) : allT (numNd true x0 x1 x2 x3 x4) = true := by
  have w : ∀ y : Int, -9223372036854775808 ≤ y ∧ y ≤ 9223372036854775807 → IntKind.i64.wrap y = y := fun y h => wrap64_id h.1 h.2
  unfold numNd
  have e1 : IntKind.i64.wrap (52 * 8388608) = 436207616 := by rw [w _ (by omega)]; rfl
  have e2 : IntKind.i64.wrap (190 * 8388608) = 1593835520 := by rw [w _ (by omega)]; rfl
  have e3 : IntKind.i64.wrap (63 * 8388608) = 528482304 := by rw [w _ (by omega)]; rfl
  rw [e1, e2, e3, w (0 - x1) (by omega), w (2139095039 - x2) (by omega), w (0 - (2139095039 - x2)) (by omega), w (x3 * 8388608) (by omega), w (0 - x3 * 8388608) (by omega),
    w (436207616 + x4) (by omega), w (0 - (436207616 + x4)) (by omega), w (1593835520 + x4) (by omega), w (0 - (1593835520 + x4)) (by omega), w (528482304 + x4) (by omega), w (0 - (528482304 + x4)) (by omega), w (0 - x0) (by omega)]
  simp only [allT_append, allT_rep, allT, Bool.true_and, Bool.and_true]
  repeat rw [plc_true _ (by omega)]
  rfl

def formF : Form Nat where
  get := fun | .f _ .f32 x => some x | _ => none
  val := fun x => .f false .f32 x
  rel := fun {v x} h σ y r => by
    split at h <;> cases h
    cases r with | f hr => exact .f hr
  low := fun _ => rfl
noncomputable def tab1 : Table := deep Tryz.prog rows1 [73] 1000 5
theorem tab1_sound : SoundT Tryz.prog tab1 := deep_sound (allAt_mem rows1_at) 5
noncomputable def number (c : Cd) (a : Nat) (h : Int) : Option (Nat × Nat × Int × List Bool) :=
  srcEx formF c (runF Tryz.prog tab1 1000 181 [.p true 1 0] [codeB c false, srcB c a h] [] fun v H nd => .ret v H nd)
theorem number_nd (c : Cd) (a : Nat) (h : Int) : (number c a h).map (fun r => r.2.2.2) = some (numNd (okB c c.off c.len) (nxV c a h 2139095040) (nxV c (nxA c (nxA c a 2139095040) 10) (nxS (nxS h 2139095040) 10) 16777216)
    (nxV c (nxA c (nxA c a 2139095040) 10) (nxS (nxS h 2139095040) 10) 4194304) (nxV c (nxA c (nxA c a 2139095040) 10) (nxS (nxS h 2139095040) 10) 255)
    (nxV c (nxA c (nxA c (nxA c a 2139095040) 10) 3) (nxS (nxS (nxS h 2139095040) 10) 3) 16777216)) := by kernel_rfl
theorem number_ex {c : Cd} (hc : goodB c = true) (a : Nat) (h : Int) : ∃ x a' h', SrcOK Tryz.prog 181 [] c a h (.f false .f32 x) a' h' := by
  have hn := number_nd c a h
  have hk : okB c c.off c.len = true := by simp [okB, hc]
  cases hr : number c a h with
  | none => rw [hr] at hn; cases hn
  | some r =>
    obtain ⟨x, a', h', nd⟩ := r
    rw [hr] at hn
    simp only [Option.map_some, Option.some.injEq] at hn
    refine ⟨x, a', h', srcOK_of_ex (F := formF) (runF_sound tab1_sound 1000) hr ?_ rfl⟩
    rw [hn, hk]
    have b : ∀ a h n, 1 ≤ n → 0 ≤ nxV c a h n ∧ nxV c a h n < n := fun a h n hn => ⟨(nxV_bound hc a h n).1, (nxV_bound hc a h n).2 hn⟩
    exact numNd_true _ _ _ _ _ (b _ _ _ (by decide)) (b _ _ _ (by decide)) (b _ _ _ (by decide)) (b _ _ _ (by decide)) (b _ _ _ (by decide))

/-- The number drawn, and the state behind it. -/
noncomputable def numV (c : Cd) (a : Nat) (h : Int) : Nat × Nat × Int :=
  open Classical in if hx : ∃ r : Nat × Nat × Int, SrcOK Tryz.prog 181 [] c a h (.f false .f32 r.1) r.2.1 r.2.2 then hx.choose else (0, a, h)
theorem numV_ok {c : Cd} (hc : goodB c = true) (a : Nat) (h : Int) : SrcOK Tryz.prog 181 [] c a h (.f false .f32 (numV c a h).1) (numV c a h).2.1 (numV c a h).2.2 := by
  obtain ⟨x, a', h', hx⟩ := number_ex hc a h
  have he : ∃ r : Nat × Nat × Int, SrcOK Tryz.prog 181 [] c a h (.f false .f32 r.1) r.2.1 r.2.2 := ⟨(x, a', h'), hx⟩
  unfold numV
  rw [dif_pos he]
  exact he.choose_spec
noncomputable def numT : Table := srcT fun c a h sc => match sc with
  | [] => some (.f false .f32 (numV c a h).1, (numV c a h).2.1, (numV c a h).2.2, [])
  | _ => none
theorem num_at : SoundAt Tryz.prog 181 numT := fun args H nd K => by
  refine srcT_sound (fun c a h sc v a' h' q hc hg _ => ?_) args H nd K
  split at hg <;> cases hg
  exact numV_ok hc a h
end Go.Ax

/- spec.l10Draw: a list of some numbers. -/
namespace Go.Ax
open Go Go.Proofs

noncomputable def rows2 : List (FuncId × Table) := (181, numT) :: rows1
theorem rows2_at : allAt Tryz.prog rows2 := ⟨num_at, rows1_at⟩
noncomputable def tab2 : Table := deep Tryz.prog rows2 [73] 1000 5
theorem tab2_sound : SoundT Tryz.prog tab2 := deep_sound (allAt_mem rows2_at) 5

def cL : Code → Code
  | .seq a _ => a
  | c => c
def cR : Code → Code
  | .seq _ b => b
  | c => c
def cB : Code → Code
  | .block _ c => c
  | c => c
def cO : Code → Code
  | .loop c => c
  | c => c
def Res.conds : Res → List Bool → List Bool
  | .ite b x y, p :: l => b :: (match p with
    | true => x.conds l
    | false => y.conds l)
  | _, _ => []
/-- The way that is gone is the one whose tests hold. -/
theorem Res.sel_at : ∀ (l : List Bool) (r : Res), r.conds l = l → r.sel = (r.at l).sel
  | [], r, _ => by cases r <;> rfl
  | p :: l, r, h => by
    cases r with
    | ite b x y =>
      simp only [Res.conds, List.cons.injEq] at h
      obtain ⟨rfl, h⟩ := h
      cases b with
      | true => exact Res.sel_at l x h
      | false => exact Res.sel_at l y h
    | _ => rfl
theorem toLoop_head (P : Program) (T : Table) (n : Nat) (c : Code) (k : List Item) (t : List AV) (H : List AB) : toLoop P T (n + 1) (.code (.loop c) :: k) t H = toLoop P T (n + 1) (.inLoop c :: k) t H := rfl
/-- The end. -/
noncomputable def retOf (rs : List ResultVar) : Res → Option (Option (List AV × List Bool) × List AB × List Bool)
  | .ret v H nd => match v with
    | .tup t => some (resV Tryz.prog t H rs, H, nd)
    | _ => none
  | _ => none
theorem retOf_some {rs : List ResultVar} {r : Res} {x : Option (List AV × List Bool)} {H : List AB} {nd : List Bool} (h : retOf rs r = some (x, H, nd)) : ∃ t, r = .ret (.tup t) H nd ∧ resV Tryz.prog t H rs = x := by
  unfold retOf at h
  split at h <;> (try (cases h; done))
  split at h <;> cases h
  exact ⟨_, rfl, rfl⟩
end Go.Ax

/- spec.l01From: a source out of a text of bytes. -/
namespace Go.Ax
open Go Go.Proofs

/-- A leaf where only what is of use is kept, by a mask. -/
noncomputable def leafM (M : List Bool) : Res → Option (List AV × List AB × List Bool)
  | .stop _ t H nd => some (blur M t, H, nd)
  | _ => none
theorem leafM_stop {M : List Bool} {r : Res} {L : List Item} {t : List AV} {H : List AB} {nd : List Bool} (h1 : r.todo = L) (h2 : leafM M r = some (t, H, nd)) : ∃ t0, r = .stop L t0 H nd ∧ t = blur M t0 := by
  cases r <;> simp [leafM] at h2
  rename_i todo t0 H0 nd0
  obtain ⟨rfl, rfl, rfl⟩ := h2
  simp [Res.todo] at h1
  subst h1
  exact ⟨t0, rfl, rfl⟩
/-- From a leaf to a way. -/
theorem reach_leaf {P : Program} {T : Table} (hT : SoundT P T) {n : Nat} {todo L : List Item} {t0 t : List AV} {H H' : List AB} {nd : List Bool} {M p : List Bool} (hc : (toLoop P T n todo t0 H).conds p = p)
    (h1 : ((toLoop P T n todo t0 H).at p).todo = L) (h2 : leafM M ((toLoop P T n todo t0 H).at p) = some (t, H', nd)) (hn : allT nd = true) : Reach P todo t0 H L t H' := by
  obtain ⟨t1, e1, rfl⟩ := leafM_stop h1 h2
  have e2 := Res.sel_at p _ hc
  rw [e1] at e2
  exact (toLoop_reach hT e2 hn).weak (blur_eqv M t1)
theorem ends_leaf {T : Table} (hT : SoundT Tryz.prog T) {n : Nat} {todo : List Item} {t0 : List AV} {H H' : List AB} {nd : List Bool} {rs : List ResultVar} {x : Option (List AV × List Bool)} {p : List Bool} (hc : (toLoop Tryz.prog T n todo t0 H).conds p = p)
    (h2 : retOf rs ((toLoop Tryz.prog T n todo t0 H).at p) = some (x, H', nd)) (hn : allT nd = true) : ∃ t, Ends Tryz.prog todo t0 H t H' ∧ resV Tryz.prog t H' rs = x := by
  obtain ⟨t, e1, e2⟩ := retOf_some h2
  have e3 := Res.sel_at p _ hc
  rw [e1] at e3
  exact ⟨t, toLoop_ends hT e3 hn, e2⟩

noncomputable def frC : Code := Tryz.f64.body.getD .skip
noncomputable def frL : List Item := [.code (.loop (cO (cB (cR (cL (cR (cR frC))))))), .inBlock 0, .code (cR (cR (cR frC)))]
noncomputable def frR : List Item := [.inLoop (cO (cB (cR (cL (cR (cR frC)))))), .inBlock 0, .code (cR (cR (cR frC)))]
noncomputable def frT (c : Cd) (i : Nat) : List AV := [.sl false 0 c.off c.len 0, .any, .any, .p true 1 0, .i false .i64 (Int.ofNat i)] ++ List.replicate 33 .any
noncomputable def frN (c : Cd) (i : Nat) : List AV := [.sl false 0 c.off c.len 0, .any, .any, .p true 1 0, .i false .i64 (IntKind.i64.wrap (Int.ofNat i + 1))] ++ List.replicate 33 .any
noncomputable def frM : List Bool := [false, true, true, false, false] ++ List.replicate 33 true
noncomputable def srcZ (c : Cd) (h : Int) : AB := .cells true (.lit [.sl false 0 c.off c.len 0, .i true .i64 0, .i false .u64 h])
noncomputable def fr0 (c : Cd) : Res := toLoop Tryz.prog noT 100 [.code frC] (.sl false 0 c.off c.len 0 :: undefs 37) [codeB c false]
noncomputable def fr1 (c : Cd) (i : Nat) (h : Int) : Res := toLoop Tryz.prog noT 100 frR (frT c i) [codeB c false, srcZ c h]
noncomputable def frH (c : Cd) (i : Nat) (h : Int) : Int := IntKind.u64.wrap (IntKind.u64.wrap (IntKind.u64.wrap (h * 1099511628211) + IntKind.u64.wrap (c.bytes.getD (c.off + (Int.ofNat i).toNat * 1 - c.off) 0)) + 41)

theorem fr0_fin (c : Cd) : (fr0 c).todo = frL ∧ (leafM frM (fr0 c)).map (fun r => (r.1.map AV.bare, r.2)) = some ((frT c 0).map AV.bare, [codeB c false, srcZ c (IntKind.u64.wrap (10331 + IntKind.u64.wrap (Int.ofNat c.len)))], []) := by
  constructor <;> kernel_rfl
theorem fr1_go (c : Cd) (i : Nat) (h : Int) : (fr1 c i h).conds [true, true] = [decide (Int.ofNat i < ↑c.len), decide (Int.ofNat i < 4096)] ∧ ((fr1 c i h).at [true, true]).todo = frR ∧
    leafM frM ((fr1 c i h).at [true, true]) = some (frN c i, [codeB c false, srcZ c (frH c i h)], [decide (c.off ≤ c.off + (Int.ofNat i).toNat * 1), decide (c.off + (Int.ofNat i).toNat * 1 - c.off < c.bytes.length), decide (0 ≤ Int.ofNat i) && decide (Int.ofNat i < ↑c.len)]) := by
  refine ⟨?_, ?_, ?_⟩ <;> kernel_rfl
theorem fr1_end (c : Cd) (i : Nat) (h : Int) : (fr1 c i h).conds [false] = [decide (Int.ofNat i < ↑c.len)] ∧
    retOf Tryz.f64.results.toList ((fr1 c i h).at [false]) = some (some ([.p true 1 0], []), [codeB c false, srcZ c h], []) := by
  refine ⟨?_, ?_⟩ <;> kernel_rfl

theorem fr_from {c : Cd} (hc : goodB c = true) {todoS : List Item} {tS : List AV} {HS : List AB} (L : List Item) (hL : L = frL ∨ L = frR) : ∀ (m : Nat) (i : Nat) (h : Int), i + m = c.len →
    Reach Tryz.prog todoS tS HS L (frT c i) [codeB c false, srcZ c h] → ∃ t h', Ends Tryz.prog todoS tS HS t [codeB c false, srcZ c h'] ∧ resV Tryz.prog t [codeB c false, srcZ c h'] Tryz.f64.results.toList = some ([.p true 1 0], [])
  | 0, i, h, hi, hr => by
    have hi' : i = c.len := by omega
    subst hi'
    obtain ⟨e1, e2⟩ := fr1_end c c.len h
    have hd : decide (Int.ofNat c.len < ↑c.len) = false := by simp
    rw [hd] at e1
    have hend : ∃ t, Ends Tryz.prog L (frT c c.len) [codeB c false, srcZ c h] t [codeB c false, srcZ c h] ∧ resV Tryz.prog t [codeB c false, srcZ c h] Tryz.f64.results.toList = some ([.p true 1 0], []) := by
      rcases hL with rfl | rfl
      · exact ends_leaf (n := 100) hT0 (T := noT) (p := [false]) e1 e2 rfl
      · exact ends_leaf (n := 100) hT0 (T := noT) (p := [false]) e1 e2 rfl
    obtain ⟨t, e3, e4⟩ := hend
    exact ⟨t, h, hr.ends e3, e4⟩
  | m + 1, i, h, hi, hr => by
    obtain ⟨e1, e2, e3⟩ := fr1_go c i h
    have hg := hc
    simp only [goodB, Bool.and_eq_true, decide_eq_true_eq] at hg
    have hd1 : decide (Int.ofNat i < ↑c.len) = true := by simp; omega
    have hd2 : decide (Int.ofNat i < 4096) = true := by simp; omega
    rw [hd1, hd2] at e1
    have hnd : allT [decide (c.off ≤ c.off + (Int.ofNat i).toNat * 1), decide (c.off + (Int.ofNat i).toNat * 1 - c.off < c.bytes.length), decide (0 ≤ Int.ofNat i) && decide (Int.ofNat i < ↑c.len)] = true := by
      simp [allT]; omega
    have hN : frN c i = frT c (i + 1) := by
      unfold frN frT
      have : IntKind.i64.wrap (Int.ofNat i + 1) = Int.ofNat (i + 1) := by rw [wrap64_id] <;> simp <;> omega
      rw [this]
    rw [hN] at e3
    have hstep : Reach Tryz.prog L (frT c i) [codeB c false, srcZ c h] frR (frT c (i + 1)) [codeB c false, srcZ c (frH c i h)] := by
      rcases hL with rfl | rfl
      · exact reach_leaf (n := 100) hT0 (T := noT) (p := [true, true]) e1 e2 e3 hnd
      · exact reach_leaf (n := 100) hT0 (T := noT) (p := [true, true]) e1 e2 e3 hnd
    exact fr_from hc frR (.inr rfl) m (i + 1) _ (by omega) (hr.trans hstep)

theorem from_ok {c : Cd} (hc : goodB c = true) : ∃ h, CallOK Tryz.prog 64 [.sl false 0 c.off c.len 0] [codeB c false] (.p true 1 0) [codeB c false, srcZ c h] := by
  obtain ⟨e1, e2⟩ := fr0_fin c
  cases hr : fr0 c <;> rw [hr] at e1 e2 <;> simp [leafM] at e2
  rename_i todo t H nd
  obtain ⟨e3, rfl, rfl⟩ := e2
  simp only [Res.todo] at e1
  subst e1
  have h0 : Reach Tryz.prog [.code frC] (.sl false 0 c.off c.len 0 :: undefs 37) [codeB c false] frL (frT c 0) [codeB c false, srcZ c (IntKind.u64.wrap (10331 + IntKind.u64.wrap (Int.ofNat c.len)))] := by
    refine ((toLoop_reach (n := 100) (nd := []) hT0 (T := noT) (t' := t) (todo' := frL) ?_ rfl).weak (blur_eqv frM t)).weak (eqv_of_bare ?_)
    · unfold fr0 at hr; rw [hr]; rfl
    · rw [← e3]
  obtain ⟨t', h', e4, e5⟩ := fr_from hc frL (.inl rfl) c.len 0 _ (by omega) h0
  have hb : Tryz.f64.body = some frC := rfl
  exact ⟨h', call_of_ends (args := [.sl false 0 c.off c.len 0]) (m := []) Tryz.func64 hb e4 e5 rfl⟩
end Go.Ax

/- Table rows for spec.l01From and spec.l10Draw. -/
namespace Go.Ax
open Go Go.Proofs

theorem CallOK.pre {P : Program} {f : FuncId} {args : List AV} {v : AV} {H G H' : List AB} (h : CallOK P f args G v H') (e : HEq H G) : CallOK P f args H v H' := fun σ w rargs s hra => by
  refine (h σ w rargs (e.sim s) hra).mono ?_
  rintro e' w' ⟨rv, rfl, σ', r1, s1, F⟩
  exact ⟨rv, rfl, σ', r1, s1, ⟨F.os, F.tape, F.output, F.size, fun b hb hno => F.old b hb fun i z hr => hno i z (by rw [(e.2 i).1]; exact hr), F.ext,
    fun i b z hb hn => (F.new i b z hb hn).imp id fun ⟨j, z', hj, hj'⟩ => ⟨j, z', by rw [(e.2 j).1]; exact hj, hj'⟩, fun i hi hr => by rw [(e.2 i).1]; exact F.mono i hi hr⟩⟩
theorem CallOK.post {P : Program} {f : FuncId} {args : List AV} {v : AV} {H G H' : List AB} (h : CallOK P f args H v G) (e : HEq G H') : CallOK P f args H v H' := fun σ w rargs s hra => by
  refine (h σ w rargs s hra).mono ?_
  rintro e' w' ⟨rv, rfl, σ', r1, s1, F⟩
  exact ⟨rv, rfl, σ', r1, e.sim s1, ⟨F.os, F.tape, F.output, F.size, F.old, F.ext, F.new, fun i hi hr => F.mono i hi (by rw [(e.2 i).1]; exact hr)⟩⟩
theorem src_same {o m a : Nat} {h : Int} {l1 l2 l3 m1 m2 m3 : Bool} :
    (AB.cells true (.lit [.sl l1 0 o m 0, .i l2 .i64 (Int.ofNat a), .i l3 .u64 h])).rw = (AB.cells true (.lit [.sl m1 0 o m 0, .i m2 .i64 (Int.ofNat a), .i m3 .u64 h])).rw ∧
    (AB.cells true (.lit [.sl l1 0 o m 0, .i l2 .i64 (Int.ofNat a), .i l3 .u64 h])).live = (AB.cells true (.lit [.sl m1 0 o m 0, .i m2 .i64 (Int.ofNat a), .i m3 .u64 h])).live ∧
    ∀ σ z ob, BlkRel σ z (AB.cells true (.lit [.sl l1 0 o m 0, .i l2 .i64 (Int.ofNat a), .i l3 .u64 h])) ob → BlkRel σ z (AB.cells true (.lit [.sl m1 0 o m 0, .i m2 .i64 (Int.ofNat a), .i m3 .u64 h])) ob :=
  ⟨rfl, rfl, fun _ _ _ ⟨c, e, fr, e1, e2, e3⟩ => ⟨c, e, fr, e1, src_rel e2, e3⟩⟩

noncomputable def fromV (c : Cd) : Int := open Classical in if hx : ∃ h, CallOK Tryz.prog 64 [.sl false 0 c.off c.len 0] [codeB c false] (.p true 1 0) [codeB c false, srcZ c h] then hx.choose else 0
theorem fromV_ok {c : Cd} (hc : goodB c = true) : CallOK Tryz.prog 64 [.sl false 0 c.off c.len 0] [codeB c false] (.p true 1 0) [codeB c false, srcZ c (fromV c)] := by
  have he := from_ok hc
  unfold fromV
  rw [dif_pos he]
  exact he.choose_spec
noncomputable def fromT : Table := fun _ args H nd K =>
  match args, H with
  | [s], B :: Hr => match readSl s, readCode B with
    | some (o, n), some (o', b) => K (.p true (Hr.length + 1) 0) (B :: (Hr ++ [srcR o n 0 (fromV ⟨b, o', n⟩)])) (okB ⟨b, o', n⟩ o n :: nd)
    | _, _ => .fail
  | _, _ => .fail
theorem readSl_spec {s : AV} {o n : Nat} (h : readSl s = some (o, n)) : ∃ l, s = .sl l 0 o n 0 := by
  unfold readSl at h
  split at h <;> (try (cases h; done))
  split at h <;> cases h
  rename_i hh
  simp at hh
  obtain ⟨rfl, rfl⟩ := hh
  exact ⟨_, rfl⟩
theorem from_at : SoundAt Tryz.prog 64 fromT := fun args H nd K => by
  unfold fromT
  split
  case h_2 => exact .inl rfl
  rename_i s B Hr
  split
  case h_2 => exact .inl rfl
  rename_i o n o' b hs hb
  refine .inr ⟨_, _, _, rfl, fun hn => ?_⟩
  simp only [allT, Bool.and_eq_true, okB] at hn
  obtain ⟨⟨⟨hg, ho⟩, _⟩, hnd⟩ := hn
  have ho : o = o' := of_decide_eq_true ho
  subst ho
  refine ⟨hnd, ?_⟩
  obtain ⟨l, rfl⟩ := readSl_spec hs
  have hB := readCode_spec hb
  subst hB
  have h1 := ((fromV_ok hg).frame rfl rfl rfl Hr).bare (args' := [.sl l 0 o n 0]) rfl
  have h2 := h1.post (H' := AB.code o b :: (Hr ++ [srcR o n 0 (fromV ⟨b, o, n⟩)])) (by
    refine HEq.cons ⟨rfl, rfl, fun _ _ _ h => h⟩ ?_
    have : ∀ (Hr : List AB) (X Y : AB), HEq [X] [Y] → HEq (Hr ++ [X]) (Hr ++ [Y]) := by
      intro Hr X Y h
      induction Hr with
      | nil => exact h
      | cons A Hr ih => exact HEq.cons ⟨rfl, rfl, fun _ _ _ h => h⟩ ih
    exact this Hr _ _ (HEq.cons src_same (HEq.refl [])))
  have e : upV ([codeB ⟨b, o, n⟩ false] : List AB).length Hr.length (.p true 1 0) = .p true (Hr.length + 1) 0 := by
    show AV.p true (1 + Hr.length) 0 = _
    rw [Nat.add_comm]
  rw [e] at h2
  exact h2

noncomputable def rows3 : List (FuncId × Table) := (64, fromT) :: rows2
theorem rows3_at : allAt Tryz.prog rows3 := ⟨from_at, rows2_at⟩
end Go.Ax
