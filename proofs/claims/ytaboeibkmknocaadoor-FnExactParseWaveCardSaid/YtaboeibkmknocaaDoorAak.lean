/- Regions of open order in which lists, variables and results of calls in new blocks are made among operations that leave memory alone. -/
import Derived.Test.YtaboeibkmknocaaDoorAai
import Derived.Test.YtaboeibkmknocaaDoorAaj
import Derived.Test.YtaboeibkmknocaaDoorTie
import Derived.Test.YtaboeibkmknocaaDoorCards
import Derived.ProofKit
import Derived.OpenShut
import Derived.LaidMore
import Derived.Lay
import Derived.SevenTiedAt
import Derived.Stop.Joined
import Derived.Stop.LaidErr
import Derived.Lib.LaidTab
import Derived.Shelf.Vars
import Derived.HandedShaped
namespace Go.Ax
open Go

section
variable {P : Program} {T : Table} {ops : Array Oper} {m : Nat}

/-- A new list of a length, or a new variable, at the beginning of a block. -/
def MadeG (n : Option Nat) (p : Nat × Nat) (rv : Value) : Prop := match n with
  | some n => ∃ cap, n ≤ cap ∧ 0 + cap * 1 ≤ p.2 ∧ rv = .slice (some ⟨p.1, 0, none⟩) n cap
  | none => rv = .pointer (some ⟨p.1, 0, none⟩)
def mkV (l : Bool) (i : Nat) (n : Option Nat) : AV := match n with
  | some n => .sl l i 0 n 1
  | none => .p l i 0
theorem madeG_of {σ : List (Nat × Nat)} {l : Bool} {i : Nat} {n : Option Nat} {p : Nat × Nat} {rv : Value} (r : Rel σ (mkV l i n) rv) (h : σ[i]? = some p) : MadeG n p rv := by
  cases n with
  | some n =>
    rcases sl_cases r with ⟨_, g2, _⟩ | ⟨_, _, cap, g1, g2, g3, rfl⟩
    · cases g2
    · rw [h] at g1
      cases g1
      exact ⟨cap, g2, g3, rfl⟩
  | none =>
    cases r with | p g1 =>
    rw [h] at g1
    cases g1
    rfl
theorem madeG_rel {σ : List (Nat × Nat)} {l : Bool} {i : Nat} {n : Option Nat} {p : Nat × Nat} {rv : Value} (r : MadeG n p rv) (h : σ[i]? = some p) : Rel σ (mkV l i n) rv := by
  cases n with
  | some n =>
    obtain ⟨cap, c1, c2, rfl⟩ := r
    exact .sl h c1 c2
  | none =>
    cases r
    exact .p h
theorem any_boxes6 (hok : drawOK ops m = true) (hmn : m ≤ ops.size) {K : Nat} {E : Nat → Nat} {B : Nat → AB} {Lb : Nat → Bool} {N : Nat → Option Nat} (hE : ∀ k, k < K → E k < m) (hinj : ∀ k k', k < K → k' < K → E k = E k' → k = k') {t t' : List AV} {H H' : List AB} {val : Nat → AV}
    (hv : ∀ i, i < m → (∀ k, k < K → E k ≠ i) → QVal P ops i (stAt ops val t 0 i) H (val i)) (hb : ∀ k, k < K → BVal2 P ops (E k) (stAt ops val t 0 (E k)) H (mkV (Lb k) H.length (N k)) (B k)) (hve : ∀ k, k < K → val (E k) = mkV (Lb k) (H.length + k) (N k))
    (hlk : ∀ i, i < m → ∀ o, ops[i]? = some o → ∀ n ∈ looks ops o, ∀ k, k < K → gDst ops (E k) ≠ some n) (hlow : lowH H.length H = true) (hlive : ∀ k, k < K → (B k).live = true ∧ lowB H.length (B k) = true)
    (c : Chain P ops m (stAt ops val t 0 m) (H ++ (List.range K).map B) ops.size t' H') {Q : Exit → Act → World → Prop} {σ : List (Nat × Nat)} {w0 : World} (s0 : Sim σ H w0) :
    ∀ (fuel : Nat) (listed : Array Bool) (a : Act) (w : World) (ps : Nat → Nat × Nat), listed.size = ops.size → Down ops listed →
      (left ops listed).length ≤ fuel → (∀ i, m ≤ i → ¬ Ls listed i) → Boxed σ H K B ps (fun k => Ls listed (E k)) w0 w → a.tmps.size = t.length →
      (∀ x, (∀ i, i < m → Ls listed i → gDst ops i = some x → x < t.length → (∀ k, k < K → E k = i → MadeG (N k) (ps k) (a.tmps.getD x undef)) ∧ ((∀ k, k < K → E k ≠ i) → Rel σ (val i) (a.tmps.getD x undef))) ∧
        ((∀ i, i < m → Ls listed i → gDst ops i ≠ some x) → Rel σ (getL t x) (a.tmps.getD x undef))) →
      (∀ a' w' σ', RelL σ' t' a'.tmps.toList → a'.defers = a.defers → Sim σ' H' w' → Fr σ H w0 σ' H' w' → Q .normal a' w') → wpAny P .any ops Q fuel listed a w := by
  have hdist : ∀ i i', i < m → i' < m → i' ≠ i → ∀ x, gDst ops i = some x → gDst ops i' ≠ some x := fun i i' hi hi' hne x hx => by
    have hoi : ops[i]? = some ops[i] := Array.getElem?_eq_getElem (by omega)
    have hd : ops[i].dst = some x := by simpa [gDst, hoi] using hx
    exact ((drawOK_spec hok i _ hoi).2.1 hi).2 i' hi' hne x hd
  have htail : ∀ (fuel : Nat) (listed : Array Bool) (a : Act) (w : World) (ps : Nat → Nat × Nat), listed.size = ops.size → Down ops listed →
      (left ops listed).length ≤ fuel → (∀ i, m ≤ i → ¬ Ls listed i) → (∀ i, i < m → Ls listed i) → Boxed σ H K B ps (fun k => Ls listed (E k)) w0 w → a.tmps.size = t.length →
      (∀ x, (∀ i, i < m → Ls listed i → gDst ops i = some x → x < t.length → (∀ k, k < K → E k = i → MadeG (N k) (ps k) (a.tmps.getD x undef)) ∧ ((∀ k, k < K → E k ≠ i) → Rel σ (val i) (a.tmps.getD x undef))) ∧
        ((∀ i, i < m → Ls listed i → gDst ops i ≠ some x) → Rel σ (getL t x) (a.tmps.getD x undef))) →
      (∀ a' w' σ', RelL σ' t' a'.tmps.toList → a'.defers = a.defers → Sim σ' H' w' → Fr σ H w0 σ' H' w' → Q .normal a' w') → wpAny P .any ops Q fuel listed a w := by
    intro fuel listed a w ps hsz hd hf hnm hall hbx hat hx q
    obtain ⟨sa, fa⟩ := hbx.all s0 fun k hk => hall _ (hE k hk)
    have hext : Ext σ (σ ++ (List.range K).map ps) := Ext.append σ _
    have hlen : σ.length = H.length := s0.len
    refine any_tail hok fuel listed m _ _ _ a w hsz hd hf (Nat.le_refl _) (fun i hi => ⟨fun h => ?_, fun h => hall i h⟩) c sa ?_ fun a2 w2 σ2 r2 d2 s2 f2 => q a2 w2 σ2 r2 d2 s2 (fa.trans f2)
    · rcases Nat.lt_or_ge i m with h' | h'
      · exact h'
      · exact absurd h (hnm i h')
    · refine RelL.of_get (by rw [stAt_length]; simpa using hat.symm) fun x b y hb hy => ?_
      have hxl : x < t.length := by
        rcases Nat.lt_or_ge x t.length with h' | h'
        · exact h'
        · rw [List.getElem?_eq_none (by rw [stAt_length]; exact h')] at hb; cases hb
      have hb' : b = getL (stAt ops val t 0 m) x := by
        rw [getL_some (by rw [stAt_length]; exact hxl)] at hb; cases hb; rfl
      have hy' : a.tmps.getD x undef = y := by
        have : a.tmps[x]? = some y := by simpa using hy
        rw [Array.getD_eq_getD_getElem?, this]; rfl
      subst hb'
      rw [← hy']
      by_cases hex : ∃ i, i < m ∧ gDst ops i = some x
      · obtain ⟨i, hi, hgi⟩ := hex
        rw [stAt_val ops val m 0 t i (by omega) (by omega) hgi hxl (fun i' _ h2 h3 => hdist i i' hi (by omega) h3 x hgi)]
        have h0 := (hx x).1 i hi (hall i hi) hgi hxl
        by_cases hk : ∃ k, k < K ∧ E k = i
        · obtain ⟨k, hk, rfl⟩ := hk
          rw [hve k hk, ← hlen]
          exact madeG_rel (h0.1 k hk rfl) (range_get σ K ps hk)
        · exact (h0.2 fun k hk' he => hk ⟨k, hk', he⟩).mono hext
      · have hno : ∀ i, i < m → gDst ops i ≠ some x := fun i hi hg => hex ⟨i, hi, hg⟩
        rw [stAt_untouched ops val m 0 t (fun i _ h2 => hno i (by omega))]
        exact ((hx x).2 fun i hi _ => hno i hi).mono hext
  intro fuel
  induction fuel with
  | zero =>
    intro listed a w ps hsz hd hf hnm hbx hat hx q
    refine htail 0 listed a w ps hsz hd hf hnm (fun i hi => ?_) hbx hat hx q
    apply Classical.byContradiction
    intro hn
    have : i ∈ left ops listed := mem_left.2 ⟨by omega, hn⟩
    have := List.length_pos_of_mem this
    omega
  | succ fuel ih =>
    intro listed a w ps hsz hd hf hnm hbx hat hx q
    by_cases hall : ∀ i, i < m → Ls listed i
    · exact htail _ listed a w ps hsz hd hf hnm hall hbx hat hx q
    refine ⟨fun hr => ?_, fun j hj => ?_⟩
    · exfalso
      apply hall
      intro i hi
      apply Classical.byContradiction
      intro hn
      obtain ⟨y, hy⟩ := ready_some hok hsz i (by omega) hn
      rw [hr] at hy; cases hy
    · obtain ⟨hnl, o, ho, hafter⟩ := (mem_ready' hsz).1 hj
      have hjs := (Array.getElem?_eq_some_iff.1 ho).1
      have hjm : j < m := by
        rcases Nat.lt_or_ge j m with h | h
        · exact h
        · exfalso
          apply hall
          intro i hi
          exact ahead_ready hd hsz hj ((drawOK_spec hok j o ho).2.2 h i (by omega))
      have hdst : gDst ops j = o.dst := by simp [gDst, ho]
      -- behind the operation
      have hnext : ∀ (ps2 : Nat → Nat × Nat) (rv : Value) (w' : World), Boxed σ H K B ps2 (fun k => Ls (listed.setIfInBounds j true) (E k)) w0 w' → (∀ k, k < K → E k ≠ j → Ls listed (E k) → ps2 k = ps k) →
          ((∀ k, k < K → E k = j → MadeG (N k) (ps2 k) rv) ∧ ((∀ k, k < K → E k ≠ j) → Rel σ (val j) rv)) → wpAny P .any ops Q fuel (listed.setIfInBounds j true) (a.put o.dst rv) w' := fun ps2 rv w' hbx' hsame hrv => by
        refine ih (listed.setIfInBounds j true) (a.put o.dst rv) w' ps2 (by simpa using hsz) (hd.set hsz hj) ?_ (fun i hi => ?_) hbx' ?_ (fun x => ⟨fun i hi hli hgi hxl => ?_, fun hno => ?_⟩) fun a2 w2 σ3 r2 d2 s2 f2 => q a2 w2 σ3 r2 (d2.trans (put_defers _ _ _)) s2 f2
        · have := left_set hjs hsz hnl; omega
        · rw [Ls_set (by omega)]; rintro (rfl | h)
          · omega
          · exact hnm i hi h
        · cases o.dst <;> simp [Act.put, hat]
        · rw [Ls_set (by omega)] at hli
          by_cases hij : i = j
          · subst hij
            rw [hdst] at hgi
            rw [hgi]
            simp only [Act.put]
            rw [Array.getD_eq_getD_getElem?, Array.getElem?_setIfInBounds_self_of_lt (by omega)]
            exact hrv
          · have hne : o.dst ≠ some x := by rw [← hdst]; exact hdist i j hi hjm (Ne.symm hij) x hgi
            have : (a.put o.dst rv).tmps.getD x undef = a.tmps.getD x undef := by
              cases hod : o.dst with
              | none => rfl
              | some d =>
                have hdx : d ≠ x := fun e => hne (by rw [hod, e])
                simp [Act.put, Array.getD_eq_getD_getElem?, Array.getElem?_setIfInBounds_ne hdx]
            rw [this]
            have hl := hli.resolve_left hij
            have h0 := (hx x).1 i hi hl hgi hxl
            refine ⟨fun k hk he => ?_, h0.2⟩
            rw [hsame k hk (by rw [he]; exact hij) (by rw [he]; exact hl)]
            exact h0.1 k hk he
        · have hne : o.dst ≠ some x := by rw [← hdst]; exact hno j hjm ((Ls_set (by omega)).2 (.inl rfl))
          have : (a.put o.dst rv).tmps.getD x undef = a.tmps.getD x undef := by
            cases hod : o.dst with
            | none => rfl
            | some d =>
              have hdx : d ≠ x := fun e => hne (by rw [hod, e])
              simp [Act.put, Array.getD_eq_getD_getElem?, Array.getElem?_setIfInBounds_ne hdx]
          rw [this]
          exact (hx x).2 fun i hi hli => hno i hi ((Ls_set (by omega)).2 (.inr hli))
      have hlook : ∀ n ∈ looks ops o, Rel σ (getL (stAt ops val t 0 j) n) (a.tmps.getD n undef) := fun n hn => by
        by_cases hnl' : n < t.length
        · by_cases hex : ∃ i, i < m ∧ gDst ops i = some n
          · obtain ⟨i, hi, hgi⟩ := hex
            have hie : ∀ k, k < K → E k ≠ i := fun k hk h => hlk j hjm o ho n hn k hk (by rw [h]; exact hgi)
            have hah := ((drawOK_spec hok j o ho).2.1 hjm).1 n hn i hi hgi
            have hil := ahead_ready hd hsz hj hah
            have hij : i < j := aheadOf_lt hok 10 j i hah
            rw [stAt_val ops val j 0 t i (by omega) (by omega) hgi hnl' (fun i' _ h2 h3 => hdist i i' hi (by omega) h3 n hgi)]
            exact ((hx n).1 i hi hil hgi hnl').2 hie
          · have hno : ∀ i, i < m → gDst ops i ≠ some n := fun i hi hg => hex ⟨i, hi, hg⟩
            rw [stAt_untouched ops val j 0 t (fun i _ h2 => hno i (by omega))]
            exact (hx n).2 fun i hi _ => hno i (by omega)
        · rw [getL_none (by rw [stAt_length]; omega)]
          have : a.tmps.getD n undef = undef := by
            rw [Array.getD_eq_getD_getElem?, Array.getElem?_eq_none (by omega)]; rfl
          rw [this]; exact .tup .nil
      by_cases hje : ∃ k, k < K ∧ E k = j
      · obtain ⟨k, hk, rfl⟩ := hje
        obtain ⟨o', ho', hbv⟩ := hb k hk
        rw [ho] at ho'; cases ho'
        refine hbv σ w a Q _ hbx.s hlook (by rw [stAt_length]; exact hat) fun rv w' x hrv s' f' => hnext (fun i => if i = k then x else ps i) rv w' (hbx.made s0 hlow (hlive k hk).2 (hlive k hk).1 s' f' _ fun i hiK hi => ?_) (fun i hi hne _ => ?_) ⟨fun i hi he => ?_, fun h => absurd rfl (h k hk)⟩
        · by_cases hik : i = k
          · exact .inl hik
          · refine .inr ⟨hik, ?_⟩
            exact ((Ls_set (by omega)).1 hi).resolve_left fun h => hik (hinj i k hiK hk h)
        · rw [if_neg fun e => hne (by rw [e])]
        · have : i = k := hinj i k hi hk he
          subst this
          rw [if_pos rfl]
          have h1 : (σ ++ [x])[H.length]? = some x := by rw [← s0.len]; simp
          exact madeG_of hrv h1
      · have hne : ∀ k, k < K → E k ≠ j := fun k hk he => hje ⟨k, hk, he⟩
        obtain ⟨o', ho', hq⟩ := hv j hjm hne
        rw [ho] at ho'; cases ho'
        refine hq σ w a Q _ hbx.s hlook (by rw [stAt_length]; exact hat) fun rv w' hrv s' f' => ?_
        exact hnext ps rv w' ((hbx.quiet s0 s' f').weaken fun k hk h => ((Ls_set (by omega)).1 h).resolve_left (hne k hk)) (fun _ _ _ _ => rfl) ⟨fun k hk he => absurd he (hne k hk), fun _ => hrv⟩

/-! ### Their evaluation -/
/-- What a maker makes, and where it stands. -/
structure MkG where
  B : AB
  l : Bool
  n : Option Nat
  e : Nat
instance : Inhabited MkG := ⟨⟨.dead, false, none, 0⟩⟩
def makeG (P : Program) (op : Op) (ρ : Operand → AV) (H : List AB) : Option (AV × List AB × List Bool) :=
  match op with
  | .buildSlice _ _ _ => eop P op ρ H
  | .alloc _ => eop P op ρ H
  | _ => none
theorem makeG_new {op : Op} {ρ : Operand → AV} {H H' : List AB} {v : AV} {nd : List Bool} (h : makeG P op ρ H = some (v, H', nd)) (hnd : allT nd = true) : eop P op ρ H = some (v, H', nd) ∧ H' = H ++ [getB H' H.length] ∧ (getB H' H.length).live = true := by
  unfold makeG at h
  split at h
  · exact ⟨h, build_new h hnd⟩
  · refine ⟨h, ?_⟩
    have e : ∀ (B : AB), getB (H ++ [B]) H.length = B := fun B => by rw [getB_append_right (Nat.le_refl _), Nat.sub_self]; rfl
    unfold eop at h
    dsimp only at h
    split at h <;> cases h
    rw [e]
    exact ⟨rfl, rfl⟩
  · cases h
def mkChk (len : Nat) : AV → Option (Bool × Option Nat)
  | .sl l i off n z => match Nat.beq i len && (Nat.beq off 0 && Nat.beq z 1) with
    | true => some (l, some n)
    | false => none
  | .p l i off => match Nat.beq i len && Nat.beq off 0 with
    | true => some (l, none)
    | false => none
  | _ => none
theorem mkChk_spec {len : Nat} {v : AV} {l : Bool} {n : Option Nat} (h : mkChk len v = some (l, n)) : v = mkV l len n := by
  unfold mkChk at h
  split at h
  · split at h <;> cases h
    rename_i hc
    simp only [Bool.and_eq_true] at hc
    rw [Nat.eq_of_beq_eq_true hc.1, Nat.eq_of_beq_eq_true hc.2.1, Nat.eq_of_beq_eq_true hc.2.2]; rfl
  · split at h <;> cases h
    rename_i hc
    simp only [Bool.and_eq_true] at hc
    rw [Nat.eq_of_beq_eq_true hc.1, Nat.eq_of_beq_eq_true hc.2]; rfl
  · cases h
theorem mkV_below (l : Bool) (i : Nat) (n : Option Nat) : below (i + 1) (mkV l i n) = true := by cases n <;> simp [mkV, below]
def runW6 (P : Program) (T : Table) (mk : Nat → Bool) : Nat → List Oper → List AV → List AB → List MkG → List Bool → (List AV → List MkG → List Bool → Res) → Res
  | _, [], t, _, Bs, nd, K => K t Bs nd
  | k, o :: rest, t, H, Bs, nd, K =>
    match o.guard with
    | some _ => .fail
    | none => match mk k with
      | true => if o.op.operands.all okOpd then
          match o.op with
          | .call c => match aCall c (evA t) with
            | some (g, args) => match P.funcs[g]? with
              | some fn => match fn.body with
                | some _ => match fn.name == "runtime.NumGoroutine" with
                  | true => .fail
                  | false => T g args (roH H) nd fun v H' nd' => match mkChk H.length v with
                    | some (l, n) => match (Nat.blt H.length H'.length && lowB (H.length + 1) (getB H' H.length)) && (lowB H.length (getB H' H.length) && (getB H' H.length).live) with
                      | true => runW6 P T mk (k + 1) rest (putT t o.dst (mkV l (H.length + Bs.length) n)) H (Bs ++ [⟨getB H' H.length, l, n, k⟩]) nd' K
                      | false => .fail
                    | none => .fail
                | none => .fail
              | none => .fail
            | none => .fail
          | op => match makeG P op (evA t) H with
            | some (v, H', nd') => match mkChk H.length v with
              | some (l, n) => match lowB H.length (getB H' H.length) with
                | true => runW6 P T mk (k + 1) rest (putT t o.dst (mkV l (H.length + Bs.length) n)) H (Bs ++ [⟨getB H' H.length, l, n, k⟩]) (nd' ++ nd) K
                | false => .fail
              | none => .fail
            | none => .fail
        else .fail
      | false => stepQ P T o t H nd fun t nd => runW6 P T mk (k + 1) rest t H Bs nd K
theorem runW6_sound {H : List AB} {mk : Nat → Bool} (hT : SoundT P T) (K : List AV → List MkG → List Bool → Res) {m : Nat} (hm : m ≤ ops.size) : ∀ (l : List Oper) (k : Nat) (t : List AV) (Bs : List MkG) (nd : List Bool), l = (ops.toList.take m).drop k → k ≤ m → (runW6 P T mk k l t H Bs nd K).sel = .fail ∨
    ∃ t' Bs' nd', (runW6 P T mk k l t H Bs nd K).sel = (K t' Bs' nd').sel ∧ (allT nd' = true → allT nd = true ∧ (∀ j, j < Bs.length → Bs'[j]? = Bs[j]?) ∧ Bs.length ≤ Bs'.length ∧ ∃ val : Nat → AV, t' = stAt ops val t k (m - k) ∧
      (∀ i, k ≤ i → i < m → mk i = false → QVal P ops i (stAt ops val t k (i - k)) H (val i)) ∧
      (∀ j x, Bs.length ≤ j → Bs'[j]? = some x → k ≤ x.e ∧ x.e < m ∧ mk x.e = true ∧ val x.e = mkV x.l (H.length + j) x.n ∧ BVal2 P ops x.e (stAt ops val t k (x.e - k)) H (mkV x.l H.length x.n) x.B ∧ x.B.live = true ∧ lowB H.length x.B = true) ∧
      (∀ i, k ≤ i → i < m → mk i = true → ∃ j x, Bs.length ≤ j ∧ Bs'[j]? = some x ∧ x.e = i) ∧
      (∀ j j' x x', Bs.length ≤ j → j < j' → Bs'[j]? = some x → Bs'[j']? = some x' → x.e < x'.e))
  | [], k, t, Bs, nd, hl, hk => by
    have : m ≤ k := by
      have := congrArg List.length hl
      simp at this; omega
    have : k = m := by omega
    subst this
    refine .inr ⟨t, Bs, nd, rfl, fun h => ⟨h, fun _ _ => rfl, Nat.le_refl _, fun _ => .any, by rw [Nat.sub_self]; rfl, fun i h1 h2 => by omega, fun j x h1 h2 => ?_, fun i h1 h2 => by omega, fun j j' x x' h1 h2 h3 => ?_⟩⟩
    · rw [List.getElem?_eq_none h1] at h2; cases h2
    · rw [List.getElem?_eq_none h1] at h3; cases h3
  | o :: rest, k, t, Bs, nd, hl, hk => by
    obtain ⟨ho, hrest⟩ := drop_cons hl
    have hks : k < m := by
      rcases Nat.lt_or_ge k m with h' | h'
      · exact h'
      · rw [List.getElem?_eq_none (by simp; omega)] at ho; cases ho
    have ho' : ops[k]? = some o := by
      rw [List.getElem?_take_of_lt hks] at ho; simpa using ho
    have hgd : gDst ops k = o.dst := by simp [gDst, ho']
    have hcongr : ∀ (val : Nat → AV) (v : AV) (k n k' : Nat) (t : List AV), k < k' → stAt ops (fun i => if i = k then v else val i) t k' n = stAt ops val t k' n := by
      intro val v k n
      induction n with
      | zero => intros; rfl
      | succ n ihn => intro k' t hk; simp only [stAt]; rw [if_neg (by omega)]; exact ihn _ _ (by omega)
    have hst : ∀ (v1 : AV) (val : Nat → AV) i, k < i → stAt ops (fun i => if i = k then v1 else val i) t k (i - k) = stAt ops val (putT t o.dst v1) (k + 1) (i - (k + 1)) := fun v1 val i hi => by
      rw [show i - k = (i - (k + 1)) + 1 by omega]
      simp only [stAt, if_true, hgd]
      exact hcongr _ _ _ _ _ _ (by omega)
    have hw : ∀ (hg : o.guard = none) (Q : Exit → Act → World → Prop) (next : Act → World → Prop) (a : Act) (w : World), (o.wp P a w next Q → wpOp P ops Q k next a w) := fun hg Q next a w h => by
      simp only [wpOp, ho']
      rw [if_pos (by simp [Region.wanted, hg])]
      exact .inl h
    unfold runW6
    cases hg : o.guard with
    | some g => exact .inl rfl
    | none =>
      dsimp only
      cases hmk : mk k with
      | true =>
        dsimp only
        split
        case isFalse => exact .inl rfl
        rename_i hok
        have fin : ∀ (l : Bool) (n : Option Nat) (B : AB) (nd1 : List Bool), (allT nd1 = true → allT nd = true ∧ BVal2 P ops k t H (mkV l H.length n) B ∧ B.live = true) → lowB H.length B = true →
            (runW6 P T mk (k + 1) rest (putT t o.dst (mkV l (H.length + Bs.length) n)) H (Bs ++ [⟨B, l, n, k⟩]) nd1 K).sel = .fail ∨
            ∃ t' Bs' nd', (runW6 P T mk (k + 1) rest (putT t o.dst (mkV l (H.length + Bs.length) n)) H (Bs ++ [⟨B, l, n, k⟩]) nd1 K).sel = (K t' Bs' nd').sel ∧ (allT nd' = true → allT nd = true ∧ (∀ j, j < Bs.length → Bs'[j]? = Bs[j]?) ∧ Bs.length ≤ Bs'.length ∧ ∃ val : Nat → AV, t' = stAt ops val t k (m - k) ∧
              (∀ i, k ≤ i → i < m → mk i = false → QVal P ops i (stAt ops val t k (i - k)) H (val i)) ∧
              (∀ j x, Bs.length ≤ j → Bs'[j]? = some x → k ≤ x.e ∧ x.e < m ∧ mk x.e = true ∧ val x.e = mkV x.l (H.length + j) x.n ∧ BVal2 P ops x.e (stAt ops val t k (x.e - k)) H (mkV x.l H.length x.n) x.B ∧ x.B.live = true ∧ lowB H.length x.B = true) ∧
              (∀ i, k ≤ i → i < m → mk i = true → ∃ j x, Bs.length ≤ j ∧ Bs'[j]? = some x ∧ x.e = i) ∧
              (∀ j j' x x', Bs.length ≤ j → j < j' → Bs'[j]? = some x → Bs'[j']? = some x' → x.e < x'.e)) := fun l n B nd1 hbv q4 => by
          rcases runW6_sound hT K hm rest (k + 1) (putT t o.dst (mkV l (H.length + Bs.length) n)) (Bs ++ [⟨B, l, n, k⟩]) nd1 hrest hks with h4 | ⟨t', Bs', nd', h4, h5⟩
          · exact .inl h4
          refine .inr ⟨t', Bs', nd', h4, fun hn => ?_⟩
          obtain ⟨h6, p1, p2, val, g1, g2, g3, g4, g5⟩ := h5 hn
          obtain ⟨h7, hB, hlv⟩ := hbv h6
          have hnew : Bs'[Bs.length]? = some ⟨B, l, n, k⟩ := by
            rw [p1 Bs.length (by simp)]
            simp
          have hlen : Bs.length + 1 ≤ Bs'.length := by simpa using p2
          refine ⟨h7, fun j hj => by rw [p1 j (by simp; omega), List.getElem?_append_left hj], by omega, fun i => if i = k then mkV l (H.length + Bs.length) n else val i, ?_, fun i a b hi => ?_, fun j x a hx => ?_, fun i a b hi => ?_, fun j j' x x' a b hx hx' => ?_⟩
          · rw [hst _ _ m hks]; exact g1
          · have hik : i ≠ k := fun h => by rw [h, hmk] at hi; cases hi
            rw [hst _ _ i (by omega)]
            simp only [hik, if_false]
            exact g2 i (by omega) b hi
          · rcases Nat.eq_or_lt_of_le a with rfl | a
            · rw [hnew] at hx
              cases hx
              refine ⟨Nat.le_refl _, hks, hmk, by simp, ?_, hlv, q4⟩
              dsimp only
              rw [Nat.sub_self]
              exact hB
            · obtain ⟨r1, r2, r3, r4, r5, r6, r7⟩ := g3 j x (by simp; omega) hx
              have hne : x.e ≠ k := by omega
              refine ⟨by omega, r2, r3, by simp only [hne, if_false]; exact r4, ?_, r6, r7⟩
              rw [hst _ _ x.e (by omega)]
              exact r5
          · rcases Nat.eq_or_lt_of_le a with rfl | a
            · exact ⟨Bs.length, _, Nat.le_refl _, hnew, rfl⟩
            · obtain ⟨j, x, j1, j2, j3⟩ := g4 i (by omega) b hi
              exact ⟨j, x, by simp at j1; omega, j2, j3⟩
          · rcases Nat.eq_or_lt_of_le a with rfl | a
            · rw [hnew] at hx
              cases hx
              have := (g3 j' x' (by simp; omega) hx').1
              dsimp only
              omega
            · exact g5 j j' x x' (by simp; omega) b hx hx'
        split
        · rename_i c hop
          cases hcall : aCall c (evA t) with
          | none => exact .inl rfl
          | some x =>
            obtain ⟨g, args⟩ := x
            dsimp only
            cases hfn : P.funcs[g]? with
            | none => exact .inl rfl
            | some fn =>
              dsimp only
              cases hb : fn.body with
              | none => exact .inl rfl
              | some body =>
                dsimp only
                cases hname : (fn.name == "runtime.NumGoroutine") with
                | true => exact .inl rfl
                | false =>
                  dsimp only
                  rcases hT g args (roH H) nd (fun v H' nd' => match mkChk H.length v with
                    | some (l, n) => match (Nat.blt H.length H'.length && lowB (H.length + 1) (getB H' H.length)) && (lowB H.length (getB H' H.length) && (getB H' H.length).live) with
                      | true => runW6 P T mk (k + 1) rest (putT t o.dst (mkV l (H.length + Bs.length) n)) H (Bs ++ [⟨getB H' H.length, l, n, k⟩]) nd' K
                      | false => .fail
                    | none => .fail) with h | ⟨v, H1, nd1, h1, h2⟩
                  · exact .inl h
                  rw [h1]
                  cases hc3 : mkChk H.length v with
                  | none => exact .inl rfl
                  | some ln =>
                    obtain ⟨l, n⟩ := ln
                    have hv := mkChk_spec hc3
                    subst hv
                    dsimp only
                    cases hc4 : (Nat.blt H.length H1.length && lowB (H.length + 1) (getB H1 H.length)) && (lowB H.length (getB H1 H.length) && (getB H1 H.length).live) with
                    | false => exact .inl rfl
                    | true =>
                      simp only [Bool.and_eq_true] at hc4
                      obtain ⟨⟨hlt, hlow1⟩, hlow, hlv⟩ := hc4
                      refine fin l n (getB H1 H.length) nd1 (fun hn1 => ?_) hlow
                      obtain ⟨h8, h9⟩ := h2 hn1
                      refine ⟨h8, ⟨o, ho', fun σ w a Q next s r _ q => hw hg Q next a w ?_⟩, hlv⟩
                      have hopd := opds_looks hok fun n hn => r n hn
                      obtain ⟨rargs, hra, hrun⟩ := call_run (w := w) (P := P) hop hcall hopd
                      show o.upon P a next Q ((execOp a.eval o).run P w)
                      rw [hrun, callFunc_enter hfn hb hname]
                      refine (h9 σ w rargs s.ro hra).mono ?_
                      rintro e w' ⟨rv, rfl, σ', e2, e3, e4⟩
                      obtain ⟨x, x1, x2, x3⟩ := s.made e3 e4 (blt_true hlt) hlow1
                      exact q _ _ x (below_rel x1 (by simp [s.len]) (mkV_below l H.length n) e2) x2 x3
        · split
          case h_2 => exact .inl rfl
          rename_i v H1 n1 hmake
          cases hc3 : mkChk H.length v with
          | none => exact .inl rfl
          | some ln =>
            obtain ⟨l, n⟩ := ln
            have hv := mkChk_spec hc3
            subst hv
            dsimp only
            cases hc4 : lowB H.length (getB H1 H.length) with
            | false => exact .inl rfl
            | true =>
              refine fin l n (getB H1 H.length) (n1 ++ nd) (fun hn1 => ?_) hc4
              rw [allT_append, Bool.and_eq_true] at hn1
              obtain ⟨he, hH1, hlv⟩ := makeG_new hmake hn1.1
              refine ⟨hn1.2, ⟨o, ho', fun σ w a Q next s r _ q => hw hg Q next a w ?_⟩, hlv⟩
              have hopd := opds_looks hok fun n hn => r n hn
              obtain ⟨rv, w', hrun, σ', e2, e3, e4⟩ := eop_out (w := w) (σ := σ) (H := H) (ρ := a.eval) he hn1.1 s hopd
              have hl : σ'.length = σ.length + 1 := by rw [e3.len, hH1, s.len]; simp
              obtain ⟨x, hx⟩ := ext_snoc e4.ext hl
              subst hx
              rw [hH1] at e3 e4
              have e3' : Sim (σ ++ [x]) (H ++ [getB H1 H.length]) w' := by rw [hH1] at e3 ⊢; simpa using e3
              have e4' : Fr σ H w (σ ++ [x]) (H ++ [getB H1 H.length]) w' := by rw [hH1] at e4 ⊢; simpa using e4
              show o.upon P a next Q ((execOp a.eval o).run P w)
              rcases hrun with hrun | ⟨hrun, rfl⟩
              · rw [hrun]
                exact q _ _ x e2 e3' e4'
              · cases n with
                | some n => rcases sl_cases e2 with ⟨_, g2, _⟩ | ⟨_, _, _, _, _, _, g4⟩
                            · cases g2
                            · cases g4
                | none => cases e2
      | false =>
        dsimp only
        rcases stepQ_sound (H := H) hT o t nd (fun t nd => runW6 P T mk (k + 1) rest t H Bs nd K) with h2 | ⟨v1, nd2, h2, h3⟩
        · exact .inl h2
        rw [h2]
        rcases runW6_sound hT K hm rest (k + 1) (putT t o.dst v1) Bs nd2 hrest hks with h4 | ⟨t', Bs', nd', h4, h5⟩
        · exact .inl h4
        refine .inr ⟨t', Bs', nd', h4, fun hn => ?_⟩
        obtain ⟨h6, p1, p2, val, g1, g2, g3, g4, g5⟩ := h5 hn
        obtain ⟨h8, hok, h9⟩ := h3 h6
        refine ⟨h8, p1, p2, fun i => if i = k then v1 else val i, ?_, fun i a b hi => ?_, fun j x a hx => ?_, fun i a b hi => ?_, g5⟩
        · rw [hst _ _ m hks]; exact g1
        · rcases Nat.eq_or_lt_of_le a with rfl | a
          · simp only [Nat.sub_self, if_true]
            exact ⟨o, ho', fun σ w a Q next s r _ q => hw hg Q next a w (h9 σ w a Q next s (opds_looks hok fun n hn => r n hn) q)⟩
          · rw [hst _ _ i a]
            have hik : i ≠ k := by omega
            simp only [hik, if_false]
            exact g2 i a b hi
        · obtain ⟨r1, r2, r3, r4, r5, r6, r7⟩ := g3 j x a hx
          have hne : x.e ≠ k := by omega
          refine ⟨by omega, r2, r3, by simp only [hne, if_false]; exact r4, ?_, r6, r7⟩
          rw [hst _ _ x.e (by omega)]
          exact r5
        · have hik : i ≠ k := fun h => by rw [h, hmk] at hi; cases hi
          exact g4 i (by omega) b hi
/-- No operation ahead of the tail looks at what a maker makes. -/
def boxes6OK (ops : Array Oper) (m : Nat) (mk : Nat → Bool) : Bool := (List.range m).all fun i => match ops[i]? with
  | some o => (looks ops o).all fun n => (List.range m).all fun e => !(mk e && gDst ops e == some n)
  | none => false
/-- A region in which several lists are made. -/
theorem boxes6_reach (hT : SoundT P T) (hf : P.follows .mixedOrders = true) (m : Nat) (mk : Nat → Bool) (hm : m ≤ ops.size) (hok : drawOK ops m = true) (hbx : boxes6OK ops m mk = true) {id : Nat} {k : List Item} {t t' : List AV} {H H' : List AB} {nd : List Bool}
    (hlow : lowH H.length H = true)
    (h : (runW6 P T mk 0 (ops.toList.take m) t H [] [] fun t Bs nd => runOps P T ops (ops.toList.drop m) t (H ++ Bs.map (·.B)) nd fun t H nd => .stop [] t H nd).sel = .stop [] t' H' nd) (hn : allT nd = true) : Reach P (.code (.region id ops true) :: k) t H k t' H' := by
  rcases runW6_sound (H := H) (mk := mk) (ops := ops) hT (fun t Bs nd => runOps P T ops (ops.toList.drop m) t (H ++ Bs.map (·.B)) nd fun t H nd => .stop [] t H nd) hm (ops.toList.take m) 0 t [] [] (by simp) (Nat.zero_le _) with h1 | ⟨t1, Bs, nd1, h1, h2⟩
  · rw [h] at h1; cases h1
  rw [h1] at h
  rcases runOps_sound (ops := ops) hT (fun t H nd => .stop [] t H nd) (ops.toList.drop m) m t1 (H ++ Bs.map (·.B)) nd1 rfl hm with h3 | ⟨t2, H2, nd2, h3, h4⟩
  · rw [h] at h3; cases h3
  rw [h] at h3
  cases h3
  obtain ⟨h5, ch⟩ := h4 hn
  obtain ⟨_, _, _, val, e2, g2, g3, g4, g5⟩ := h2 h5
  rw [Nat.sub_zero] at e2
  rw [e2] at ch
  have hget : ∀ k, k < Bs.length → Bs[k]? = some (Bs.getD k default) := fun k hk => by simp [List.getD_eq_getElem?_getD, hk]
  have hmap : Bs.map (·.B) = (List.range Bs.length).map fun k => (Bs.getD k default).B := by
    apply List.ext_getElem?
    intro i
    rcases Nat.lt_or_ge i Bs.length with h' | h'
    · simp [h', List.getD_eq_getElem?_getD]
    · rw [List.getElem?_eq_none (by simpa using h'), List.getElem?_eq_none (by simpa using h')]
  rw [hmap] at ch
  have hall := fun i (hi : i < m) => List.all_eq_true.1 hbx i (List.mem_range.2 hi)
  refine region_reach fun σ w a Q s r q => wp_region_any hf ?_
  have hnl : ∀ i, ¬ Ls (Array.replicate ops.size false) i := fun i => by
    unfold Ls
    rw [Array.getD_eq_getD_getElem?]
    by_cases hi : i < ops.size
    · simp [hi]
    · simp [hi]
  have hsm : Same w { w with drawn := w.drawn + 1 } := Same.drew w
  have sw := hsm.sim s
  refine any_boxes6 (K := Bs.length) (E := fun k => (Bs.getD k default).e) (B := fun k => (Bs.getD k default).B) (Lb := fun k => (Bs.getD k default).l) (N := fun k => (Bs.getD k default).n) (val := val) hok hm (fun k hk => (g3 k _ (Nat.zero_le _) (hget k hk)).2.1) (fun k k' hk hk' he => ?_) (fun i hi hne => ?_) (fun k hk => ?_) (fun k hk => (g3 k _ (Nat.zero_le _) (hget k hk)).2.2.2.1) (fun i hi o ho n hn' k hk => ?_) hlow (fun k hk => (g3 k _ (Nat.zero_le _) (hget k hk)).2.2.2.2.2) ch sw ops.size _ a _ (fun _ => (0, 0)) (by simp) (fun i o _ hl => absurd hl (hnl i)) ?_ (fun i _ => hnl i)
    ⟨sw, Fr.refl _ _ _, fun k _ h => absurd h (hnl _), fun k _ h => absurd h (hnl _), fun k _ h => absurd h (hnl _), fun k k' _ _ h => absurd h (hnl _)⟩ ?_ (fun x => ⟨fun i _ hl => absurd hl (hnl i), fun _ => r.getD x⟩) fun a' w' σ' r' d' s' f' => q a' w' σ' r' d' s' (hsm.fr.trans f')
  · rcases Nat.lt_trichotomy k k' with hlt | hlt | hlt
    · have := g5 k k' _ _ (Nat.zero_le _) hlt (hget k hk) (hget k' hk')
      omega
    · exact hlt
    · have := g5 k' k _ _ (Nat.zero_le _) hlt (hget k' hk') (hget k hk)
      omega
  · have hmi : mk i = false := by
      cases hmi : mk i with
      | false => rfl
      | true =>
        obtain ⟨j, x, _, j2, j3⟩ := g4 i (Nat.zero_le _) hi hmi
        have hj : j < Bs.length := by
          rcases Nat.lt_or_ge j Bs.length with h' | h'
          · exact h'
          · rw [List.getElem?_eq_none h'] at j2; cases j2
        rw [hget j hj] at j2
        cases j2
        exact absurd j3 (hne j hj)
    have := g2 i (Nat.zero_le _) hi hmi
    rwa [Nat.sub_zero] at this
  · have := (g3 k _ (Nat.zero_le _) (hget k hk)).2.2.2.2.1
    rwa [Nat.sub_zero] at this
  · have hi' := hall i hi
    rw [ho] at hi'
    obtain ⟨_, r2, r3, _⟩ := g3 k _ (Nat.zero_le _) (hget k hk)
    have h1 := List.all_eq_true.1 (List.all_eq_true.1 hi' n hn') _ (List.mem_range.2 r2)
    intro h
    rw [h, r3] at h1
    simp at h1
  · have := List.length_filter_le (fun i => !(Array.replicate ops.size false).getD i false) (List.range ops.size)
    simp only [List.length_range] at this
    exact this
  · have := r.length; simpa using this.symm
end
end Go.Ax

/- spec.l01Read: its beginning, and the region that makes the words and the wave. -/
namespace Go.Ax
open Go Go.Proofs

theorem boxes6_way {P : Program} {T : Table} {ops : Array Oper} (hT : SoundT P T) (hf : P.follows .mixedOrders = true) (m : Nat) (mk : Nat → Bool) (hm : m ≤ ops.size) (hok : drawOK ops m = true) (hbx : boxes6OK ops m mk = true) {id : Nat} {k : List Item} {t t' : List AV} {H H' : List AB} {M nd : List Bool} (hlow : lowH H.length H = true)
    (h : lfM M (runW6 P T mk 0 (ops.toList.take m) t H [] [] fun t Bs nd => runOps P T ops (ops.toList.drop m) t (H ++ Bs.map (·.B)) nd fun t H nd => .stop [] t H nd) = (true, [], t'.map AV.bare, H', nd)) (hn : allT nd = true) : Reach P (.code (.region id ops true) :: k) t H k t' H' := by
  simp only [lfM, Prod.mk.injEq] at h
  obtain ⟨a1, a2, a3, a4, a5⟩ := h
  have hs := Res.isStop_eq a1
  have hr := boxes6_reach (k := k) (id := id) hT hf m mk hm hok hbx (t := t) (H := H) (t' := _) (H' := _) (nd := _) hlow (by conv => { lhs; rw [hs] }; rw [a2]; rfl) (by rw [a5]; exact hn)
  rw [a4] at hr
  exact (hr.weak (blur_eqv M _)).weak (eqv_of_bare a3)

noncomputable def tabRd : Table := tabOf (jdeep Tryd.prog [(29, splT), (31, pureT gNum), (33, pureT gCpx)] [] 3000 8)
theorem tabRd_sound : SoundT Tryd.prog tabRd := jdeep_sound (fun p hp => by
  simp only [List.mem_cons, List.not_mem_nil, or_false] at hp
  rcases hp with rfl | rfl | rfl
  · exact spl_at
  · exact num_at
  · exact cpx_at) 8
noncomputable def rdC : Code := Tryd.f12.body.getD .skip
noncomputable def rd0 (x : List UInt8) : Res := cupto Tryd.prog tabRd (atReg 4) 100 [.code rdC] (.s false x :: undefs 70) []
noncomputable def rdL : List Item := ((rd0 []).at [false, false, false]).todo
def zeroW : AB := .cells true (.lit (.i true .i64 0 :: List.replicate 64 (.c true .f32 0 0)))
def zeroV : AV := .agg (.i true .i64 0 :: List.replicate 64 (.c true .f32 0 0))
def rdT (k : Nat) : List AV := tmpsOf 71 [(2, .p true 0 0), (4, .sl false 1 0 k 1)]
def rdM : List Bool := maskOf 71 [(2, .any), (4, .any)]
def rdT2 (l : Bool) (k : Nat) : List AV := tmpsOf 71 [(2, .p true 0 0), (5, .p true 3 0), (6, .sl l 2 0 k 1)]
def rdM2 : List Bool := maskOf 71 [(2, .any), (5, .any), (6, .any)]
def rdH (ps : List (List UInt8)) : List AB := [zeroW, .cells true (.strs ps)]
def rdH2 (ps ws : List (List UInt8)) (n : Int) : List AB := [zeroW, .cells true (.strs ps), .cells true (.strs ws), .cells true (.lit (.i false .i64 n :: List.replicate 64 (.c true .f32 0 0)))]
def rdH3 (ps ws : List (List UInt8)) (n : Int) : List AB := [zeroW, .cells true (.strs ps), .cells true (.strs ws), .cells true (.lit (.i true .i64 n :: List.replicate 64 (.c true .f32 0 0)))]
def s58 (x : List UInt8) : List (List UInt8) := spl (UInt8.ofNat (Int.toNat 58)) x
def pI (ps : List (List UInt8)) (i : Int) : List UInt8 := ps.getD (0 + Int.toNat i * 1) []
def sideQ (n : Int) : Bool := bif eqQ false n 1 then true else bif eqQ false n 2 then true else bif eqQ false n 4 then true else eqQ false n 8
def lnQ (x : List UInt8) (b : Int) : Bool := decide (x.length ≤ 1048576) && (decide ((0 : Int) ≤ b) && decide (b < 256))
def i0Q (ps : List (List UInt8)) (i : Int) : List Bool := [decide (0 + Int.toNat i * 1 < (Cells.strs ps).len), decide (0 ≤ i) && decide (i < (ps.length : Int))]
theorem rd0_b1 (x : List UInt8) : (condsP (rd0 x) [true], leafE Tryd.prog Tryd.f12.results.toList 0 [1, 0] ((rd0 x).at [true])) = ([!eqQ false (s58 x).length 2], some (.tup [zeroV, .b true false], [], allT [lnQ x 58])) := by kernel_rfl
theorem rd0_b2 (x : List UInt8) : (condsP (rd0 x) [false, true], leafE Tryd.prog Tryd.f12.results.toList 0 [1, 0] ((rd0 x).at [false, true])) = ([!!eqQ false (s58 x).length 2, !eqQ false (pI (s58 x) 0).length 1], some (.tup [zeroV, .b true false], [], allT (i0Q (s58 x) 0 ++ [lnQ x 58]))) := by kernel_rfl
theorem rd0_b3 (x : List UInt8) : (condsP (rd0 x) [false, false, true], leafE Tryd.prog Tryd.f12.results.toList 0 [1, 0] ((rd0 x).at [false, false, true])) = ([!!eqQ false (s58 x).length 2, !!eqQ false (pI (s58 x) 0).length 1, !sideQ (nmV ((pI (s58 x) 0).getD 0 0))],
    some (.tup [zeroV, .b true false], [], allT (decide ((pI (s58 x) 0).length = 1) :: (i0Q (s58 x) 0 ++ (i0Q (s58 x) 0 ++ [lnQ x 58]))))) := by kernel_rfl
theorem rd0_go (x : List UInt8) : (condsP (rd0 x) [false, false, false], lfM rdM ((rd0 x).at [false, false, false])) = ([!!eqQ false (s58 x).length 2, !!eqQ false (pI (s58 x) 0).length 1, !!sideQ (nmV ((pI (s58 x) 0).getD 0 0))],
    (true, rdL, (rdT (s58 x).length).map AV.bare, rdH (s58 x), decide ((pI (s58 x) 0).length = 1) :: (i0Q (s58 x) 0 ++ (i0Q (s58 x) 0 ++ [lnQ x 58])))) := by kernel_rfl

/-! ### The words and the wave -/
def rdK (i : Nat) : Bool := Nat.beq i 8 || Nat.beq i 9
noncomputable def rd1 (ps : List (List UInt8)) : Res := runW6 Tryd.prog tabRd rdK 0 ((opsOf rdL).toList.take 10) (rdT ps.length) (rdH ps) [] [] fun t Bs nd => runOps Tryd.prog tabRd (opsOf rdL) ((opsOf rdL).toList.drop 10) t (rdH ps ++ Bs.map (·.B)) nd fun t H nd => .stop [] t H nd
def w32 (ps : List (List UInt8)) : List (List UInt8) := spl (UInt8.ofNat (Int.toNat 32)) (pI ps 1)
theorem rd1_ok (ps : List (List UInt8)) : lfM rdM2 (rd1 ps) = (true, [], (rdT2 false (w32 ps).length).map AV.bare, rdH2 ps (w32 ps) (nmV ((pI ps 0).getD 0 0)), lnQ (pI ps 1) 32 :: (i0Q ps 1 ++ (decide ((pI ps 0).length = 1) :: i0Q ps 0))) := by kernel_rfl
theorem rd_reg : (Nat.ble 10 (opsOf rdL).size && (drawOK (opsOf rdL) 10 && boxes6OK (opsOf rdL) 10 rdK)) = true := by kernel_rfl
theorem rdL_eq : rdL = .code (.region 4 (opsOf rdL) true) :: tlOf rdL := by kernel_rfl
theorem rd_reach (x : List UInt8) (h1 : (s58 x).length = 2) (h2 : (pI (s58 x) 0).length = 1) (h3 : sideQ (nmV ((pI (s58 x) 0).getD 0 0)) = true) (hx : x.length ≤ 1048576) (hp : (pI (s58 x) 1).length ≤ 1048576) :
    Reach Tryd.prog [.code rdC] (.s false x :: undefs 70) [] (tlOf rdL) (rdT2 false (w32 (s58 x)).length) (rdH2 (s58 x) (w32 (s58 x)) (nmV ((pI (s58 x) 0).getD 0 0))) := by
  have h := rd0_go x
  simp only [Prod.mk.injEq] at h
  have hq : ∀ i : Int, i = 0 ∨ i = 1 → allT (i0Q (s58 x) i) = true := fun i hi => by
    rcases hi with rfl | rfl <;> simp [i0Q, allT, Cells.len, h1]
  have r1 := cway_reach (P := Tryd.prog) (T := tabRd) (stop := atReg 4) (n := 100) (L := [.code rdC]) (p := [false, false, false]) (M := rdM) (t0 := .s false x :: undefs 70) (H0 := []) tabRd_sound (by
    show allT (condsP (rd0 x) [false, false, false]) = true
    rw [h.1, eqQ_len2, h1, h3, h2]; rfl) h.2 (by
    rw [allT, allT_append, allT_append, hq 0 (.inl rfl)]
    simp [allT, h2, lnQ, hx])
  rw [rdL_eq] at r1
  have hreg := rd_reg
  rw [Bool.and_eq_true, Bool.and_eq_true] at hreg
  refine r1.trans (boxes6_way (P := Tryd.prog) (T := tabRd) (ops := opsOf rdL) tabRd_sound (by kernel_rfl) 10 rdK (Nat.le_of_ble_eq_true hreg.1) hreg.2.1 hreg.2.2 (M := rdM2) (by rfl) (rd1_ok (s58 x)) ?_)
  rw [allT, allT_append, hq 1 (.inr rfl), allT, hq 0 (.inl rfl)]
  simp [h2, lnQ, hp]
end Go.Ax

/- spec.l01Read: its contract. -/
namespace Go.Ax
open Go Go.Proofs

noncomputable def rdB (n : Int) (ps ws : List (List UInt8)) : Res := cupto Tryd.prog tabRd (fun _ => false) 3000 (tlOf rdL) (rdT2 false ws.length) (rdH3 ps ws n)
noncomputable def rdG (n : Int) (N : Nat) (ps ws : List (List UInt8)) : Res := cupto Tryd.prog tabRd (fun _ => false) 3000 (tlOf rdL) (rdT2 true N) (rdH3 ps ws n)
def wdQ (ws : List (List UInt8)) (j : Nat) : List Bool := [decide ((ws.getD j []).length ≤ 1048576), decide (j < (Cells.strs ws).len)]
def rdNs : List (Nat × Int) := [(1, 1), (4, 2), (16, 4), (64, 8)]
noncomputable def gdV (n : Int) (N : Nat) (ws : List (List UInt8)) : AV := .agg (.i true .i64 n :: ((List.range N).map (fun j => .c false .f32 (cpX (ws.getD j [])) (cpY (ws.getD j []))) ++ List.replicate (64 - N) (.c true .f32 0 0)))
theorem rdB_ok (N : Nat) (n : Int) (hn : (N, n) ∈ rdNs) (ps ws : List (List UInt8)) : (condsP (rdB n ps ws) [true], leafE Tryd.prog Tryd.f12.results.toList 0 [3, 2, 1, 0] ((rdB n ps ws).at [true])) = ([!eqQ false ws.length N], some (.tup [zeroV, .b true false], [], true)) := by
  simp only [rdNs, List.mem_cons, Prod.mk.injEq, List.not_mem_nil, or_false] at hn
  rcases hn with ⟨rfl, rfl⟩ | ⟨rfl, rfl⟩ | ⟨rfl, rfl⟩ | ⟨rfl, rfl⟩ <;> kernel_rfl
theorem rdG_ok (N : Nat) (n : Int) (hn : (N, n) ∈ rdNs) (ps ws : List (List UInt8)) : (condsP (rdG n N ps ws) (List.replicate N false), leafE Tryd.prog Tryd.f12.results.toList 0 [3, 2, 1, 0] ((rdG n N ps ws).at (List.replicate N false))) =
    ((List.range N).map (fun j => !!cpB (ws.getD j [])), some (.tup [gdV n N ws, .b true true], [], allT ((List.range N).reverse.flatMap (wdQ ws)))) := by
  simp only [rdNs, List.mem_cons, Prod.mk.injEq, List.not_mem_nil, or_false] at hn
  rcases hn with ⟨rfl, rfl⟩ | ⟨rfl, rfl⟩ | ⟨rfl, rfl⟩ | ⟨rfl, rfl⟩ <;> kernel_rfl
theorem rdG_bad (N : Nat) (n : Int) (hn : (N, n) ∈ rdNs) (ps ws : List (List UInt8)) : ((List.range N).map fun k => (condsP (rdG n N ps ws) (List.replicate k false ++ [true]), leafE Tryd.prog Tryd.f12.results.toList 0 [3, 2, 1, 0] ((rdG n N ps ws).at (List.replicate k false ++ [true])))) =
    (List.range N).map fun k => ((List.range k).map (fun j => !!cpB (ws.getD j [])) ++ [!cpB (ws.getD k [])], some (.tup [zeroV, .b true false], [], allT ((List.range (k + 1)).reverse.flatMap (wdQ ws)))) := by
  simp only [rdNs, List.mem_cons, Prod.mk.injEq, List.not_mem_nil, or_false] at hn
  rcases hn with ⟨rfl, rfl⟩ | ⟨rfl, rfl⟩ | ⟨rfl, rfl⟩ | ⟨rfl, rfl⟩ <;> kernel_rfl
end Go.Ax

/- spec.l01Read: its contract. -/
namespace Go.Ax
open Go Go.Proofs

/-- The parts of a text are no longer than it. -/
theorem spl_part (b : UInt8) : ∀ x, ∀ p ∈ spl b x, p.length ≤ x.length
  | [], p, hp => by simp [spl] at hp; simp [hp]
  | c :: cs, p, hp => by
    have ih := spl_part b cs
    unfold spl at hp
    cases hc : c == b with
    | true =>
      rw [hc] at hp
      simp only [cond_true, List.mem_cons] at hp
      rcases hp with rfl | hp
      · simp
      · have := ih p hp; simp; omega
    | false =>
      rw [hc] at hp
      simp only [cond_false] at hp
      cases hs : spl b cs with
      | nil => exact absurd hs (spl_ne b cs)
      | cons h t =>
        rw [hs] at hp ih
        simp only [List.mem_cons] at hp
        rcases hp with rfl | hp
        · have := ih h (by simp); simp; omega
        · have := ih p (by simp [hp]); simp; omega
theorem getD_len {l : List (List UInt8)} {m : Nat} (h : ∀ p ∈ l, p.length ≤ m) (i : Nat) : (l.getD i []).length ≤ m := by
  rw [List.getD_eq_getElem?_getD]
  cases hi : l[i]? with
  | none => simp
  | some p =>
    simp only [Option.getD_some]
    exact h p (List.mem_of_getElem? hi)

/-! ### What is read -/
def pwS (x : List UInt8) : Int := nmV ((pI (s58 x) 0).getD 0 0)
def pwW (x : List UInt8) : List (List UInt8) := w32 (s58 x)
def pwG (x : List UInt8) : Bool := decide ((s58 x).length = 2) && (decide ((pI (s58 x) 0).length = 1) && sideQ (pwS x))
def sqN (n : Int) : Nat := n.toNat * n.toNat
def pwB (x : List UInt8) : Bool := pwG x && (decide ((pwW x).length = sqN (pwS x)) && (pwW x).all cpB)
def pwN (x : List UInt8) : Int := bif pwB x then pwS x else 0
noncomputable def pwX (x : List UInt8) (j : Nat) : Nat × Nat := bif pwB x && decide (j < (pwW x).length) then (cpX ((pwW x).getD j []), cpY ((pwW x).getD j [])) else (0, 0)
/-- A wave as a value. -/
def wvN (n : Int) (X : Nat → Nat × Nat) : AV := .agg (.i false .i64 n :: (List.range 64).map fun j => .c false .f32 (X j).1 (X j).2)
theorem wvN_rel {n : Int} {X : Nat → Nat × Nat} {l : List AV} (h : l.map AV.bare = .i false .i64 n :: (List.range 64).map fun j => .c false .f32 (X j).1 (X j).2) {σ : List (Nat × Nat)} {v : Value} (r : Rel σ (.agg l) v) : Rel σ (wvN n X) v := by
  cases r with | agg r =>
  refine .agg (bareL_rel ?_ r)
  rw [h]
  simp only [List.map_cons, List.map_map]
  rfl
theorem CallOK.reW {f : FuncId} {args : List AV} {H H' : List AB} {l : List AV} {b a' : AV} {n : Int} {X : Nat → Nat × Nat} (h : CallOK Tryd.prog f args H (.tup [.agg l, b]) H') (e : l.map AV.bare = .i false .i64 n :: (List.range 64).map fun j => .c false .f32 (X j).1 (X j).2) (eb : b.bare = a'.bare) : CallOK Tryd.prog f args H (.tup [wvN n X, a']) H' := h.weaken fun _ _ r => by
  cases r with | tup r =>
  generalize hl : Array.toList _ = vs at r
  cases r with | cons r1 r2 => cases r2 with | cons r2 r3 => cases r3 with | nil =>
  refine .tup ?_
  rw [hl]
  exact .cons (wvN_rel e r1) (.cons (bare_rel eb r2) .nil)
theorem sideQ_cases {n : Int} (h : sideQ n = true) : (sqN n, n) ∈ rdNs := by
  simp only [sideQ, eqQ_eq] at h
  by_cases h1 : n = 1
  · subst h1; decide
  · by_cases h2 : n = 2
    · subst h2; decide
    · by_cases h4 : n = 4
      · subst h4; decide
      · by_cases h8 : n = 8
        · subst h8; decide
        · simp [h1, h2, h4, h8] at h
theorem zero_bare : (AV.i true .i64 0 :: List.replicate 64 (.c true .f32 0 0)).map AV.bare = .i false .i64 0 :: (List.range 64).map fun j => .c false .f32 ((fun _ => ((0 : Nat), (0 : Nat))) j : Nat × Nat).1 ((fun _ => ((0 : Nat), (0 : Nat))) j : Nat × Nat).2 := by rfl
theorem fn12 : Tryd.prog.funcs[12]? = some Tryd.f12 := Tryd.func12
theorem body12 : Tryd.f12.body = some rdC := rfl
theorem allT_flat {ws : List (List UInt8)} {N : Nat} (hN : N ≤ ws.length) (hw : ∀ p ∈ ws, p.length ≤ 1048576) : allT ((List.range N).reverse.flatMap (wdQ ws)) = true := by
  refine allT_of fun b hb => ?_
  simp only [List.mem_flatMap, List.mem_reverse, List.mem_range] at hb
  obtain ⟨j, hj, hb⟩ := hb
  simp only [wdQ, List.mem_cons, List.not_mem_nil, or_false] at hb
  rcases hb with rfl | rfl
  · simpa using getD_len hw j
  · have : j < ws.length := by omega
    simp [Cells.len, this]
theorem allT_mem : ∀ {l : List Bool}, allT l = true → ∀ b ∈ l, b = true
  | a :: l, h, b, hb => by
    rw [allT, Bool.and_eq_true] at h
    rcases List.mem_cons.1 hb with rfl | hb
    · exact h.1
    · exact allT_mem h.2 b hb
theorem first_false (f : Nat → Bool) : ∀ N, (∃ j, j < N ∧ f j = false) → ∃ k, k < N ∧ f k = false ∧ ∀ j, j < k → f j = true
  | 0, ⟨j, hj, _⟩ => by omega
  | N + 1, ⟨j, hj, hf⟩ => by
    by_cases h : ∃ j, j < N ∧ f j = false
    · obtain ⟨k, h1, h2, h3⟩ := first_false f N h
      exact ⟨k, by omega, h2, h3⟩
    · have hno : ∀ j, j < N → f j = true := fun j hj => by
        cases hf : f j with
        | true => rfl
        | false => exact absurd ⟨j, hj, hf⟩ h
      have : j = N := by
        rcases Nat.lt_or_ge j N with h' | h'
        · rw [hno j h'] at hf; cases hf
        · omega
      subst this
      exact ⟨j, by omega, hf, hno⟩
theorem all_getD {l : List (List UInt8)} (f : List UInt8 → Bool) : l.all f = true ↔ ∀ j, j < l.length → f (l.getD j []) = true := by
  rw [List.all_eq_true]
  constructor
  · intro h j hj
    refine h _ ?_
    rw [List.getD_eq_getElem?_getD, List.getElem?_eq_getElem hj]
    exact List.getElem_mem hj
  · intro h p hp
    obtain ⟨j, hj, rfl⟩ := List.getElem_of_mem hp
    have := h j hj
    rwa [List.getD_eq_getElem?_getD, List.getElem?_eq_getElem hj] at this
theorem gd_bare (n : Int) (N : Nat) (ws : List (List UInt8)) (hN : N ≤ 64) : (AV.i true .i64 n :: ((List.range N).map (fun j => AV.c false .f32 (cpX (ws.getD j [])) (cpY (ws.getD j []))) ++ List.replicate (64 - N) (.c true .f32 0 0))).map AV.bare =
    .i false .i64 n :: (List.range 64).map fun j => .c false .f32 ((fun j => (bif decide (j < N) then (cpX (ws.getD j []), cpY (ws.getD j [])) else (0, 0) : Nat × Nat)) j).1 ((fun j => (bif decide (j < N) then (cpX (ws.getD j []), cpY (ws.getD j [])) else (0, 0) : Nat × Nat)) j).2 := by
  simp only [List.map_cons, AV.bare, List.map_append, List.map_map]
  congr 1
  apply List.ext_getElem
  · simp; omega
  · intro j h1 h2
    simp only [List.length_append, List.length_map, List.length_range, List.length_replicate] at h1
    by_cases hj : j < N
    · rw [List.getElem_append_left (by simpa using hj)]
      simp [hj, AV.bare]
    · rw [List.getElem_append_right (by simpa using hj)]
      simp [hj, AV.bare]

theorem rd_ok0 (x : List UInt8) (hx : x.length ≤ 1048576) : CallOK Tryd.prog 12 [.s false x] [] (.tup [wvN (pwN x) (pwX x), .b false (pwB x)]) [] := by
  have r0 : Reach Tryd.prog [.code rdC] ([.s false x] ++ undefs (Tryd.f12.ntmps - 1)) [] [.code rdC] (.s false x :: undefs 70) [] := .refl _ _ _
  have e58 : s58 x = spl 58 x := rfl
  have hps : ∀ p ∈ s58 x, p.length ≤ 1048576 := fun p hp => Nat.le_trans (spl_part 58 x p hp) hx
  have hpI : ∀ i : Int, (pI (s58 x) i).length ≤ 1048576 := fun i => getD_len hps _
  have hln : lnQ x 58 = true := by simp [lnQ, hx]
  have bad : pwB x = false → ∀ {H : List AB}, CallOK Tryd.prog 12 [.s false x] H (.tup [zeroV, .b true false]) H → CallOK Tryd.prog 12 [.s false x] H (.tup [wvN (pwN x) (pwX x), .b false (pwB x)]) H := fun hb H h => by
    have eX : pwX x = fun _ => (0, 0) := funext fun j => by unfold pwX; rw [hb]; rfl
    have eN : pwN x = 0 := by unfold pwN; rw [hb]; rfl
    rw [eX, eN, hb]
    exact CallOK.reW h zero_bare rfl
  by_cases h1 : (s58 x).length = 2
  case neg =>
    have h := rd0_b1 x
    simp only [Prod.mk.injEq] at h
    refine bad (by unfold pwB pwG; rw [decide_eq_false h1]; rfl) ?_
    exact cend_call (ks := [1, 0]) (p := [true]) tabRd_sound fn12 body12 r0 (by show allT (condsP (rd0 x) [true]) = true; rw [h.1, eqQ_len2, decide_eq_false h1]; rfl) (by
      have e := h.2; rw [hln] at e; exact e)
  have hq0 : allT (i0Q (s58 x) 0) = true := by simp [i0Q, allT, Cells.len, h1]
  have eqL1 : ∀ l : List UInt8, eqQ false (l.length : Int) 1 = decide (l.length = 1) := fun l => by rw [eqQ_eq, Bool.eq_iff_iff]; simp; omega
  by_cases h2 : (pI (s58 x) 0).length = 1
  case neg =>
    have h := rd0_b2 x
    simp only [Prod.mk.injEq] at h
    refine bad (by unfold pwB pwG; rw [decide_eq_false h2, Bool.false_and, Bool.and_false]; rfl) ?_
    exact cend_call (ks := [1, 0]) (p := [false, true]) tabRd_sound fn12 body12 r0 (by show allT (condsP (rd0 x) [false, true]) = true; rw [h.1, eqQ_len2, decide_eq_true h1, eqL1, decide_eq_false h2]; rfl) (by
      have e := h.2; rw [allT_append, hq0, hln] at e; exact e)
  cases h3 : sideQ (pwS x) with
  | false =>
    have h := rd0_b3 x
    simp only [Prod.mk.injEq] at h
    refine bad (by unfold pwB pwG; rw [h3, Bool.and_false, Bool.and_false]; rfl) ?_
    exact cend_call (ks := [1, 0]) (p := [false, false, true]) tabRd_sound fn12 body12 r0 (by
      show allT (condsP (rd0 x) [false, false, true]) = true
      have h3' : sideQ (nmV ((pI (s58 x) 0).getD 0 0)) = false := h3
      rw [h.1, eqQ_len2, decide_eq_true h1, eqL1, decide_eq_true h2, h3']; rfl) (by
      have e := h.2; rw [allT, allT_append, allT_append, hq0, hln, decide_eq_true h2] at e; exact e)
  | true =>
    have rr := rd_reach x h1 h2 h3 hx (hpI 1)
    have hn := sideQ_cases h3
    have hws : ∀ p ∈ pwW x, p.length ≤ 1048576 := fun p hp => Nat.le_trans (spl_part 32 _ p hp) (hpI 1)
    have hG : pwG x = true := by unfold pwG; rw [decide_eq_true h1, decide_eq_true h2, h3]; rfl
    have h64 : sqN (pwS x) ≤ 64 := by
      simp only [rdNs, List.mem_cons, Prod.mk.injEq, List.not_mem_nil, or_false] at hn
      rcases hn with ⟨h, _⟩ | ⟨h, _⟩ | ⟨h, _⟩ | ⟨h, _⟩ <;> rw [h] <;> decide
    have rr3 : Reach Tryd.prog [.code rdC] ([.s false x] ++ undefs (Tryd.f12.ntmps - 1)) [] (tlOf rdL) (rdT2 false (pwW x).length) (rdH3 (s58 x) (pwW x) (pwS x)) := by
      refine rr.post (H' := rdH3 (s58 x) (pwW x) (pwS x)) ?_
      exact HEq.cons ⟨rfl, rfl, fun _ _ _ h => h⟩ (HEq.cons ⟨rfl, rfl, fun _ _ _ h => h⟩ (HEq.cons ⟨rfl, rfl, fun _ _ _ h => h⟩ (HEq.cons (blk_bare rfl) (HEq.refl []))))
    by_cases h4 : (pwW x).length = sqN (pwS x)
    case neg =>
      have h := rdB_ok _ _ hn (s58 x) (pwW x)
      simp only [Prod.mk.injEq] at h
      refine bad (by unfold pwB; rw [decide_eq_false h4, Bool.false_and, Bool.and_false]) ?_
      exact cend_call (ks := [3, 2, 1, 0]) (p := [true]) tabRd_sound fn12 body12 rr3 (by
        show allT (condsP (rdB (pwS x) (s58 x) (pwW x)) [true]) = true
        have : eqQ false ((pwW x).length : Int) (sqN (pwS x) : Int) = false := by rw [eqQ_eq]; simp; omega
        rw [h.1, this]; rfl) h.2
    have rr4 := rr3.weak (t' := rdT2 true (sqN (pwS x))) (eqv_of_bare (by rw [h4]; rfl))
    by_cases h5 : (pwW x).all cpB = true
    · have h := rdG_ok _ _ hn (s58 x) (pwW x)
      simp only [Prod.mk.injEq] at h
      have hB : pwB x = true := by unfold pwB; rw [hG, decide_eq_true h4, h5]; rfl
      have := cend_call (ks := [3, 2, 1, 0]) (p := List.replicate (sqN (pwS x)) false) tabRd_sound fn12 body12 rr4 (by
        show allT (condsP (rdG (pwS x) (sqN (pwS x)) (s58 x) (pwW x)) (List.replicate (sqN (pwS x)) false)) = true
        rw [h.1]
        refine allT_of fun b hb => ?_
        simp only [List.mem_map, List.mem_range] at hb
        obtain ⟨j, hj, rfl⟩ := hb
        rw [(all_getD cpB).1 h5 j (by omega)]; rfl) (by
        have e := h.2; rw [allT_flat (by omega) hws] at e; exact e)
      have eX : pwX x = fun j => (bif decide (j < sqN (pwS x)) then (cpX ((pwW x).getD j []), cpY ((pwW x).getD j [])) else (0, 0) : Nat × Nat) := funext fun j => by unfold pwX; rw [hB, h4]; rfl
      have eN : pwN x = pwS x := by unfold pwN; rw [hB]; rfl
      rw [eX, eN, hB]
      exact CallOK.reW this (gd_bare _ _ _ h64) rfl
    · have h5' : (pwW x).all cpB = false := by simpa using h5
      obtain ⟨k, hk, hkf, hlt⟩ := first_false (fun j => cpB ((pwW x).getD j [])) (sqN (pwS x)) (by
        apply Classical.byContradiction
        intro hno
        refine h5 ((all_getD cpB).2 fun j hj => ?_)
        cases hc : cpB ((pwW x).getD j []) with
        | true => rfl
        | false => exact absurd ⟨j, by omega, hc⟩ hno)
      have h := rdG_bad _ _ hn (s58 x) (pwW x)
      have h := List.map_inj_left.1 h k (List.mem_range.2 hk)
      simp only [Prod.mk.injEq] at h
      refine bad (by unfold pwB; rw [h5', Bool.and_false, Bool.and_false]) ?_
      exact cend_call (ks := [3, 2, 1, 0]) (p := List.replicate k false ++ [true]) tabRd_sound fn12 body12 rr4 (by
        show allT (condsP (rdG (pwS x) (sqN (pwS x)) (s58 x) (pwW x)) (List.replicate k false ++ [true])) = true
        rw [h.1]
        refine allT_of fun b hb => ?_
        simp only [List.mem_append, List.mem_map, List.mem_range, List.mem_cons, List.not_mem_nil, or_false] at hb
        rcases hb with ⟨j, hj, rfl⟩ | rfl
        · rw [hlt j hj]; rfl
        · rw [hkf]; rfl) (by
        have e := h.2; rw [allT_flat (by omega) hws] at e; exact e)
noncomputable def gRead : List AV → Option (AV × List Bool)
  | [.s _ x] => some (.tup [wvN (pwN x) (pwX x), .b false (pwB x)], [decide (x.length ≤ 1048576)])
  | _ => none
theorem read_at : SoundAt Tryd.prog 12 (pureT gRead) := fun args H nd K => by
  refine pureT_sound (fun args v n h hn H => ?_) args H nd K
  unfold gRead at h
  split at h <;> (try (cases h; done))
  rename_i l x
  cases h
  simp only [allT, Bool.and_true, decide_eq_true_eq] at hn
  exact ((rd_ok0 x hn).lift rfl rfl H rfl).bare (args' := [.s l x]) rfl
end Go.Ax

/- impl.signedParseWave: evaluated. -/
namespace Go.Ax
open Go Go.Proofs

noncomputable def tabSg : Table := tabOf (jdeep Tryd.prog [(14, pfRow), (16, sptT), (20, pureT gRc)] [17, 38] 3000 8)
theorem tabSg_sound : SoundT Tryd.prog tabSg := jdeep_sound (fun p hp => by
  simp only [List.mem_cons, List.not_mem_nil, or_false] at hp
  rcases hp with rfl | rfl | rfl
  · exact pf_at
  · exact spt_at
  · exact rc_at) 8
noncomputable def sgC : Code := Tryd.f9.body.getD .skip
noncomputable def sg0 (x : List UInt8) : Res := cupto Tryd.prog tabSg (atReg 6) 1000 [.code sgC] (.s false x :: undefs 64) []
def sgNs : List (Nat × Int × List UInt8) := [(0, 1, [49, 58]), (1, 2, [50, 58]), (2, 4, [52, 58]), (3, 8, [56, 58])]
def sgPs : List (List UInt8) := [[49, 58], [50, 58], [52, 58], [56, 58]]
noncomputable def sgL : List Item := ((sg0 []).at [true]).todo ++ []
def sgT (n : Int) (r : List UInt8) : List AV := tmpsOf 65 [(2, .p true 0 0), (5, .i true .i64 n), (6, .s false r)]
def sgM : List Bool := maskOf 65 [(2, .any), (5, .any), (6, .any)]
def lit4 : AB := .cells true (.lit [.i true .i64 1, .i true .i64 2, .i true .i64 4, .i true .i64 8])
def sgH : List AB := [zeroW, lit4]
theorem sg0_go (x : List UInt8) : (sgNs.map fun z => (condsP (sg0 x) (List.replicate z.1 false ++ [true]), lfM sgM ((sg0 x).at (List.replicate z.1 false ++ [true])))) =
    sgNs.map fun z => ((sgPs.take z.1).map (fun y => !pfB x y) ++ [pfB x z.2.2], (true, sgL, (sgT z.2.1 (x.drop 2)).map AV.bare, sgH, [])) := by kernel_rfl
theorem sg0_no (x : List UInt8) : (condsP (sg0 x) [false, false, false, false], leafE Tryd.prog Tryd.f9.results.toList 0 [1, 0] ((sg0 x).at [false, false, false, false])) = (sgPs.map (fun y => !pfB x y), some (.tup [zeroV, .i true .i64 6], [], true)) := by kernel_rfl
noncomputable def sg1 (n : Int) (r : List UInt8) : Res := cupto Tryd.prog tabSg (atReg 10) 1000 sgL (sgT n r) sgH
noncomputable def sgL1 : List Item := ((sg1 1 []).at [false]).todo ++ []
def sgT1 (l : Bool) (k : Nat) : List AV := tmpsOf 65 [(2, .p true 0 0), (8, .p true 2 0), (9, .sl l 3 0 k 1)]
def sgM1 : List Bool := maskOf 65 [(2, .any), (8, .any), (9, .any)]
def wvB (n : Int) : AB := .cells true (.lit (.i true .i64 n :: List.replicate 64 (.c true .f32 0 0)))
def sgH1 (n : Int) (ws : List (List UInt8)) : List AB := [zeroW, lit4, wvB n, .cells true (.strs ws)]
def w32r (r : List UInt8) : List (List UInt8) := spl 32 r
def spQ (r : List UInt8) : Bool := decide (r.length ≤ 1048576) && decide (([32] : List UInt8).length = 1)
theorem sg1_bad (N : Nat) (n : Int) (hn : (N, n) ∈ rdNs) (r : List UInt8) : (condsP (sg1 n r) [true], leafE Tryd.prog Tryd.f9.results.toList 0 [3, 2, 1, 0] ((sg1 n r).at [true])) = ([!eqQ false (w32r r).length N], some (.tup [zeroV, .i true .i64 6], [], allT [spQ r])) := by
  simp only [rdNs, List.mem_cons, Prod.mk.injEq, List.not_mem_nil, or_false] at hn
  rcases hn with ⟨rfl, rfl⟩ | ⟨rfl, rfl⟩ | ⟨rfl, rfl⟩ | ⟨rfl, rfl⟩ <;> kernel_rfl
theorem sg1_go (N : Nat) (n : Int) (hn : (N, n) ∈ rdNs) (r : List UInt8) : (condsP (sg1 n r) [false], lfM sgM1 ((sg1 n r).at [false])) = ([!!eqQ false (w32r r).length N], (true, sgL1, (sgT1 false (w32r r).length).map AV.bare, sgH1 n (w32r r), [spQ r])) := by
  simp only [rdNs, List.mem_cons, Prod.mk.injEq, List.not_mem_nil, or_false] at hn
  rcases hn with ⟨rfl, rfl⟩ | ⟨rfl, rfl⟩ | ⟨rfl, rfl⟩ | ⟨rfl, rfl⟩ <;> kernel_rfl
end Go.Ax

/- impl.signedParseWave: the scan of the words, and the wave. -/
namespace Go.Ax
open Go Go.Proofs

noncomputable def sg2 (n : Int) (N : Nat) (ws : List (List UInt8)) : Res := cupto Tryd.prog tabSg (atReg 11) 2000 sgL1 (sgT1 true N) (sgH1 n ws)
noncomputable def sgL2 : List Item := ((sg2 1 1 []).at [false]).todo ++ []
def sgT2 (b : Bool) (N : Nat) : List AV := tmpsOf 65 [(2, .p true 0 0), (8, .p true 2 0), (9, .sl true 3 0 N 1), (10, .b true b)]
def sgM2 : List Bool := maskOf 65 [(2, .any), (8, .any), (9, .any), (10, .any)]
theorem sg2_ok (N : Nat) (n : Int) (hn : (N, n) ∈ rdNs) (ws : List (List UInt8)) : (condsP (sg2 n N ws) (List.replicate N false), lfM sgM2 ((sg2 n N ws).at (List.replicate N false))) =
    ((List.range N).map (fun j => !!cpB (ws.getD j [])), (true, sgL2, (sgT2 true N).map AV.bare, sgH1 n ws, (List.range N).reverse.flatMap (wdQ ws))) := by
  simp only [rdNs, List.mem_cons, Prod.mk.injEq, List.not_mem_nil, or_false] at hn
  rcases hn with ⟨rfl, rfl⟩ | ⟨rfl, rfl⟩ | ⟨rfl, rfl⟩ | ⟨rfl, rfl⟩ <;> kernel_rfl
theorem sg2_no (N : Nat) (n : Int) (hn : (N, n) ∈ rdNs) (ws : List (List UInt8)) : ((List.range N).map fun k => (condsP (sg2 n N ws) (List.replicate k false ++ [true]), lfM sgM2 ((sg2 n N ws).at (List.replicate k false ++ [true])))) =
    (List.range N).map fun k => ((List.range k).map (fun j => !!cpB (ws.getD j [])) ++ [!cpB (ws.getD k [])], (true, sgL2, (sgT2 false N).map AV.bare, sgH1 n ws, (List.range (k + 1)).reverse.flatMap (wdQ ws))) := by
  simp only [rdNs, List.mem_cons, Prod.mk.injEq, List.not_mem_nil, or_false] at hn
  rcases hn with ⟨rfl, rfl⟩ | ⟨rfl, rfl⟩ | ⟨rfl, rfl⟩ | ⟨rfl, rfl⟩ <;> kernel_rfl
noncomputable def sg3 (n : Int) (N : Nat) (b : Bool) (ws : List (List UInt8)) : Res := cupto Tryd.prog tabSg (fun _ => false) 2000 sgL2 (sgT2 b N) (sgH1 n ws)
noncomputable def sgV (n : Int) (N : Nat) (ws : List (List UInt8)) : AV := .agg (.i true .i64 n :: ((List.range N).map (fun j => .c false .f32 (rcX (ws.getD j [])) (rcY (ws.getD j []))) ++ List.replicate (64 - N) (.c true .f32 0 0)))
theorem sg3_ok (N : Nat) (n : Int) (hn : (N, n) ∈ rdNs) (ws : List (List UInt8)) : (condsP (sg3 n N true ws) [], leafE Tryd.prog Tryd.f9.results.toList 0 [3, 2, 1, 0] ((sg3 n N true ws).at [])) =
    ([], some (.tup [sgV n N ws, .i true .i64 0], [], allT ((List.range N).reverse.flatMap (wdQ ws)))) := by
  simp only [rdNs, List.mem_cons, Prod.mk.injEq, List.not_mem_nil, or_false] at hn
  rcases hn with ⟨rfl, rfl⟩ | ⟨rfl, rfl⟩ | ⟨rfl, rfl⟩ | ⟨rfl, rfl⟩ <;> kernel_rfl
theorem sg3_no (N : Nat) (n : Int) (hn : (N, n) ∈ rdNs) (ws : List (List UInt8)) : (condsP (sg3 n N false ws) [], leafE Tryd.prog Tryd.f9.results.toList 0 [3, 2, 1, 0] ((sg3 n N false ws).at [])) =
    ([], some (.tup [zeroV, .i true .i64 6], [], allT ((List.range N).reverse.flatMap (wdQ ws)))) := by
  simp only [rdNs, List.mem_cons, Prod.mk.injEq, List.not_mem_nil, or_false] at hn
  rcases hn with ⟨rfl, rfl⟩ | ⟨rfl, rfl⟩ | ⟨rfl, rfl⟩ | ⟨rfl, rfl⟩ <;> kernel_rfl
end Go.Ax

/- spec.ParseWave: its contract. -/
namespace Go.Ax
open Go Go.Proofs

noncomputable def tabPs : Table := tabOf (jdeep Tryd.prog [(12, pureT gRead)] [4, 7] 3000 8)
theorem tabPs_sound : SoundT Tryd.prog tabPs := jdeep_sound (fun p hp => by
  simp only [List.mem_cons, List.not_mem_nil, or_false] at hp
  subst hp; exact read_at) 8
noncomputable def ps0 (x : List UInt8) : Res := tabPs 4 [.s false x] [] [] fun v H nd => .ret v H nd
noncomputable def plusX (X : Nat → Nat × Nat) (j : Nat) : Nat × Nat := (plusF (X j).1, plusF (X j).2)
def zeroL : List AV := .i true .i64 0 :: List.replicate 64 (.c true .f32 0 0)
noncomputable def plusL (n : Int) (X : Nat → Nat × Nat) : List AV := .i false .i64 n :: (List.range 64).map fun j => .c false .f32 (plusX X j).1 (plusX X j).2
theorem ps0_bad (x : List UInt8) : (condsP (ps0 x) [true], leafD 0 [3, 2, 1, 0] ((ps0 x).at [true])) = ([!pwB x], some (.tup [.agg zeroL, .i true .i64 6], [], [decide (x.length ≤ 1048576)])) := by kernel_rfl
theorem ps0_go (x : List UInt8) : (condsP (ps0 x) [false], leafD 0 [3, 2, 1, 0] ((ps0 x).at [false])) = ([!!pwB x], some (.tup [.agg (plusL (pwN x) (pwX x)), .i true .i64 0], [], [decide (x.length ≤ 1048576)])) := by kernel_rfl
theorem plusF_zero : plusF 0 = 0 := by unfold plusF; cases feq .f32 0 0 <;> rfl
/-- What ParseWave answers. -/
noncomputable def paX (x : List UInt8) : Nat → Nat × Nat := plusX (pwX x)
def paC (x : List UInt8) : Int := bif pwB x then 0 else 6
noncomputable def paV (x : List UInt8) : AV := .tup [wvN (pwN x) (paX x), .b false (pwB x)]
theorem ps_ok0 (x : List UInt8) (hx : x.length ≤ 1048576) : CallOK Tryd.prog 4 [.s false x] [] (.tup [wvN (pwN x) (paX x), .i false .i64 (paC x)]) [] := by
  have hn : allT [decide (x.length ≤ 1048576)] = true := by simp [allT, hx]
  unfold paC
  cases hb : pwB x with
  | false =>
    have h := ps0_bad x
    have e := (Prod.mk.injEq _ _ _ _).mp h
    have := call_of_leaf tabPs_sound h (by rw [hb]; rfl) hn
    have eX : paX x = fun _ => (0, 0) := funext fun j => by
      have : pwX x j = (0, 0) := by unfold pwX; rw [hb]; rfl
      unfold paX plusX
      rw [this, plusF_zero]
    have eN : pwN x = 0 := by unfold pwN; rw [hb]; rfl
    rw [eX, eN]
    exact CallOK.reW this zero_bare rfl
  | true =>
    have h := ps0_go x
    have := call_of_leaf tabPs_sound h (by rw [hb]; rfl) hn
    refine CallOK.reW this ?_ rfl
    simp only [plusL, List.map_cons, List.map_map, AV.bare]
    rfl
end Go.Ax

/- impl.signedParseWave: its contract. -/
namespace Go.Ax
open Go Go.Proofs

/-! ### Plain: what both read -/
theorem spl_mem {b c : UInt8} (hc : c ≠ b) : ∀ {s : List UInt8}, c ∈ s → ∃ p ∈ spl b s, c ∈ p
  | [], h => by simp at h
  | d :: l, h => by
    cases hd : d == b with
    | true =>
      have hdb : d = b := by simpa using hd
      subst hdb
      rcases List.mem_cons.1 h with rfl | h
      · exact absurd rfl hc
      · obtain ⟨p, h1, h2⟩ := spl_mem hc h
        exact ⟨p, by rw [spl_hit]; simp [h1], h2⟩
    | false =>
      rw [spl_miss hd]
      cases hs : spl b l with
      | nil => exact absurd hs (spl_ne b l)
      | cons q t =>
        rcases List.mem_cons.1 h with rfl | h
        · exact ⟨c :: q, by simp [onH], by simp⟩
        · obtain ⟨p, h1, h2⟩ := spl_mem hc h
          rw [hs] at h1
          rcases List.mem_cons.1 h1 with rfl | h1
          · exact ⟨d :: p, by simp [onH], by simp [h2]⟩
          · exact ⟨p, by simp [onH, h1], h2⟩
theorem cpB_parts {w : List UInt8} (h : cpB w = true) : (spl 44 w).length = 2 ∧ ∀ p ∈ spl 44 w, seB p = true := by
  unfold cpB cpP at h
  by_cases hl : (spl 44 w).length = 2
  · refine ⟨hl, ?_⟩
    match hs : spl 44 w, hl with
    | [p, q], _ =>
      rw [hs] at h
      have e0 : ([p, q] : List (List UInt8)).getD 0 [] = p := rfl
      have e1 : ([p, q] : List (List UInt8)).getD 1 [] = q := rfl
      rw [e0, e1] at h
      cases hp : seB p with
      | false => rw [hp] at h; cases h
      | true =>
        rw [hp] at h
        intro r hr
        simp only [List.mem_cons, List.not_mem_nil, or_false] at hr
        rcases hr with rfl | rfl
        · exact hp
        · exact h
  · rw [decide_eq_false hl] at h; cases h
theorem cpB_colon {w : List UInt8} (h : cpB w = true) : ∀ c ∈ w, c ≠ 58 := fun c hc e => by
  subst e
  obtain ⟨p, h1, h2⟩ := spl_mem (b := 44) (by decide) hc
  exact (seB_comma ((cpB_parts h).2 p h1) 58 h2).2.1 rfl
theorem all_colon {r : List UInt8} (h : (spl 32 r).all cpB = true) : ∀ c ∈ r, c ≠ 58 := fun c hc e => by
  subst e
  obtain ⟨p, h1, h2⟩ := spl_mem (b := 32) (by decide) hc
  exact cpB_colon (List.all_eq_true.1 h p h1) 58 h2 rfl
theorem spl_single {b : UInt8} {s q : List UInt8} (h : spl b s = [q]) : q = s := by
  rcases idx_spl b s with ⟨_, e⟩ | ⟨i, _, _, e⟩
  · rw [e] at h; cases h; rfl
  · rw [e] at h
    simp only [List.cons.injEq] at h
    exact absurd h.2 (spl_ne _ _)
theorem s58_cons {c : UInt8} (hc : c ≠ 58) (r : List UInt8) : s58 (c :: 58 :: r) = [c] :: spl 58 r := by
  show spl 58 (c :: 58 :: r) = _
  rw [spl_miss (by simpa using hc), spl_hit]; rfl
theorem sg_case {c : UInt8} {n : Int} {N : Nat} (hc : c ≠ 58) (hn : nmV c = n) (hs : (N, n) ∈ rdNs) (r : List UInt8) :
    ((spl 32 r).length = N ∧ (spl 32 r).all cpB = true → pwB (c :: 58 :: r) = true ∧ pwS (c :: 58 :: r) = n ∧ pwW (c :: 58 :: r) = spl 32 r) ∧ (¬ ((spl 32 r).length = N ∧ (spl 32 r).all cpB = true) → pwB (c :: 58 :: r) = false) := by
  have hq : sideQ n = true ∧ sqN n = N := by
    simp only [rdNs, List.mem_cons, Prod.mk.injEq, List.not_mem_nil, or_false] at hs
    rcases hs with ⟨rfl, rfl⟩ | ⟨rfl, rfl⟩ | ⟨rfl, rfl⟩ | ⟨rfl, rfl⟩ <;> exact ⟨by rfl, by rfl⟩
  have e58 := s58_cons hc r
  have hS : pwS (c :: 58 :: r) = n := by
    unfold pwS
    rw [e58]
    exact hn
  constructor
  · rintro ⟨h1, h2⟩
    have h3 : spl 58 r = [r] := spl_one fun d hd => all_colon h2 d hd
    have e2 : s58 (c :: 58 :: r) = [[c], r] := by rw [e58, h3]
    have hW : pwW (c :: 58 :: r) = spl 32 r := by unfold pwW; rw [e2]; rfl
    refine ⟨?_, hS, hW⟩
    unfold pwB pwG
    rw [hS, hW, e2, h2, hq.1, hq.2, h1]
    simp [pI]
  · intro h
    cases hB : pwB (c :: 58 :: r) with
    | false => rfl
    | true =>
      exfalso
      apply h
      unfold pwB pwG at hB
      rw [hS] at hB
      simp only [Bool.and_eq_true, decide_eq_true_eq] at hB
      obtain ⟨⟨h2, _⟩, h4, h5⟩ := hB
      rw [e58] at h2
      have h3 : (spl 58 r).length = 1 := by simpa using h2
      match hr : spl 58 r, h3 with
      | [q], _ =>
        have := spl_single hr
        subst this
        have hW : pwW (c :: 58 :: q) = spl 32 q := by unfold pwW; rw [e58, hr]; rfl
        rw [hW, hq.2] at h4
        rw [hW] at h5
        exact ⟨h4, h5⟩
theorem pfB_two {x : List UInt8} {c : UInt8} (h : pfB x [c, 58] = true) : x = c :: 58 :: x.drop 2 := by
  unfold pfB at h
  rw [List.isPrefixOf_iff_prefix] at h
  obtain ⟨t, rfl⟩ := h
  rfl
theorem nm_cases {c : UInt8} (h : sideQ (nmV c) = true) : c = 49 ∨ c = 50 ∨ c = 52 ∨ c = 56 := by
  have tab : ((List.range 256).all fun n => !sideQ (nmV (UInt8.ofNat n)) || (n == 49 || (n == 50 || (n == 52 || n == 56)))) = true := by kernel_rfl
  have := List.all_eq_true.1 tab c.toNat (List.mem_range.2 c.toNat_lt)
  have e : UInt8.ofNat c.toNat = c := by simp
  rw [e, h] at this
  simp only [Bool.not_true, Bool.false_or, Bool.or_eq_true, beq_iff_eq] at this
  rcases this with h | h | h | h
  · exact .inl (by rw [← e, h]; rfl)
  · exact .inr (.inl (by rw [← e, h]; rfl))
  · exact .inr (.inr (.inl (by rw [← e, h]; rfl)))
  · exact .inr (.inr (.inr (by rw [← e, h]; rfl)))
theorem sg_none {x : List UInt8} (h : ∀ y ∈ sgPs, pfB x y = false) : pwB x = false := by
  cases hB : pwB x with
  | false => rfl
  | true =>
    exfalso
    unfold pwB pwG at hB
    simp only [Bool.and_eq_true, decide_eq_true_eq] at hB
    obtain ⟨⟨h2, h3, h4⟩, _⟩ := hB
    have hs : s58 x = spl 58 x := rfl
    rcases idx_spl 58 x with ⟨_, e⟩ | ⟨i, _, hi, e⟩
    · rw [hs, e] at h2; simp at h2
    · unfold pwS at h4
      rw [hs, e] at h3 h4
      have e0 : pI (x.take i :: spl 58 (x.drop (i + 1))) 0 = x.take i := rfl
      rw [e0] at h3 h4
      have hi1 : i = 1 := by simp at h3; omega
      subst hi1
      match x, hi with
      | c :: d :: l, _ =>
        have hd : d = 58 := by
          have ht : spl 58 (c :: d :: l) = [c] :: spl 58 l := e
          cases hcb : c == 58 with
          | true =>
            have : c = 58 := by simpa using hcb
            subst this
            rw [spl_hit] at ht; simp at ht
          | false =>
            rw [spl_miss hcb] at ht
            cases hdb : d == 58 with
            | true => simpa using hdb
            | false =>
              exfalso
              rw [spl_miss hdb, onH_onH] at ht
              cases hq : spl 58 l with
              | nil => exact spl_ne 58 l hq
              | cons q t => rw [hq] at ht; simp [onH] at ht
        subst hd
        have hc := nm_cases h4
        have hp : ∀ c' : UInt8, c' = c → pfB (c :: 58 :: l) [c', 58] = true := fun c' e => by subst e; simp [pfB, List.isPrefixOf]
        rcases hc with hc | hc | hc | hc
        · have := h [49, 58] (by simp [sgPs]); rw [hp 49 hc.symm] at this; cases this
        · have := h [50, 58] (by simp [sgPs]); rw [hp 50 hc.symm] at this; cases this
        · have := h [52, 58] (by simp [sgPs]); rw [hp 52 hc.symm] at this; cases this
        · have := h [56, 58] (by simp [sgPs]); rw [hp 56 hc.symm] at this; cases this
end Go.Ax

/- impl.signedParseWave: the contract. -/
namespace Go.Ax
open Go Go.Proofs

theorem fn9 : Tryd.prog.funcs[9]? = some Tryd.f9 := Tryd.func9
theorem body9 : Tryd.f9.body = some sgC := rfl
noncomputable def sgW (x : List UInt8) : AV := .tup [wvN (pwN x) (pwX x), .i false .i64 (paC x)]
theorem sg_ok0 (x : List UInt8) (hx : x.length ≤ 1048576) : CallOK Tryd.prog 9 [.s false x] [] (sgW x) [] := by
  have r0 : Reach Tryd.prog [.code sgC] ([.s false x] ++ undefs (Tryd.f9.ntmps - 1)) [] [.code sgC] (.s false x :: undefs 64) [] := .refl _ _ _
  have bad : pwB x = false → ∀ {H : List AB}, CallOK Tryd.prog 9 [.s false x] H (.tup [zeroV, .i true .i64 6]) H → CallOK Tryd.prog 9 [.s false x] H (sgW x) H := fun hb H h => by
    have eX : pwX x = fun _ => (0, 0) := funext fun j => by unfold pwX; rw [hb]; rfl
    have eN : pwN x = 0 := by unfold pwN; rw [hb]; rfl
    have eC : paC x = 6 := by unfold paC; rw [hb]; rfl
    unfold sgW
    rw [eX, eN, eC]
    exact CallOK.reW h zero_bare rfl
  by_cases hnone : ∀ y ∈ sgPs, pfB x y = false
  · have h := sg0_no x
    simp only [Prod.mk.injEq] at h
    refine bad (sg_none hnone) ?_
    exact cend_call (ks := [1, 0]) (p := [false, false, false, false]) tabSg_sound fn9 body9 r0 (by
      show allT (condsP (sg0 x) [false, false, false, false]) = true
      rw [h.1]
      refine allT_of fun b hb => ?_
      simp only [List.mem_map] at hb
      obtain ⟨y, hy, rfl⟩ := hb
      rw [hnone y hy]; rfl) h.2
  · -- the first that is
    have hz : ∃ z ∈ sgNs, pfB x z.2.2 = true ∧ ∀ y ∈ sgPs.take z.1, pfB x y = false := by
      simp only [sgNs, sgPs, List.mem_cons, List.not_mem_nil, or_false, forall_eq_or_imp, forall_eq] at hnone ⊢
      cases e1 : pfB x [49, 58] with
      | true => exact ⟨_, .inl rfl, e1, by simp⟩
      | false =>
        cases e2 : pfB x [50, 58] with
        | true => exact ⟨_, .inr (.inl rfl), e2, by simp [e1]⟩
        | false =>
          cases e3 : pfB x [52, 58] with
          | true => exact ⟨_, .inr (.inr (.inl rfl)), e3, by simp [e1, e2]⟩
          | false =>
            cases e4 : pfB x [56, 58] with
            | true => exact ⟨_, .inr (.inr (.inr rfl)), e4, by simp [e1, e2, e3]⟩
            | false => exact absurd ⟨e1, e2, e3, e4⟩ hnone
    obtain ⟨z, hz, hp, hbefore⟩ := hz
    have hgo := List.map_inj_left.1 (sg0_go x) z hz
    simp only [Prod.mk.injEq] at hgo
    obtain ⟨hgo1, hgo2⟩ := hgo
    have hzn : ∃ c : UInt8, z.2.2 = [c, 58] ∧ c ≠ 58 ∧ nmV c = z.2.1 ∧ (sqN z.2.1, z.2.1) ∈ rdNs := by
      simp only [sgNs, List.mem_cons, List.not_mem_nil, or_false] at hz
      rcases hz with rfl | rfl | rfl | rfl <;> exact ⟨_, rfl, by decide, by rfl, by decide⟩
    obtain ⟨c, hc2, hc, hnm, hn⟩ := hzn
    rw [hc2] at hp
    have hxc := pfB_two hp
    have hcase := sg_case hc hnm hn (x.drop 2)
    rw [← hxc] at hcase
    have hdl : (x.drop 2).length ≤ 1048576 := by simp; omega
    have rr1 := r0.trans (cway_reach (t' := sgT z.2.1 (x.drop 2)) (p := List.replicate z.1 false ++ [true]) tabSg_sound (by
      show allT (condsP (sg0 x) _) = true
      rw [hgo1]
      refine allT_of fun b hb => ?_
      simp only [List.mem_append, List.mem_map, List.mem_cons, List.not_mem_nil, or_false] at hb
      rcases hb with ⟨y, hy, rfl⟩ | rfl
      · rw [hbefore y hy]; rfl
      · rw [hc2]; exact hp) hgo2 rfl)
    generalize hN : sqN z.2.1 = N at hn hcase
    generalize hnn : z.2.1 = n at hn hcase rr1 hnm
    have hsp : allT [spQ (x.drop 2)] = true := by unfold spQ; rw [decide_eq_true hdl]; rfl
    have hws : ∀ p ∈ spl 32 (x.drop 2), p.length ≤ 1048576 := fun p hp => Nat.le_trans (spl_part 32 _ p hp) hdl
    have h64 : N ≤ 64 := by
      simp only [rdNs, List.mem_cons, Prod.mk.injEq, List.not_mem_nil, or_false] at hn
      rcases hn with ⟨h, _⟩ | ⟨h, _⟩ | ⟨h, _⟩ | ⟨h, _⟩ <;> rw [h] <;> decide
    by_cases h4 : (spl 32 (x.drop 2)).length = N
    case neg =>
      have h := sg1_bad N n hn (x.drop 2)
      simp only [Prod.mk.injEq] at h
      refine bad (hcase.2 fun hh => h4 hh.1) ?_
      exact cend_call (ks := [3, 2, 1, 0]) (p := [true]) tabSg_sound fn9 body9 rr1 (by
        show allT (condsP (sg1 n (x.drop 2)) [true]) = true
        have : eqQ false ((w32r (x.drop 2)).length : Int) (N : Int) = false := by rw [eqQ_eq]; unfold w32r; simp; omega
        rw [h.1, this]; rfl) (by have e := h.2; rw [hsp] at e; exact e)
    have h := sg1_go N n hn (x.drop 2)
    simp only [Prod.mk.injEq] at h
    have rr2 := rr1.trans (cway_reach (t' := sgT1 false (w32r (x.drop 2)).length) (p := [false]) tabSg_sound (by
      show allT (condsP (sg1 n (x.drop 2)) [false]) = true
      have : eqQ false ((w32r (x.drop 2)).length : Int) (N : Int) = true := by rw [eqQ_eq]; unfold w32r; simp; omega
      rw [h.1, this]; rfl) h.2 hsp)
    have rr3 := rr2.weak (t' := sgT1 true N) (eqv_of_bare (by unfold w32r; rw [h4]; rfl))
    generalize hW : spl 32 (x.drop 2) = ws at h4 hws hcase
    have hWr : w32r (x.drop 2) = ws := hW
    rw [hWr] at rr3
    by_cases h5 : ws.all cpB = true
    · have g := sg2_ok N n hn ws
      simp only [Prod.mk.injEq] at g
      have rr4 := rr3.trans (cway_reach (t' := sgT2 true N) (p := List.replicate N false) tabSg_sound (by
        show allT (condsP (sg2 n N ws) (List.replicate N false)) = true
        rw [g.1]
        refine allT_of fun b hb => ?_
        simp only [List.mem_map, List.mem_range] at hb
        obtain ⟨j, hj, rfl⟩ := hb
        rw [(all_getD cpB).1 h5 j (by omega)]; rfl) g.2 (allT_flat (by omega) hws))
      have k := sg3_ok N n hn ws
      simp only [Prod.mk.injEq] at k
      have := cend_call (ks := [3, 2, 1, 0]) (p := []) tabSg_sound fn9 body9 rr4 (by
        show allT (condsP (sg3 n N true ws) []) = true
        rw [k.1]; rfl) (by have e := k.2; rw [allT_flat (by omega) hws] at e; exact e)
      obtain ⟨hB, hS, hW2⟩ := hcase.1 ⟨h4, h5⟩
      have eN : pwN x = n := by unfold pwN; rw [hB, hS]; rfl
      have eC : paC x = 0 := by unfold paC; rw [hB]; rfl
      have eX : pwX x = fun j => (bif decide (j < N) then (cpX (ws.getD j []), cpY (ws.getD j [])) else (0, 0) : Nat × Nat) := funext fun j => by unfold pwX; rw [hB, hW2, h4]; rfl
      unfold sgW
      rw [eN, eC, eX]
      refine CallOK.reW this ?_ rfl
      rw [← gd_bare n N ws h64]
      simp only [List.map_cons, List.map_append, List.map_map]
      congr 2
      apply List.map_congr_left
      intro j hj
      have hj := List.mem_range.1 hj
      have hcp := (rc_cp (ws.getD j [])).2 ((all_getD cpB).1 h5 j (by omega))
      show (AV.c false .f32 (rcX (ws.getD j [])) (rcY (ws.getD j []))).bare = _
      unfold rcX rcY
      rw [hcp.1, hcp.2]; rfl
    · have h5' : ws.all cpB = false := by simpa using h5
      obtain ⟨k, hk, hkf, hlt⟩ := first_false (fun j => cpB (ws.getD j [])) N (by
        apply Classical.byContradiction
        intro hno
        refine h5 ((all_getD cpB).2 fun j hj => ?_)
        cases hc : cpB (ws.getD j []) with
        | true => rfl
        | false => exact absurd ⟨j, by omega, hc⟩ hno)
      have g := List.map_inj_left.1 (sg2_no N n hn ws) k (List.mem_range.2 hk)
      simp only [Prod.mk.injEq] at g
      have hfl : allT ((List.range (k + 1)).reverse.flatMap (wdQ ws)) = true := allT_flat (by omega) hws
      have rr4 := rr3.trans (cway_reach (t' := sgT2 false N) (p := List.replicate k false ++ [true]) tabSg_sound (by
        show allT (condsP (sg2 n N ws) (List.replicate k false ++ [true])) = true
        rw [g.1]
        refine allT_of fun b hb => ?_
        simp only [List.mem_append, List.mem_map, List.mem_range, List.mem_cons, List.not_mem_nil, or_false] at hb
        rcases hb with ⟨j, hj, rfl⟩ | rfl
        · rw [hlt j hj]; rfl
        · rw [hkf]; rfl) g.2 hfl)
      have q := sg3_no N n hn ws
      simp only [Prod.mk.injEq] at q
      refine bad (hcase.2 fun hh => h5 hh.2) ?_
      exact cend_call (ks := [3, 2, 1, 0]) (p := []) tabSg_sound fn9 body9 rr4 (by
        show allT (condsP (sg3 n N false ws) []) = true
        rw [q.1]; rfl) (by have e := q.2; rw [allT_flat (by omega) hws] at e; exact e)
noncomputable def gSg : List AV → Option (AV × List Bool)
  | [.s _ x] => some (sgW x, [decide (x.length ≤ 1048576)])
  | _ => none
theorem sg_at : SoundAt Tryd.prog 9 (pureT gSg) := fun args H nd K => by
  refine pureT_sound (fun args v n h hn H => ?_) args H nd K
  unfold gSg at h
  split at h <;> (try (cases h; done))
  rename_i l x
  cases h
  simp only [allT, Bool.and_true, decide_eq_true_eq] at hn
  exact ((sg_ok0 x hn).lift rfl rfl H rfl).bare (args' := [.s l x]) rfl
end Go.Ax

/- impl.ParseWave: its contract; complex numbers compared with themselves; the law FnExactParseWave. -/
namespace Go.Ax
open Go Go.Proofs Ieee

noncomputable def tabP5 : Table := tabOf (jdeep Tryd.prog [(9, pureT gSg)] [5] 3000 8)
theorem tabP5_sound : SoundT Tryd.prog tabP5 := jdeep_sound (fun p hp => by
  simp only [List.mem_cons, List.not_mem_nil, or_false] at hp
  subst hp; exact sg_at) 8
noncomputable def p50 (x : List UInt8) : Res := tabP5 5 [.s false x] [] [] fun v H nd => .ret v H nd
theorem p50_ok (x : List UInt8) : (condsP (p50 x) [], leafD 0 [1, 0] ((p50 x).at [])) = ([], some (.tup [.agg (plusL (pwN x) (pwX x)), .i false .i64 (paC x)], [], [decide (x.length ≤ 1048576)])) := by kernel_rfl
noncomputable def paW (x : List UInt8) : AV := .tup [wvN (pwN x) (paX x), .i false .i64 (paC x)]
theorem p5_ok0 (x : List UInt8) (hx : x.length ≤ 1048576) : CallOK Tryd.prog 5 [.s false x] [] (paW x) [] := by
  have hn : allT [decide (x.length ≤ 1048576)] = true := by simp [allT, hx]
  have := call_of_leaf tabP5_sound (p50_ok x) rfl hn
  refine CallOK.reW this ?_ rfl
  simp only [plusL, List.map_cons, List.map_map, AV.bare]
  rfl
noncomputable def gPa : List AV → Option (AV × List Bool)
  | [.s _ x] => some (paW x, [decide (x.length ≤ 1048576)])
  | _ => none
theorem ps_at : SoundAt Tryd.prog 4 (pureT gPa) := fun args H nd K => by
  refine pureT_sound (fun args v n h hn H => ?_) args H nd K
  unfold gPa at h
  split at h <;> (try (cases h; done))
  rename_i l x
  cases h
  simp only [allT, Bool.and_true, decide_eq_true_eq] at hn
  exact ((ps_ok0 x hn).lift rfl rfl H rfl).bare (args' := [.s l x]) rfl
theorem p5_at : SoundAt Tryd.prog 5 (pureT gPa) := fun args H nd K => by
  refine pureT_sound (fun args v n h hn H => ?_) args H nd K
  unfold gPa at h
  split at h <;> (try (cases h; done))
  rename_i l x
  cases h
  simp only [allT, Bool.and_true, decide_eq_true_eq] at hn
  exact ((p5_ok0 x hn).lift rfl rfl H rfl).bare (args' := [.s l x]) rfl

/-! ### A float32 as a float64 -/
theorem read_single (x : Nat) {g : Bool} {m : Nat} {e : Int} (h : single.read x = .number g m e) : m < 16777216 ∧ -149 ≤ e ∧ e ≤ 104 := by
  unfold Format.read at h
  dsimp only at h
  generalize x % single.signWeight = r at h
  by_cases h1 : r < single.binade
  · rw [if_pos h1] at h
    rw [s_bin] at h1
    rw [s_least] at h
    cases h
    omega
  · rw [if_neg h1] at h
    by_cases h2 : r < single.infRung
    · rw [if_pos h2] at h
      rw [s_least, s_bin] at h
      rw [s_inf] at h2
      cases h
      have : r / 8388608 ≤ 254 := by omega
      omega
    · rw [if_neg h2] at h
      by_cases h3 : r = single.infRung
      · rw [if_pos h3] at h; cases h
      · rw [if_neg h3] at h; cases h
theorem widenOK (x : Nat) : fcvtOK .f32 .f64 x = true := by
  unfold fcvtOK
  rw [if_neg (by decide)]
  split
  · rename_i g m e h
    obtain ⟨h1, h2, h3⟩ := read_single x h
    by_cases hm : m = 0
    · subst hm
      show (!(double.read (double.nearest g 0 e)).isInfinity) = true
      have : double.nearest g 0 e = double.word g 0 := by unfold Format.nearest; rw [if_pos rfl]
      rw [this]
      cases g <;> rfl
    · obtain ⟨s, a1, a2, a3⟩ := shift_of m (by omega) (by omega)
      have e1 : double.nearest g m e = canon double g (m * 2 ^ s) (e + 1074 - s).toNat := by
        refine nearest_up double g m s _ e a2 a3 (by rw [d_least]; omega) ?_
        rw [d_bin, d_inf]
        have : (e + 1074 - s).toNat * 4503599627370496 ≤ 1200 * 4503599627370496 := Nat.mul_le_mul_right _ (by omega)
        exact Nat.le_trans (Nat.add_le_add this (Nat.le_of_lt a3)) (by decide)
      have e2 : double.read (canon double g (m * 2 ^ s) (e + 1074 - s).toNat) = .number g (m * 2 ^ s) (double.leastPlace + ((e + 1074 - s).toNat : Nat)) := by
        refine read_canon double g _ _ a3 (.inr a2) ?_
        rw [d_bin, d_inf]
        have : (e + 1074 - s).toNat * 4503599627370496 ≤ 1200 * 4503599627370496 := Nat.mul_le_mul_right _ (by omega)
        omega
      show (!(double.read (double.nearest g m e)).isInfinity) = true
      rw [e1, e2]; rfl
  · rfl

/-! ### A number is the same as itself -/
noncomputable def tab28 : Table := tabOf (jdeep Tryd.prog [] [] 3000 8)
theorem tab28_sound : SoundT Tryd.prog tab28 := jdeep_sound (fun p hp => by cases hp) 8
noncomputable def s28 (a b : Nat) : Res := tab28 28 [.c false .f64 a b, .c false .f64 a b] [] [] fun v H nd => .ret v H nd
noncomputable def sameV (x : Nat) : Bool :=
  bif bif !feq .f64 x x then true else !feq .f64 x x then bif !feq .f64 x x then !feq .f64 x x else false
  else bif bif feq .f64 x 0 then feq .f64 x 0 else false then fgt .f64 (fdiv .f64 4607182418800017408 x) 0 == fgt .f64 (fdiv .f64 4607182418800017408 x) 0 else feq .f64 x x
theorem sameV_true (x : Nat) : sameV x = true := by
  unfold sameV
  cases feq .f64 x x <;> cases feq .f64 x 0 <;> simp
theorem s28_ok (a b : Nat) : (condsP (s28 a b) [], leafD 0 [] ((s28 a b).at [])) = ([], some (.b false (bif sameV a then sameV b else false), [], [])) := by kernel_rfl
noncomputable def gSame : List AV → Option (AV × List Bool)
  | [.c _ .f64 a b, .c _ .f64 c d] => some (.b true true, [decide (a = c), decide (b = d)])
  | _ => none
theorem same_at : SoundAt Tryd.prog 28 (pureT gSame) := fun args H nd K => by
  refine pureT_sound (fun args v n h hn H => ?_) args H nd K
  unfold gSame at h
  split at h <;> (try (cases h; done))
  rename_i l a b l' c d
  cases h
  simp only [allT, Bool.and_true, Bool.and_eq_true, decide_eq_true_eq] at hn
  obtain ⟨rfl, rfl⟩ := hn
  have := call_of_leaf tab28_sound (s28_ok a b) rfl rfl
  rw [sameV_true, sameV_true] at this
  exact ((this.re (a' := .b true true) rfl).lift rfl rfl H rfl).bare (args' := [.c l .f64 a b, .c l' .f64 a b]) rfl

/-! ### The law -/
noncomputable def tabF3 : Table := tabOf (jdeep Tryd.prog [(4, pureT gPa), (5, pureT gPa), (28, pureT gSame)] [3, 6] 3000 8)
theorem tabF3_sound : SoundT Tryd.prog tabF3 := jdeep_sound (fun p hp => by
  simp only [List.mem_cons, List.not_mem_nil, or_false] at hp
  rcases hp with rfl | rfl | rfl
  · exact ps_at
  · exact p5_at
  · exact same_at) 8
noncomputable def f30 (x : List UInt8) : Res := tabF3 3 [.s false x] [] [] fun v H nd => .ret v H nd
theorem f3_big (x : List UInt8) : (condsP (f30 x) [true], leafD 0 [] ((f30 x).at [true])) = ([ltQ false 1048576 (x.length : Int)], some (.b true true, [], [])) := by kernel_rfl
noncomputable def f3Q (x : List UInt8) (j : Nat) : List Bool :=
  [decide (fcvt .f32 .f64 (paX x j).1 = fcvt .f32 .f64 (paX x j).1), decide (fcvt .f32 .f64 (paX x j).2 = fcvt .f32 .f64 (paX x j).2),
    fcvtOK .f32 .f64 (paX x j).1 && fcvtOK .f32 .f64 (paX x j).2, fcvtOK .f32 .f64 (paX x j).1 && fcvtOK .f32 .f64 (paX x j).2]
noncomputable def f3C (x : List UInt8) : Bool := bif !eqQ false (pwN x) (pwN x) then true else !eqQ false (paC x) (paC x)
theorem f3_go (x : List UInt8) : (condsP (f30 x) [false, false], leafD 0 [1, 0] ((f30 x).at [false, false])) = ([!ltQ false 1048576 (x.length : Int), !f3C x], some (.b true true, [],
    guardL (!!eqQ false (pwN x) (pwN x)) ((List.range 64).reverse.flatMap (f3Q x)) ++ [decide (x.length ≤ 1048576), decide (x.length ≤ 1048576)])) := by kernel_rfl
theorem f3_ok (x : List UInt8) : CallOK Tryd.prog 3 [.s false x] [] (.b false true) [] := by
  by_cases hx : x.length ≤ 1048576
  · refine (call_of_leaf tabF3_sound (f3_go x) ?_ ?_).re rfl
    · have h1 : ltQ false 1048576 (x.length : Int) = false := by rw [ltQ_eq]; simp; omega
      have h2 : f3C x = false := by
        unfold f3C
        rw [eqQ_eq, eqQ_eq]; simp
      rw [h1, h2]; rfl
    · rw [allT_append, guardL_ok fun _ => ?_]
      · simp [allT, hx]
      · refine allT_of fun b hb => ?_
        simp only [List.mem_flatMap, List.mem_reverse, List.mem_range] at hb
        obtain ⟨j, hj, hb⟩ := hb
        simp only [f3Q, widenOK, Bool.and_true, decide_true, List.mem_cons, List.not_mem_nil, or_false, or_self] at hb
        exact hb
  · refine (call_of_leaf tabF3_sound (f3_big x) ?_ rfl).re rfl
    have h1 : ltQ false 1048576 (x.length : Int) = true := by rw [ltQ_eq]; simp; omega
    rw [h1]; rfl
end Go.Ax

/- From the calls of the law on every text to the given statement: the world's variables; the row; the tied card. -/
namespace Go.Proofs.YtaboeibkmknocaaDoor
open Go.ChangeShapes Go.WideShapes Go.ChangeAt Go.RowKit Go.Ax

theorem Tryd.own : ownKnob Tryd.prog.godebug = none := by kernel_rfl
theorem Tryd.laidOut : laidOutB Tryd.prog = true := by kernel_rfl
/-- The wrap of a row that lists variables, the world's shape kept. -/
theorem returns_shaped_and {H : Type} {enc : TypeId × Value → H} {a : Assume} {C : Checked} {os : Os} {f : FuncId} {fn : Func} {s : ChangeSpec} {conds : List PathCond} {apart fresh handsOn again : Bool} {X : World → Array Value → Prop}
    (hX : ∀ (w w' : World) (args : Array Value), w.heap = w'.heap → X w args → X w' args)
    (own : ownKnob C.prog.godebug = none) (started : os.Started) (noInit : C.prog.inits.idxOf? f = none) (hfn : C.prog.funcs[f]? = some fn)
    (witness : ∃ (w : World) (tape : Tape) (i : Input), w.os = os ∧ (w.forCall tape i).Shaped C.prog ∧ i.vars = [] ∧ Input.okWide C.prog (w.forCall tape i) .any w.heap.size f i ∧
      ((s.pre enc C.prog fn conds apart (w.forCall tape i).memory i.args ∧ X (w.forCall tape i).memory i.args) ∧ sizedMet enc C.prog fn (OpenSpec.ofChange s) apart (w.forCall tape i).memory i.args) ∧ a.holds C.prog (lone (Frame.enter C.prog f i.args .normal) [] (w.forCall tape i)))
    (contract : ∀ (W : World) (base : Nat) (args : Array Value) (ds gs : List (DataW H)) (before : List MemPlace),
      (∀ (j : Nat) t v, fn.params[j]? = some t → args[j]? = some v → Value.okWide C.prog W .any base t v) →
      DataW.Whole enc C.prog fn.params.toList s.vars apart W args.toList ds gs before → W.ShapedOpen C.prog → X W args →
      Calls C.prog f args W fun e W' => ∃ v, e = .returned v ∧ s.post enc C.prog fn apart fresh handsOn again W args v W') :
    ReturnsInHanded a C os f .any (fun w args => (s.pre enc C.prog fn conds apart w args ∧ X w args) ∧ sizedMet enc C.prog fn (OpenSpec.ofChange s) apart w args) (s.post enc C.prog fn apart fresh handsOn again) := by
  refine returnsInHanded_of_calls own started noInit witness ?_
  rintro w tape i _ hsh _ ⟨_, _, _, fn', hfn', _, _, _, _, hval⟩ ⟨⟨⟨ds, gs, before, hw, _⟩, hx⟩, _⟩ _
  obtain rfl : fn' = fn := Option.some.inj (hfn'.symm.trans hfn)
  refine (contract (w.forCall tape i) w.heap.size i.args ds gs before hval (DataW.Whole.of_heap (w' := w.forCall tape i) (by rfl) hw) hsh (hX _ _ _ (by rfl) hx)).mono ?_
  rintro e W' ⟨v, rfl, hp⟩
  exact ChangeSpec.post_blind hp

/-! ### The variables -/
def laidL : List (String × DataW Unit) := Rows.fnExactParseWaveRow.laid
theorem var_ifc {P : Program} {n : String} {d : DataW Unit} {r : List (String × DataW Unit)} {W : World} {g : Nat} {t : TypeId} {ms : Array (String × TypeId)} (h : laidMet P ((n, d) :: r) W)
    (hg : P.globalNamed n = some g) (ht : (P.globals[g]?).map (·.type) = some t) (hi : P.underlying t = some (.interface ms)) : ∃ ev, W.cell? ⟨g, 0, none⟩ = some ev ∧ isIfc ev := by
  obtain ⟨ps, ⟨g0, t0, cs, fuel, p, q, hg0, ht0, hv, hd, _, _⟩, _, _⟩ := h
  obtain rfl := Option.some.inj (hg.symm.trans hg0)
  obtain rfl := Option.some.inj (ht.symm.trans ht0)
  have hc := World.var?_cell hg0 hv 0
  cases fuel with
  | zero => simp [DataW.trod] at hd
  | succ fuel =>
    unfold DataW.trod at hd
    rw [hi] at hd
    generalize hl : cs.toList = l at hd
    have h0 : cs[0]? = l[0]? := by rw [← hl]; simp
    rw [hc, h0]
    match l, hd with
    | [], hd => simp at hd
    | [v], hd =>
      cases v <;> first | exact ⟨_, rfl, .inl rfl⟩ | exact ⟨_, rfl, .inr ⟨_, _, rfl⟩⟩ | (simp at hd; done)
    | _ :: _ :: _, hd => simp at hd
def tab64 : List Int := [0, 1, 56, 2, 57, 49, 28, 3, 61, 58, 42, 50, 38, 29, 17, 4, 62, 47, 59, 36, 45, 43, 51, 22, 53, 39, 33, 30, 24, 18, 12, 5, 63, 55, 48, 27, 60, 41, 37, 16, 46, 35, 44, 21, 52, 32, 23, 11, 54, 26, 40, 15, 34, 20, 31, 10, 25, 14, 19, 9, 13, 8, 7, 6]
theorem base_of {W : World} (hL : laidMetH Tryd.prog laidL W) (hsh : W.ShapedOpen Tryd.prog) : Base [] [] W := by
  rw [MakeChecks.laidMetH_plain _ _ _ (by kernel_rfl)] at hL
  intro g hg
  refine ⟨?_, fun i z h => by simp at h⟩
  simp only [baseC, List.mem_cons, List.not_mem_nil, or_false] at hg
  rcases hg with rfl | rfl | rfl | rfl
  · exact var_ifc hL.tail.tail.tail.tail.tail (g := 5) (by kernel_rfl) (by kernel_rfl) Tryd.underlying89
  · exact var_ifc hL.tail.tail.tail.tail (g := 6) (by kernel_rfl) (by kernel_rfl) Tryd.underlying89
  · obtain ⟨m, hm⟩ := cell_of_shapedOpen_int (k := .i64) hsh (g := 2) (of_decide_eq_true (by kernel_rfl)) (zero := #[.int .i64 0]) (t := 3) (by kernel_rfl) rfl (by kernel_rfl) (by kernel_rfl) Tryd.underlying3
    exact ⟨_, hm, m, rfl⟩
  · have hT := Lib.tabIs_of_head (k := .u8) (zs := tab64) (g := 8) (by kernel_rfl) (by kernel_rfl) Tryd.underlying139 Tryd.underlying5 (by kernel_rfl) (by kernel_rfl) hL.tail
    exact ⟨_, hT.cell (by kernel_rfl) 15 (by decide), rfl⟩
end Go.Proofs.YtaboeibkmknocaaDoor
