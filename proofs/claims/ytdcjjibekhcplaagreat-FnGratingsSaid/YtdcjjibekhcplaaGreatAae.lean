/- What is known of a call in a small memory holds in every memory that begins with it. -/
import Derived.Test.YtdcjjibekhcplaaGreatAad
namespace Go.Ax
open Go

mutual
/-- Names from k on are moved up by r. -/
def upV (k r : Nat) : AV → AV
  | .p l id off => .p l (match decide (id < k) with
    | true => id
    | false => id + r) off
  | .sl l id off len z => .sl l (match decide (id < k) with
    | true => id
    | false => id + r) off len z
  | .fn g f c => .fn g (upL k r f) (upL k r c)
  | .ifc t v => .ifc t (upV k r v)
  | .agg l => .agg (upL k r l)
  | .tup l => .tup (upL k r l)
  | v => v
def upL (k r : Nat) : List AV → List AV
  | [] => []
  | a :: l => upV k r a :: upL k r l
end
def upB (k r : Nat) : AB → AB
  | .cells rw (.lit l) => .cells rw (.lit (upL k r l))
  | b => b
def upH (k r : Nat) : List AB → List AB
  | [] => []
  | b :: l => upB k r b :: upH k r l
theorem upL_map (k r : Nat) : ∀ (l : List AV), upL k r l = l.map (upV k r)
  | [] => rfl
  | a :: l => by simp [upL, upL_map k r l]
theorem upH_get (k r : Nat) : ∀ (l : List AB) (i : Nat), getB (upH k r l) i = upB k r (getB l i)
  | [], _ => rfl
  | _ :: _, 0 => rfl
  | _ :: l, i + 1 => upH_get k r l i
theorem upH_length (k r : Nat) : ∀ (l : List AB), (upH k r l).length = l.length
  | [] => rfl
  | _ :: l => by simp [upH, upH_length k r l]
theorem upB_rw (k r : Nat) (B : AB) : (upB k r B).rw = B.rw ∧ (upB k r B).live = B.live := by
  cases B with
  | dead => exact ⟨rfl, rfl⟩
  | cells r A => cases A <;> exact ⟨rfl, rfl⟩
  | code _ _ => exact ⟨rfl, rfl⟩

section
variable {σ τ : List (Nat × Nat)} {k r : Nat}
def Up (k r : Nat) (σ τ : List (Nat × Nat)) : Prop := ∀ (i : Nat) (b : Nat × Nat), σ[i]? = some b → τ[if i < k then i else i + r]? = some b
theorem up_get (u : Up k r σ τ) {i : Nat} {b : Nat × Nat} (h : σ[i]? = some b) : τ[match decide (i < k) with
    | true => i
    | false => i + r]? = some b := by
  have := u i b h
  by_cases hi : i < k
  · simp only [hi, decide_true, if_true] at this ⊢; exact this
  · simp only [hi, decide_false, if_false] at this ⊢; exact this
mutual
theorem upV_rel (u : Up k r σ τ) : ∀ {a : AV} {v : Value}, Rel σ a v → Rel τ (upV k r a) v
  | _, _, .b x => .b x
  | _, _, .i k n => .i k n
  | _, _, .f h => .f h
  | _, _, .c h h' => .c h h'
  | _, _, .s l => .s l
  | _, _, .p h => .p (up_get u h)
  | _, _, .pnil => .pnil
  | _, _, .sl h hc hz => .sl (up_get u h) hc hz
  | _, _, .slz => .slz
  | _, _, .slnil => .slnil
  | _, _, .sle => .sle
  | _, _, .fn h h' => .fn (upL_rel u h) (upL_rel u h')
  | _, _, .fnil => .fnil
  | _, _, .ifc h => .ifc (upV_rel u h)
  | _, _, .inil => .inil
  | _, _, .agg h => .agg (upL_rel u h)
  | _, _, .tup h => .tup (upL_rel u h)
  | _, _, .any => .any
theorem upL_rel (u : Up k r σ τ) : ∀ {a : List AV} {v : List Value}, RelL σ a v → RelL τ (upL k r a) v
  | _, _, .nil => .nil
  | _, _, .cons h hs => .cons (upV_rel u h) (upL_rel u hs)
end
theorem upB_blk (u : Up k r σ τ) {z : Nat} {B : AB} {o : Option Obj} (h : BlkRel σ z B o) : BlkRel τ z (upB k r B) o := by
  cases B with
  | dead => trivial
  | code _ _ => exact h
  | cells rw A =>
    obtain ⟨c, e, fr, h1, h2, h3⟩ := h
    cases A with
    | lit l =>
      refine ⟨c, e, fr, h1, fun j a ha => ?_, h3⟩
      simp only [Cells.toL, upL_map, List.getElem?_map, Option.map_eq_some_iff] at ha
      obtain ⟨a0, ha0, rfl⟩ := ha
      obtain ⟨v, hv, hr⟩ := h2 j a0 ha0
      exact ⟨v, hv, upV_rel u hr⟩
    | _ =>
      refine ⟨c, e, fr, h1, fun j a ha => ?_, h3⟩
      obtain ⟨v, hv, hr⟩ := h2 j a ha
      refine ⟨v, hv, ?_⟩
      simp only [Cells.toL, List.getElem?_map, Option.map_eq_some_iff] at ha
      obtain ⟨y, _, rfl⟩ := ha
      have := upV_rel u hr
      exact this
end

def allLive : List AB → Bool
  | [] => true
  | b :: l => b.live && allLive l
theorem allLive_get : ∀ {l : List AB}, allLive l = true → ∀ i, i < l.length → (getB l i).live = true
  | [], _, i, h => by simp at h
  | b :: l, hl, 0, _ => by simp only [allLive, Bool.and_eq_true] at hl; exact hl.1
  | b :: l, hl, i + 1, h => by
    simp only [allLive, Bool.and_eq_true] at hl
    exact allLive_get hl.2 i (by simpa using h)

def lowB (n : Nat) : AB → Bool
  | .cells _ (.lit l) => belowL n l
  | _ => true
def lowH (n : Nat) : List AB → Bool
  | [] => true
  | b :: l => lowB n b && lowH n l
theorem lowH_get {n : Nat} : ∀ {l : List AB}, lowH n l = true → ∀ i, lowB n (getB l i) = true
  | [], _, i => rfl
  | b :: l, hl, 0 => by simp only [lowH, Bool.and_eq_true] at hl; exact hl.1
  | b :: l, hl, i + 1 => by
    simp only [lowH, Bool.and_eq_true] at hl
    exact lowH_get hl.2 i
theorem belowL_get {n : Nat} : ∀ {l : List AV}, belowL n l = true → ∀ (j : Nat) (a : AV), l[j]? = some a → below n a = true
  | [], _, j, a, h => by simp at h
  | x :: l, hl, 0, a, h => by
    simp only [belowL, Bool.and_eq_true] at hl
    simp at h; subst h; exact hl.1
  | x :: l, hl, j + 1, a, h => by
    simp only [belowL, Bool.and_eq_true] at hl
    exact belowL_get hl.2 j a (by simpa using h)
theorem low_blk {σ τ : List (Nat × Nat)} {n z : Nat} (e : Ext σ τ) (hn : σ.length = n) {B : AB} {o : Option Obj} (hb : lowB n B = true) (h : BlkRel τ z B o) : BlkRel σ z B o := by
  cases B with
  | dead => trivial
  | code _ _ => exact h
  | cells rw A =>
    obtain ⟨c, t, fr, h1, h2, h3⟩ := h
    refine ⟨c, t, fr, h1, fun j a ha => ?_, h3⟩
    obtain ⟨v, hv, hr⟩ := h2 j a ha
    refine ⟨v, hv, below_rel e hn ?_ hr⟩
    cases A with
    | lit l => exact belowL_get hb j a ha
    | _ =>
      simp only [Cells.toL, List.getElem?_map, Option.map_eq_some_iff] at ha
      obtain ⟨y, _, rfl⟩ := ha
      rfl

/-- The memory behind a call: the old part, what was besides it, and what is new. -/
def frameH (H0 Hr H1 : List AB) : List AB := upH H0.length Hr.length (H1.take H0.length) ++ (Hr ++ upH H0.length Hr.length (H1.drop H0.length))

theorem getB_take : ∀ (l : List AB) (k i : Nat), i < k → getB (l.take k) i = getB l i
  | [], k, i, _ => by simp
  | _ :: _, 0, _, h => by omega
  | _ :: _, k + 1, 0, _ => rfl
  | _ :: l, k + 1, i + 1, h => getB_take l k i (by omega)
theorem getB_drop : ∀ (l : List AB) (k i : Nat), getB (l.drop k) i = getB l (k + i)
  | [], k, i => by simp [getB]
  | _ :: _, 0, i => by simp
  | _ :: l, k + 1, i => by
    rw [List.drop_succ_cons, getB_drop l k i, show k + 1 + i = (k + i) + 1 by omega]; rfl

variable {P : Program}
theorem CallOK.frame {f : FuncId} {args : List AV} {v : AV} {H0 H1 : List AB} (h : CallOK P f args H0 v H1) (ha : belowL H0.length args = true) (hl : allLive H0 = true) (hlow : lowH H0.length H0 = true) (Hr : List AB) :
    CallOK P f args (H0 ++ Hr) (upV H0.length Hr.length v) (frameH H0 Hr H1) := fun σ w rargs s hra => by
  have hσl : σ.length = H0.length + Hr.length := by rw [s.len]; simp
  have hσ0 : (σ.take H0.length).length = H0.length := by simp; omega
  have t0 : ∀ i, i < H0.length → (σ.take H0.length)[i]? = σ[i]? := fun i hi => List.getElem?_take_of_lt hi
  have l0 : ∀ {i : Nat} {b : Nat × Nat}, (σ.take H0.length)[i]? = some b → i < H0.length := fun hb => by have := isSome_lt hb; omega
  have e0 : Ext (σ.take H0.length) σ := fun i b hb => by rw [← t0 i (l0 hb)]; exact hb
  have g0 : ∀ i, i < H0.length → getB (H0 ++ Hr) i = getB H0 i := fun i hi => getB_append_left hi
  have gr : ∀ i, H0.length ≤ i → getB (H0 ++ Hr) i = getB Hr (i - H0.length) := fun i hi => getB_append_right hi
  have s0 : Sim (σ.take H0.length) H0 w := by
    refine ⟨hσ0, fun i b z hb => ?_, fun i j b z z' hi hj hr hl' => ?_⟩
    · have hbl := s.blk i b z (e0 i _ hb)
      rw [g0 i (l0 hb)] at hbl
      exact low_blk e0 hσ0 (lowH_get hlow i) hbl
    · exact s.inj i j b z z' (e0 i _ hi) (e0 j _ hj) (by rw [g0 i (l0 hi)]; exact hr) (by rw [g0 j (l0 hj)]; exact hl')
  refine (h (σ.take H0.length) w rargs s0 (belowL_rel e0 hσ0 ha hra)).mono ?_
  rintro e w' ⟨rv, rfl, σ1, r1, s1, F⟩
  have hk1 : H0.length ≤ σ1.length := by have := F.ext.length; omega
  have hH1 : H0.length ≤ H1.length := by rw [← s1.len]; exact hk1
  have x1 : ∀ i, i < H0.length → σ1[i]? = σ[i]? := fun i hi => by
    have hi' : i < (σ.take H0.length).length := by omega
    rw [F.ext i _ (List.getElem?_eq_getElem hi'), ← t0 i hi, List.getElem?_eq_getElem hi']
  -- the new naming
  have tl : ∀ i, i < σ.length → (σ ++ σ1.drop H0.length)[i]? = σ[i]? := fun i hi => List.getElem?_append_left hi
  have tr : ∀ i, H0.length ≤ i → (σ ++ σ1.drop H0.length)[i + Hr.length]? = σ1[i]? := fun i hi => by
    rw [List.getElem?_append_right (by omega), List.getElem?_drop]
    congr 1; omega
  have u : Up H0.length Hr.length σ1 (σ ++ σ1.drop H0.length) := fun i b hb => by
    by_cases hi : i < H0.length
    · rw [if_pos hi, tl i (by omega), ← x1 i hi]; exact hb
    · rw [if_neg hi, tr i (by omega)]; exact hb
  have hlenT : (H1.take H0.length).length = H0.length := by simp; omega
  have q0 : ∀ i, i < H0.length → getB (frameH H0 Hr H1) i = upB H0.length Hr.length (getB H1 i) := fun i hi => by
    unfold frameH
    rw [getB_append_left (by rw [upH_length, hlenT]; exact hi), upH_get, getB_take _ _ _ hi]
  have qr : ∀ i, H0.length ≤ i → i < H0.length + Hr.length → getB (frameH H0 Hr H1) i = getB Hr (i - H0.length) := fun i h1 h2 => by
    unfold frameH
    rw [getB_append_right (by rw [upH_length, hlenT]; exact h1), upH_length, hlenT, getB_append_left (by omega)]
  have qn : ∀ i, H0.length ≤ i → getB (frameH H0 Hr H1) (i + Hr.length) = upB H0.length Hr.length (getB H1 i) := fun i h1 => by
    unfold frameH
    rw [getB_append_right (by rw [upH_length, hlenT]; omega), upH_length, hlenT, getB_append_right (by omega), upH_get, getB_drop]
    congr 2; omega
  have hold : ∀ b, b < w.heap.size → (∀ i z, (getB H0 i).rw = true → σ[i]? ≠ some (b, z)) → w'.heap[b]? = w.heap[b]? := fun b hb hno => F.old b hb fun i z hr hi => by
    exact hno i z hr (e0 i _ hi)
  -- a block besides: it stands apart from what was written
  have apart : ∀ i b z, H0.length ≤ i → σ[i]? = some (b, z) → (getB Hr (i - H0.length)).live = true → b < w.heap.size ∧ (∀ j z', (getB H0 j).rw = true → σ[j]? ≠ some (b, z')) := fun i b z hi hb hlv => by
    have hlv' : (getB (H0 ++ Hr) i).live = true := by rw [gr i hi]; exact hlv
    refine ⟨s.lt hb hlv', fun j z' hr hj => ?_⟩
    have hjl : j < H0.length := by
      rcases Nat.lt_or_ge j H0.length with h' | h'
      · exact h'
      · rw [getB_none h'] at hr; cases hr
    have := s.inj j i b z' z hj hb (by rw [g0 j hjl]; exact hr) hlv'
    omega
  have low1 : ∀ i b z, σ1[i]? = some (b, z) → H0.length ≤ i → w.heap.size ≤ b ∨ ∃ j z', j < H0.length ∧ (getB H0 j).rw = true ∧ σ[j]? = some (b, z') := fun i b z hb hi => by
    rcases F.new i b z hb (List.getElem?_eq_none (by omega)) with h' | ⟨j, z', hj, hj'⟩
    · exact .inl h'
    · exact .inr ⟨j, z', l0 hj', hj, e0 j _ hj'⟩
  -- a place in the new naming comes from a place of the call's or from one besides
  have place : ∀ i b z, (σ ++ σ1.drop H0.length)[i]? = some (b, z) → (∃ i1, (i = if i1 < H0.length then i1 else i1 + Hr.length) ∧ σ1[i1]? = some (b, z) ∧ getB (frameH H0 Hr H1) i = upB H0.length Hr.length (getB H1 i1)) ∨
      (H0.length ≤ i ∧ i < H0.length + Hr.length ∧ σ[i]? = some (b, z) ∧ getB (frameH H0 Hr H1) i = getB Hr (i - H0.length)) := fun i b z hb => by
    rcases Nat.lt_or_ge i H0.length with h1 | h1
    · exact .inl ⟨i, by rw [if_pos h1], by rw [x1 i h1, ← tl i (by omega)]; exact hb, q0 i h1⟩
    · rcases Nat.lt_or_ge i (H0.length + Hr.length) with h2 | h2
      · exact .inr ⟨h1, h2, by rw [← tl i (by omega)]; exact hb, qr i h1 h2⟩
      · have hi : i = (i - Hr.length) + Hr.length := by omega
        refine .inl ⟨i - Hr.length, by rw [if_neg (by omega)]; exact hi, ?_, ?_⟩
        · rw [← tr _ (by omega), ← hi]; exact hb
        · rw [hi, qn _ (by omega), ← hi]
  refine ⟨rv, rfl, σ ++ σ1.drop H0.length, upV_rel u r1, ⟨?_, fun i b z hb => ?_, fun i j b z z' hi hj hr hlv => ?_⟩, ⟨F.os, F.tape, F.output, F.size, fun b hb hno => ?_, Ext.append _ _, fun i b z hb hn => ?_, fun i hi hr => ?_⟩⟩
  · simp only [frameH, List.length_append, upH_length, List.length_drop, hlenT, hσl, s1.len]; omega
  · rcases place i b z hb with ⟨i1, _, h1, h2⟩ | ⟨h1, h2, h3, h4⟩
    · rw [h2]; exact upB_blk u (s1.blk i1 b z h1)
    · rw [h4]
      have hbl := s.blk i b z h3
      rw [gr i h1] at hbl
      cases hg : getB Hr (i - H0.length) with
      | dead => trivial
      | cells r A =>
        rw [hg] at hbl
        obtain ⟨p1, p2⟩ := apart i b z h1 h3 (by rw [hg]; rfl)
        rw [hold b p1 p2]
        exact hbl.mono (Ext.append _ _)
      | code o0 xs0 =>
        rw [hg] at hbl
        obtain ⟨p1, p2⟩ := apart i b z h1 h3 (by rw [hg]; rfl)
        rw [hold b p1 p2]
        exact hbl.mono (Ext.append _ _)
  · rcases place i b z hi with ⟨i1, a1, a2, a3⟩ | ⟨a1, a2, a3, a4⟩ <;> rcases place j b z' hj with ⟨j1, b1, b2, b3⟩ | ⟨b1, b2, b3, b4⟩
    · rw [a3, (upB_rw _ _ _).1] at hr
      rw [b3, (upB_rw _ _ _).2] at hlv
      have := s1.inj i1 j1 b z z' a2 b2 hr hlv
      rw [a1, b1, this]
    · exfalso
      rw [b4] at hlv
      obtain ⟨p1, p2⟩ := apart j b z' b1 b3 hlv
      rw [a3, (upB_rw _ _ _).1] at hr
      rcases Nat.lt_or_ge i1 H0.length with hi1 | hi1
      · have := F.mono i1 (by omega) hr
        exact p2 i1 z this (by rw [← x1 i1 hi1]; exact a2)
      · rcases low1 i1 b z a2 hi1 with h' | ⟨j', z2, _, h1, h2⟩
        · omega
        · exact p2 j' z2 h1 h2
    · exfalso
      rw [a4] at hr
      obtain ⟨p1, p2⟩ := apart i b z a1 a3 (rw_live hr)
      have hri : (getB (H0 ++ Hr) i).rw = true := by rw [gr i a1]; exact hr
      rcases Nat.lt_or_ge j1 H0.length with hj1 | hj1
      · have hlj : (getB H0 j1).live = true := allLive_get hl j1 hj1
        have := s.inj i j1 b z z' a3 (by rw [← x1 j1 hj1]; exact b2) hri (by rw [g0 j1 hj1]; exact hlj)
        omega
      · rcases low1 j1 b z' b2 hj1 with h' | ⟨j', z2, _, h1, h2⟩
        · omega
        · exact p2 j' z2 h1 h2
    · rw [a4] at hr
      rw [b4] at hlv
      exact s.inj i j b z z' a3 b3 (by rw [gr i a1]; exact hr) (by rw [gr j b1]; exact hlv)
  · exact hold b hb fun i z hr hi => by
      have hil : i < H0.length := by
        rcases Nat.lt_or_ge i H0.length with h' | h'
        · exact h'
        · rw [getB_none h'] at hr; cases hr
      exact hno i z (by rw [g0 i hil]; exact hr) hi
  · have hge : σ.length ≤ i := by
      rcases Nat.lt_or_ge i σ.length with h' | h'
      · rw [List.getElem?_eq_getElem h'] at hn; cases hn
      · exact h'
    rcases place i b z hb with ⟨i1, a1, a2, _⟩ | ⟨a1, a2, _, _⟩
    · have hi1 : H0.length ≤ i1 := by
        rcases Nat.lt_or_ge i1 H0.length with h' | h'
        · rw [if_pos h'] at a1; omega
        · exact h'
      rcases low1 i1 b z a2 hi1 with h' | ⟨j, z2, hj0, h1, h2⟩
      · exact .inl h'
      · exact .inr ⟨j, z2, by rw [g0 j hj0]; exact h1, h2⟩
    · omega
  · rcases Nat.lt_or_ge i H0.length with h1 | h1
    · rw [q0 i h1, (upB_rw _ _ _).1] at hr
      rw [g0 i h1]
      exact F.mono i (by omega) hr
    · rw [qr i h1 (by omega)] at hr
      rw [gr i h1]; exact hr
end Go.Ax

/- spec.l10Draw: a list of some numbers. -/
namespace Go.Ax
open Go Go.Proofs

noncomputable def rows2 : List (FuncId × Table) := (181, numT) :: rows1
theorem rows2_at : allAt Tryz.prog rows2 := ⟨num_at, rows1_at⟩
noncomputable def tab2 : Table := deep Tryz.prog rows2 [73] 1000 5
theorem tab2_sound : SoundT Tryz.prog tab2 := deep_sound (allAt_mem rows2_at) 5

def cL : Code → Code
  | .seq a _ => a
  | c => c
def cR : Code → Code
  | .seq _ b => b
  | c => c
def cB : Code → Code
  | .block _ c => c
  | c => c
def cO : Code → Code
  | .loop c => c
  | c => c
def Res.conds : Res → List Bool → List Bool
  | .ite b x y, p :: l => b :: (match p with
    | true => x.conds l
    | false => y.conds l)
  | _, _ => []
/-- The way that is gone is the one whose tests hold. -/
theorem Res.sel_at : ∀ (l : List Bool) (r : Res), r.conds l = l → r.sel = (r.at l).sel
  | [], r, _ => by cases r <;> rfl
  | p :: l, r, h => by
    cases r with
    | ite b x y =>
      simp only [Res.conds, List.cons.injEq] at h
      obtain ⟨rfl, h⟩ := h
      cases b with
      | true => exact Res.sel_at l x h
      | false => exact Res.sel_at l y h
    | _ => rfl
theorem toLoop_head (P : Program) (T : Table) (n : Nat) (c : Code) (k : List Item) (t : List AV) (H : List AB) : toLoop P T (n + 1) (.code (.loop c) :: k) t H = toLoop P T (n + 1) (.inLoop c :: k) t H := rfl
/-- The end. -/
noncomputable def retOf (rs : List ResultVar) : Res → Option (Option (List AV × List Bool) × List AB × List Bool)
  | .ret v H nd => match v with
    | .tup t => some (resV Tryz.prog t H rs, H, nd)
    | _ => none
  | _ => none
theorem retOf_some {rs : List ResultVar} {r : Res} {x : Option (List AV × List Bool)} {H : List AB} {nd : List Bool} (h : retOf rs r = some (x, H, nd)) : ∃ t, r = .ret (.tup t) H nd ∧ resV Tryz.prog t H rs = x := by
  unfold retOf at h
  split at h <;> (try (cases h; done))
  split at h <;> cases h
  exact ⟨_, rfl, rfl⟩
end Go.Ax

/- spec.l01From: a source out of a text of bytes. -/
namespace Go.Ax
open Go Go.Proofs

/-- A leaf where only what is of use is kept, by a mask. -/
noncomputable def leafM (M : List Bool) : Res → Option (List AV × List AB × List Bool)
  | .stop _ t H nd => some (blur M t, H, nd)
  | _ => none
theorem leafM_stop {M : List Bool} {r : Res} {L : List Item} {t : List AV} {H : List AB} {nd : List Bool} (h1 : r.todo = L) (h2 : leafM M r = some (t, H, nd)) : ∃ t0, r = .stop L t0 H nd ∧ t = blur M t0 := by
  cases r <;> simp [leafM] at h2
  rename_i todo t0 H0 nd0
  obtain ⟨rfl, rfl, rfl⟩ := h2
  simp [Res.todo] at h1
  subst h1
  exact ⟨t0, rfl, rfl⟩
/-- From a leaf to a way. -/
theorem reach_leaf {P : Program} {T : Table} (hT : SoundT P T) {n : Nat} {todo L : List Item} {t0 t : List AV} {H H' : List AB} {nd : List Bool} {M p : List Bool} (hc : (toLoop P T n todo t0 H).conds p = p)
    (h1 : ((toLoop P T n todo t0 H).at p).todo = L) (h2 : leafM M ((toLoop P T n todo t0 H).at p) = some (t, H', nd)) (hn : allT nd = true) : Reach P todo t0 H L t H' := by
  obtain ⟨t1, e1, rfl⟩ := leafM_stop h1 h2
  have e2 := Res.sel_at p _ hc
  rw [e1] at e2
  exact (toLoop_reach hT e2 hn).weak (blur_eqv M t1)
theorem ends_leaf {T : Table} (hT : SoundT Tryz.prog T) {n : Nat} {todo : List Item} {t0 : List AV} {H H' : List AB} {nd : List Bool} {rs : List ResultVar} {x : Option (List AV × List Bool)} {p : List Bool} (hc : (toLoop Tryz.prog T n todo t0 H).conds p = p)
    (h2 : retOf rs ((toLoop Tryz.prog T n todo t0 H).at p) = some (x, H', nd)) (hn : allT nd = true) : ∃ t, Ends Tryz.prog todo t0 H t H' ∧ resV Tryz.prog t H' rs = x := by
  obtain ⟨t, e1, e2⟩ := retOf_some h2
  have e3 := Res.sel_at p _ hc
  rw [e1] at e3
  exact ⟨t, toLoop_ends hT e3 hn, e2⟩

noncomputable def frC : Code := Tryz.f64.body.getD .skip
noncomputable def frL : List Item := [.code (.loop (cO (cB (cR (cL (cR (cR frC))))))), .inBlock 0, .code (cR (cR (cR frC)))]
noncomputable def frR : List Item := [.inLoop (cO (cB (cR (cL (cR (cR frC)))))), .inBlock 0, .code (cR (cR (cR frC)))]
noncomputable def frT (c : Cd) (i : Nat) : List AV := [.sl false 0 c.off c.len 0, .any, .any, .p true 1 0, .i false .i64 (Int.ofNat i)] ++ List.replicate 33 .any
noncomputable def frN (c : Cd) (i : Nat) : List AV := [.sl false 0 c.off c.len 0, .any, .any, .p true 1 0, .i false .i64 (IntKind.i64.wrap (Int.ofNat i + 1))] ++ List.replicate 33 .any
noncomputable def frM : List Bool := [false, true, true, false, false] ++ List.replicate 33 true
noncomputable def srcZ (c : Cd) (h : Int) : AB := .cells true (.lit [.sl false 0 c.off c.len 0, .i true .i64 0, .i false .u64 h])
noncomputable def fr0 (c : Cd) : Res := toLoop Tryz.prog noT 100 [.code frC] (.sl false 0 c.off c.len 0 :: undefs 37) [codeB c false]
noncomputable def fr1 (c : Cd) (i : Nat) (h : Int) : Res := toLoop Tryz.prog noT 100 frR (frT c i) [codeB c false, srcZ c h]
noncomputable def frH (c : Cd) (i : Nat) (h : Int) : Int := IntKind.u64.wrap (IntKind.u64.wrap (IntKind.u64.wrap (h * 1099511628211) + IntKind.u64.wrap (c.bytes.getD (c.off + (Int.ofNat i).toNat * 1 - c.off) 0)) + 41)

theorem fr0_fin (c : Cd) : (fr0 c).todo = frL ∧ (leafM frM (fr0 c)).map (fun r => (r.1.map AV.bare, r.2)) = some ((frT c 0).map AV.bare, [codeB c false, srcZ c (IntKind.u64.wrap (10331 + IntKind.u64.wrap (Int.ofNat c.len)))], []) := by
  constructor <;> kernel_rfl
theorem fr1_go (c : Cd) (i : Nat) (h : Int) : (fr1 c i h).conds [true, true] = [decide (Int.ofNat i < ↑c.len), decide (Int.ofNat i < 4096)] ∧ ((fr1 c i h).at [true, true]).todo = frR ∧
    leafM frM ((fr1 c i h).at [true, true]) = some (frN c i, [codeB c false, srcZ c (frH c i h)], [decide (c.off ≤ c.off + (Int.ofNat i).toNat * 1), decide (c.off + (Int.ofNat i).toNat * 1 - c.off < c.bytes.length), decide (0 ≤ Int.ofNat i) && decide (Int.ofNat i < ↑c.len)]) := by
  refine ⟨?_, ?_, ?_⟩ <;> kernel_rfl
theorem fr1_end (c : Cd) (i : Nat) (h : Int) : (fr1 c i h).conds [false] = [decide (Int.ofNat i < ↑c.len)] ∧
    retOf Tryz.f64.results.toList ((fr1 c i h).at [false]) = some (some ([.p true 1 0], []), [codeB c false, srcZ c h], []) := by
  refine ⟨?_, ?_⟩ <;> kernel_rfl

theorem fr_from {c : Cd} (hc : goodB c = true) {todoS : List Item} {tS : List AV} {HS : List AB} (L : List Item) (hL : L = frL ∨ L = frR) : ∀ (m : Nat) (i : Nat) (h : Int), i + m = c.len →
    Reach Tryz.prog todoS tS HS L (frT c i) [codeB c false, srcZ c h] → ∃ t h', Ends Tryz.prog todoS tS HS t [codeB c false, srcZ c h'] ∧ resV Tryz.prog t [codeB c false, srcZ c h'] Tryz.f64.results.toList = some ([.p true 1 0], [])
  | 0, i, h, hi, hr => by
    have hi' : i = c.len := by omega
    subst hi'
    obtain ⟨e1, e2⟩ := fr1_end c c.len h
    have hd : decide (Int.ofNat c.len < ↑c.len) = false := by simp
    rw [hd] at e1
    have hend : ∃ t, Ends Tryz.prog L (frT c c.len) [codeB c false, srcZ c h] t [codeB c false, srcZ c h] ∧ resV Tryz.prog t [codeB c false, srcZ c h] Tryz.f64.results.toList = some ([.p true 1 0], []) := by
      rcases hL with rfl | rfl
      · exact ends_leaf (n := 100) hT0 (T := noT) (p := [false]) e1 e2 rfl
      · exact ends_leaf (n := 100) hT0 (T := noT) (p := [false]) e1 e2 rfl
    obtain ⟨t, e3, e4⟩ := hend
    exact ⟨t, h, hr.ends e3, e4⟩
  | m + 1, i, h, hi, hr => by
    obtain ⟨e1, e2, e3⟩ := fr1_go c i h
    have hg := hc
    simp only [goodB, Bool.and_eq_true, decide_eq_true_eq] at hg
    have hd1 : decide (Int.ofNat i < ↑c.len) = true := by simp; omega
    have hd2 : decide (Int.ofNat i < 4096) = true := by simp; omega
    rw [hd1, hd2] at e1
    have hnd : allT [decide (c.off ≤ c.off + (Int.ofNat i).toNat * 1), decide (c.off + (Int.ofNat i).toNat * 1 - c.off < c.bytes.length), decide (0 ≤ Int.ofNat i) && decide (Int.ofNat i < ↑c.len)] = true := by
      simp [allT]; omega
    have hN : frN c i = frT c (i + 1) := by
      unfold frN frT
      have : IntKind.i64.wrap (Int.ofNat i + 1) = Int.ofNat (i + 1) := by rw [wrap64_id] <;> simp <;> omega
      rw [this]
    rw [hN] at e3
    have hstep : Reach Tryz.prog L (frT c i) [codeB c false, srcZ c h] frR (frT c (i + 1)) [codeB c false, srcZ c (frH c i h)] := by
      rcases hL with rfl | rfl
      · exact reach_leaf (n := 100) hT0 (T := noT) (p := [true, true]) e1 e2 e3 hnd
      · exact reach_leaf (n := 100) hT0 (T := noT) (p := [true, true]) e1 e2 e3 hnd
    exact fr_from hc frR (.inr rfl) m (i + 1) _ (by omega) (hr.trans hstep)

theorem from_ok {c : Cd} (hc : goodB c = true) : ∃ h, CallOK Tryz.prog 64 [.sl false 0 c.off c.len 0] [codeB c false] (.p true 1 0) [codeB c false, srcZ c h] := by
  obtain ⟨e1, e2⟩ := fr0_fin c
  cases hr : fr0 c <;> rw [hr] at e1 e2 <;> simp [leafM] at e2
  rename_i todo t H nd
  obtain ⟨e3, rfl, rfl⟩ := e2
  simp only [Res.todo] at e1
  subst e1
  have h0 : Reach Tryz.prog [.code frC] (.sl false 0 c.off c.len 0 :: undefs 37) [codeB c false] frL (frT c 0) [codeB c false, srcZ c (IntKind.u64.wrap (10331 + IntKind.u64.wrap (Int.ofNat c.len)))] := by
    refine ((toLoop_reach (n := 100) (nd := []) hT0 (T := noT) (t' := t) (todo' := frL) ?_ rfl).weak (blur_eqv frM t)).weak (eqv_of_bare ?_)
    · unfold fr0 at hr; rw [hr]; rfl
    · rw [← e3]
  obtain ⟨t', h', e4, e5⟩ := fr_from hc frL (.inl rfl) c.len 0 _ (by omega) h0
  have hb : Tryz.f64.body = some frC := rfl
  exact ⟨h', call_of_ends (args := [.sl false 0 c.off c.len 0]) (m := []) Tryz.func64 hb e4 e5 rfl⟩
end Go.Ax

/- The same run with the temporaries in a tree, which the kernel goes through faster. -/
namespace Go.Ax
open Go

inductive Tm where
  | nil
  | node (v : AV) (l r : Tm)

noncomputable def gt (t : Tm) : Nat → AV :=
  Tm.rec (motive := fun _ => Nat → AV) (fun _ => .tup [])
    (fun v _ _ il ir n => Nat.rec (motive := fun _ => AV) v (fun m _ => Nat.rec (motive := fun _ => AV) (il (Nat.div m 2)) (fun _ _ => ir (Nat.div m 2)) (Nat.mod m 2)) n) t
noncomputable def st (t : Tm) : Nat → AV → Tm :=
  Tm.rec (motive := fun _ => Nat → AV → Tm) (fun _ _ => .nil)
    (fun v l r il ir n x => Nat.rec (motive := fun _ => Tm) (.node x l r) (fun m _ => Nat.rec (motive := fun _ => Tm) (.node v (il (Nat.div m 2) x) r) (fun _ _ => .node v l (ir (Nat.div m 2) x)) (Nat.mod m 2)) n) t
noncomputable def hasT (t : Tm) : Nat → Bool :=
  Tm.rec (motive := fun _ => Nat → Bool) (fun _ => false)
    (fun _ _ _ il ir n => Nat.rec (motive := fun _ => Bool) true (fun m _ => Nat.rec (motive := fun _ => Bool) (il (Nat.div m 2)) (fun _ _ => ir (Nat.div m 2)) (Nat.mod m 2)) n) t

theorem mod2 (m : Nat) : Nat.mod m 2 = 0 ∨ Nat.mod m 2 = 1 := by
  have : m % 2 = 0 ∨ m % 2 = 1 := by omega
  exact this
theorem gt_even {v : AV} {l r : Tm} {m : Nat} (h : Nat.mod m 2 = 0) : gt (.node v l r) (m + 1) = gt l (m / 2) := by
  show Nat.rec (motive := fun _ => AV) (gt l (m / 2)) (fun _ _ => gt r (m / 2)) (Nat.mod m 2) = _
  rw [h]; rfl
theorem gt_odd {v : AV} {l r : Tm} {m : Nat} (h : Nat.mod m 2 = 1) : gt (.node v l r) (m + 1) = gt r (m / 2) := by
  show Nat.rec (motive := fun _ => AV) (gt l (m / 2)) (fun _ _ => gt r (m / 2)) (Nat.mod m 2) = _
  rw [h]; rfl
theorem has_even {v : AV} {l r : Tm} {m : Nat} (h : Nat.mod m 2 = 0) : hasT (.node v l r) (m + 1) = hasT l (m / 2) := by
  show Nat.rec (motive := fun _ => Bool) (hasT l (m / 2)) (fun _ _ => hasT r (m / 2)) (Nat.mod m 2) = _
  rw [h]; rfl
theorem has_odd {v : AV} {l r : Tm} {m : Nat} (h : Nat.mod m 2 = 1) : hasT (.node v l r) (m + 1) = hasT r (m / 2) := by
  show Nat.rec (motive := fun _ => Bool) (hasT l (m / 2)) (fun _ _ => hasT r (m / 2)) (Nat.mod m 2) = _
  rw [h]; rfl
theorem st_even {v x : AV} {l r : Tm} {m : Nat} (h : Nat.mod m 2 = 0) : st (.node v l r) (m + 1) x = .node v (st l (m / 2) x) r := by
  show Nat.rec (motive := fun _ => Tm) (.node v (st l (m / 2) x) r) (fun _ _ => .node v l (st r (m / 2) x)) (Nat.mod m 2) = _
  rw [h]; rfl
theorem st_odd {v x : AV} {l r : Tm} {m : Nat} (h : Nat.mod m 2 = 1) : st (.node v l r) (m + 1) x = .node v l (st r (m / 2) x) := by
  show Nat.rec (motive := fun _ => Tm) (.node v (st l (m / 2) x) r) (fun _ _ => .node v l (st r (m / 2) x)) (Nat.mod m 2) = _
  rw [h]; rfl

theorem half_inj {a b : Nat} (h : Nat.mod a 2 = Nat.mod b 2) : (a / 2 = b / 2) ↔ a = b := by
  have h : a % 2 = b % 2 := h
  omega
theorem st_has (x : AV) : ∀ (t : Tm) (n k : Nat), hasT (st t n x) k = hasT t k
  | .nil, _, _ => rfl
  | .node v l r, 0, 0 => rfl
  | .node v l r, 0, k + 1 => by
    show hasT (.node x l r) (k + 1) = _
    rcases mod2 k with h | h
    · rw [has_even h, has_even h]
    · rw [has_odd h, has_odd h]
  | .node v l r, n + 1, 0 => by
    rcases mod2 n with h | h
    · rw [st_even h]; rfl
    · rw [st_odd h]; rfl
  | .node v l r, n + 1, k + 1 => by
    rcases mod2 n with h | h <;> rcases mod2 k with h' | h'
    · rw [st_even h, has_even h', has_even h', st_has x l]
    · rw [st_even h, has_odd h', has_odd h']
    · rw [st_odd h, has_even h', has_even h']
    · rw [st_odd h, has_odd h', has_odd h', st_has x r]
theorem st_get (x : AV) : ∀ (t : Tm) (n k : Nat), gt (st t n x) k = if k = n ∧ hasT t n = true then x else gt t k
  | .nil, n, k => by
    have : hasT .nil n = false := rfl
    simp [this]; rfl
  | .node v l r, 0, 0 => by
    have : hasT (.node v l r) 0 = true := rfl
    simp [this]; rfl
  | .node v l r, 0, k + 1 => by
    rw [if_neg (by omega)]
    show gt (.node x l r) (k + 1) = _
    rcases mod2 k with h | h
    · rw [gt_even h, gt_even h]
    · rw [gt_odd h, gt_odd h]
  | .node v l r, n + 1, 0 => by
    rw [if_neg (by omega)]
    rcases mod2 n with h | h
    · rw [st_even h]; rfl
    · rw [st_odd h]; rfl
  | .node v l r, n + 1, k + 1 => by
    rcases mod2 n with h | h <;> rcases mod2 k with h' | h'
    · rw [st_even h, gt_even h', st_get x l, gt_even h', has_even h]
      have : (k / 2 = n / 2) ↔ k = n := half_inj (h'.trans h.symm)
      simp [this]
    · rw [st_even h, gt_odd h', if_neg, gt_odd h']
      rintro ⟨e, _⟩
      have : k = n := by omega
      subst this; rw [h] at h'; cases h'
    · rw [st_odd h, gt_even h', if_neg, gt_even h']
      rintro ⟨e, _⟩
      have : k = n := by omega
      subst this; rw [h] at h'; cases h'
    · rw [st_odd h, gt_odd h', st_get x r, gt_odd h', has_odd h]
      have : (k / 2 = n / 2) ↔ k = n := half_inj (h'.trans h.symm)
      simp [this]

/-- A tree and a list that say the same. -/
structure R (τ : Tm) (t : List AV) : Prop where
  get : ∀ n, gt τ n = getL t n
  has : ∀ n, hasT τ n = decide (n < t.length)
theorem getL_setL (t : List AV) (d : Nat) (v : AV) (n : Nat) : getL (setL t d v) n = if n = d ∧ d < t.length then v else getL t n := by
  rw [getL_eq, getL_eq, setL_eq, List.getD_eq_getElem?_getD, List.getD_eq_getElem?_getD]
  by_cases h : n = d
  · subst h
    by_cases h2 : n < t.length
    · simp [h2]
    · simp [h2]
  · rw [List.getElem?_set_ne (Ne.symm h), if_neg (fun e => h e.1)]
theorem R.set {τ : Tm} {t : List AV} (h : R τ t) (d : Nat) (v : AV) : R (st τ d v) (setL t d v) :=
  ⟨fun n => by rw [st_get, getL_setL, h.has, h.get]; simp, fun n => by rw [st_has, h.has, setL_eq, List.length_set]⟩
noncomputable def putB (t : Tm) (d : Option Nat) (v : AV) : Tm :=
  match d with
  | some n => st t n v
  | none => t
theorem R.put {τ : Tm} {t : List AV} (h : R τ t) (d : Option Nat) (v : AV) : R (putB τ d v) (putT t d v) := by
  cases d with
  | none => exact h
  | some n => exact h.set n v
noncomputable def evB (t : Tm) : Operand → AV
  | .tmp n => gt t n
  | .const v => (ofV v).getD (.tup [])
  | .global _ => .tup []
  | .func f => .fn f [] []
theorem R.ev {τ : Tm} {t : List AV} (h : R τ t) : evB τ = evA t := funext fun o => by
  cases o with
  | tmp n => exact h.get n
  | _ => rfl

abbrev KB := Tm → List AB → List Bool → Res
def KR (K : KB) (K' : KT) : Prop := ∀ τ t H nd, R τ t → K τ H nd = K' t H nd

section
variable (P : Program) (T : Table)
noncomputable def bStepA (op : Op) (d : Option Nat) (t : Tm) (H : List AB) (nd : List Bool) (K : KB) : Res :=
  match aop P op (evB t) H with
  | some (v, n) => K (putB t d v) H (n ++ nd)
  | none => match eop P op (evB t) H with
    | some (v, H', n) => K (putB t d v) H' (n ++ nd)
    | none => .fail
noncomputable def bStepOp (o : Oper) (t : Tm) (H : List AB) (nd : List Bool) (K : KB) : Res :=
  if o.op.operands.all okOpd then
    match o.op with
    | .call c =>
      match aCall c (evB t) with
      | some (g, args) =>
        match P.funcs[g]? with
        | some fn =>
          match fn.body with
          | some _ =>
            match fn.name == "runtime.NumGoroutine" with
            | true => .fail
            | false => T g args H nd fun v H' nd' => K (putB t o.dst v) H' nd'
          | none => match aExtern fn args with
            | some v => K (putB t o.dst v) H nd
            | none => .fail
        | none => .fail
      | none => bStepA P o.op o.dst t H nd K
    | op => bStepA P op o.dst t H nd K
  else .fail
noncomputable def bStepAQ (op : Op) (d : Option Nat) (t : Tm) (H : List AB) (nd : List Bool) (K : Tm → List Bool → Res) : Res :=
  match aop P op (evB t) H with
  | some (v, n) => K (putB t d v) (n ++ nd)
  | none => .fail
noncomputable def bStepQ (o : Oper) (t : Tm) (H : List AB) (nd : List Bool) (K : Tm → List Bool → Res) : Res :=
  if o.op.operands.all okOpd then
    match o.op with
    | .call c =>
      match aCall c (evB t) with
      | some (g, args) =>
        match P.funcs[g]? with
        | some fn =>
          match fn.body with
          | some _ =>
            match fn.name == "runtime.NumGoroutine" with
            | true => .fail
            | false => T g args (roH H) nd fun v _ nd' => match below H.length v with
              | true => K (putB t o.dst v) nd'
              | false => .fail
          | none => match aExtern fn args with
            | some v => K (putB t o.dst v) nd
            | none => .fail
        | none => .fail
      | none => bStepAQ P o.op o.dst t H nd K
    | op => bStepAQ P op o.dst t H nd K
  else .fail
noncomputable def bGuarded (ops : Array Oper) (o : Oper) (t : Tm) (yes no : Tm → Res) : Res :=
  match o.guard with
  | none => yes t
  | some (j, want) =>
    match gDst ops j with
    | none => .fail
    | some d =>
      match gt t d with
      | .b l x =>
        match l with
        | true => match x with
          | true => match want with
            | true => yes t
            | false => no t
          | false => match want with
            | true => no t
            | false => yes t
        | false => match want with
          | true => .ite x (yes (st t d (.b true true))) (no (st t d (.b true false)))
          | false => .ite x (no (st t d (.b true true))) (yes (st t d (.b true false)))
      | .tup [] => no t
      | _ => .fail
noncomputable def bRunOps (ops : Array Oper) : List Oper → Tm → List AB → List Bool → KB → Res
  | [], t, H, nd, K => K t H nd
  | o :: rest, t, H, nd, K =>
    bGuarded ops o t
      (fun t => bStepOp P T o t H nd fun t H nd => bRunOps ops rest t H nd K)
      (fun t => bRunOps ops rest (putB t o.dst (.tup [])) H nd K)
noncomputable def bRunQ (ops : Array Oper) : List Oper → Tm → List AB → List Bool → (Tm → List Bool → Res) → Res
  | [], t, _, nd, K => K t nd
  | o :: rest, t, H, nd, K =>
    bGuarded ops o t
      (fun t => bStepQ P T o t H nd fun t nd => bRunQ ops rest t H nd K)
      (fun t => bRunQ ops rest (putB t o.dst (.tup [])) H nd K)
noncomputable def bRunRegion (ops : Array Oper) (draw : Bool) (t : Tm) (H : List AB) (nd : List Bool) (K : KB) : Res :=
  match draw with
  | false => bRunOps P T ops ops.toList t H nd K
  | true =>
    match P.follows .mixedOrders && drawOK ops (qN ops) with
    | true => bRunQ P T ops (ops.toList.take (qN ops)) t H nd fun t nd => bRunOps P T ops (ops.toList.drop (qN ops)) t H nd K
    | false => .fail
noncomputable def bRun : Nat → List Item → Tm → List AB → List Bool → KB → Res
  | 0, _, _, _, _, _ => .fail
  | n + 1, todo, t, H, nd, K =>
    match todo with
    | [] => K t H nd
    | .inBlock _ :: k => bRun n k t H nd K
    | .inLoop c :: k => bRun n (.code c :: .inLoop c :: k) t H nd K
    | .code c :: k =>
      match c with
      | .skip => bRun n k t H nd K
      | .label _ => bRun n k t H nd K
      | .ret => K t H nd
      | .seq a b => bRun n (.code a :: .code b :: k) t H nd K
      | .cond c a b =>
        match okOpd c, evB t c with
        | true, .b l x => match l with
          | true => match x with
            | true => bRun n (.code a :: k) t H nd K
            | false => bRun n (.code b :: k) t H nd K
          | false => .ite x (bRun n (.code a :: k) t H nd K) (bRun n (.code b :: k) t H nd K)
        | _, _ => .fail
      | .block id c => bRun n (.code c :: .inBlock id :: k) t H nd K
      | .loop c => bRun n (.code c :: .inLoop c :: k) t H nd K
      | .exit id => match exitTo id k with
        | some k' => bRun n k' t H nd K
        | none => .fail
      | .region _ ops draw => bRunRegion P T ops draw t H nd fun t H nd => bRun n k t H nd K
      | _ => .fail
    | _ => .fail
noncomputable def bRunS (stop : List Item → Bool) : Nat → List Item → Tm → List AB → List Bool → KB → (List Item → KB) → Res
  | 0, _, _, _, _, _, _ => .fail
  | n + 1, todo, t, H, nd, KE, KS =>
    let next : List Item → Tm → List AB → List Bool → Res := fun k t H nd => match stop k with
      | true => KS k t H nd
      | false => bRunS stop n k t H nd KE KS
    match todo with
    | [] => KE t H nd
    | .inBlock _ :: k => next k t H nd
    | .inLoop c :: k => next (.code c :: .inLoop c :: k) t H nd
    | .code c :: k =>
      match c with
      | .skip => next k t H nd
      | .label _ => next k t H nd
      | .ret => KE t H nd
      | .seq a b => next (.code a :: .code b :: k) t H nd
      | .cond c a b =>
        match okOpd c, evB t c with
        | true, .b l x => match l with
          | true => match x with
            | true => next (.code a :: k) t H nd
            | false => next (.code b :: k) t H nd
          | false => .ite x (next (.code a :: k) t H nd) (next (.code b :: k) t H nd)
        | _, _ => .fail
      | .block id c => next (.code c :: .inBlock id :: k) t H nd
      | .loop c => next (.code c :: .inLoop c :: k) t H nd
      | .exit id => match exitTo id k with
        | some k' => next k' t H nd
        | none => .fail
      | .region _ ops draw => bRunRegion P T ops draw t H nd fun t H nd => next k t H nd
      | _ => .fail
    | _ => .fail
end

section
variable {P : Program} {T : Table}
theorem bStepA_eq {op : Op} {d : Option Nat} {τ : Tm} {t : List AV} {H : List AB} {nd : List Bool} {K : KB} {K' : KT} (h : R τ t) (hK : KR K K') : bStepA P op d τ H nd K = stepA P op d t H nd K' := by
  unfold bStepA stepA
  rw [h.ev]
  cases aop P op (evA t) H with
  | some x => exact hK _ _ _ _ (h.put d x.1)
  | none =>
    dsimp only
    cases eop P op (evA t) H with
    | some x => exact hK _ _ _ _ (h.put d x.1)
    | none => rfl
theorem bStepOp_eq {o : Oper} {τ : Tm} {t : List AV} {H : List AB} {nd : List Bool} {K : KB} {K' : KT} (h : R τ t) (hK : KR K K') : bStepOp P T o τ H nd K = stepOp P T o t H nd K' := by
  unfold bStepOp stepOp
  split
  case isFalse => rfl
  cases hop : o.op
  case call c =>
    dsimp only
    rw [h.ev]
    cases aCall c (evA t) with
    | none => exact bStepA_eq h hK
    | some x =>
      obtain ⟨g, args⟩ := x
      dsimp only
      cases P.funcs[g]? with
      | none => rfl
      | some fn =>
        dsimp only
        cases fn.body with
        | none =>
          dsimp only
          cases aExtern fn args with
          | none => rfl
          | some v => exact hK _ _ _ _ (h.put _ _)
        | some c =>
          dsimp only
          cases (fn.name == "runtime.NumGoroutine")
          · show T g args H nd _ = T g args H nd _
            congr 1
            funext v H' nd'
            exact hK _ _ _ _ (h.put _ _)
          · rfl
  all_goals exact bStepA_eq h hK
theorem bStepAQ_eq {op : Op} {d : Option Nat} {τ : Tm} {t : List AV} {H : List AB} {nd : List Bool} {K : Tm → List Bool → Res} {K' : List AV → List Bool → Res} (h : R τ t) (hK : ∀ τ t nd, R τ t → K τ nd = K' t nd) : bStepAQ P op d τ H nd K = stepAQ P op d t H nd K' := by
  unfold bStepAQ stepAQ
  rw [h.ev]
  cases aop P op (evA t) H with
  | some x => exact hK _ _ _ (h.put d x.1)
  | none => rfl
theorem bStepQ_eq {o : Oper} {τ : Tm} {t : List AV} {H : List AB} {nd : List Bool} {K : Tm → List Bool → Res} {K' : List AV → List Bool → Res} (h : R τ t) (hK : ∀ τ t nd, R τ t → K τ nd = K' t nd) : bStepQ P T o τ H nd K = stepQ P T o t H nd K' := by
  unfold bStepQ stepQ
  split
  case isFalse => rfl
  cases hop : o.op
  case call c =>
    dsimp only
    rw [h.ev]
    cases aCall c (evA t) with
    | none => exact bStepAQ_eq h hK
    | some x =>
      obtain ⟨g, args⟩ := x
      dsimp only
      cases P.funcs[g]? with
      | none => rfl
      | some fn =>
        dsimp only
        cases fn.body with
        | none =>
          dsimp only
          cases aExtern fn args with
          | none => rfl
          | some v => exact hK _ _ _ (h.put _ _)
        | some c =>
          dsimp only
          cases (fn.name == "runtime.NumGoroutine")
          · show T g args (roH H) nd _ = T g args (roH H) nd _
            congr 1
            funext v H' nd'
            cases below H.length v
            · rfl
            · exact hK _ _ _ (h.put _ _)
          · rfl
  all_goals exact bStepAQ_eq h hK
theorem bGuarded_eq {ops : Array Oper} {o : Oper} {τ : Tm} {t : List AV} {yes no : Tm → Res} {yes' no' : List AV → Res} (h : R τ t) (hy : ∀ τ t, R τ t → yes τ = yes' t) (hn : ∀ τ t, R τ t → no τ = no' t) : bGuarded ops o τ yes no = guarded ops o t yes' no' := by
  unfold bGuarded guarded
  cases o.guard with
  | none => exact hy _ _ h
  | some g =>
    obtain ⟨j, want⟩ := g
    dsimp only
    cases gDst ops j with
    | none => rfl
    | some d =>
      dsimp only
      rw [h.get]
      have hy2 := fun v => hy _ _ (h.set d v)
      have hn2 := fun v => hn _ _ (h.set d v)
      cases getL t d
      case b l x =>
        cases l <;> cases x <;> cases want <;> dsimp only <;> first | exact hy _ _ h | exact hn _ _ h | (rw [hy2, hn2])
      case tup l =>
        cases l with
        | nil => exact hn _ _ h
        | cons _ _ => rfl
      all_goals rfl
theorem bRunOps_eq {ops : Array Oper} {K : KB} {K' : KT} (hK : KR K K') : ∀ (l : List Oper) (τ : Tm) (t : List AV) (H : List AB) (nd : List Bool), R τ t → bRunOps P T ops l τ H nd K = runOps P T ops l t H nd K'
  | [], τ, t, H, nd, h => hK _ _ _ _ h
  | o :: rest, τ, t, H, nd, h => by
    unfold bRunOps runOps
    exact bGuarded_eq h (fun τ t h => bStepOp_eq h fun τ t H nd h => bRunOps_eq hK rest τ t H nd h) (fun τ t h => bRunOps_eq hK rest _ _ H nd (h.put _ _))
theorem bRunQ_eq {ops : Array Oper} {K : Tm → List Bool → Res} {K' : List AV → List Bool → Res} (hK : ∀ τ t nd, R τ t → K τ nd = K' t nd) : ∀ (l : List Oper) (τ : Tm) (t : List AV) (H : List AB) (nd : List Bool), R τ t → bRunQ P T ops l τ H nd K = runQ P T ops l t H nd K'
  | [], τ, t, H, nd, h => hK _ _ _ h
  | o :: rest, τ, t, H, nd, h => by
    unfold bRunQ runQ
    exact bGuarded_eq h (fun τ t h => bStepQ_eq h fun τ t nd h => bRunQ_eq hK rest τ t H nd h) (fun τ t h => bRunQ_eq hK rest _ _ H nd (h.put _ _))
theorem bRunRegion_eq {ops : Array Oper} {draw : Bool} {τ : Tm} {t : List AV} {H : List AB} {nd : List Bool} {K : KB} {K' : KT} (h : R τ t) (hK : KR K K') : bRunRegion P T ops draw τ H nd K = runRegion P T ops draw t H nd K' := by
  unfold bRunRegion runRegion
  cases draw with
  | false => exact bRunOps_eq hK _ _ _ _ _ h
  | true =>
    dsimp only
    cases (P.follows .mixedOrders && drawOK ops (qN ops)) with
    | true =>
      dsimp only
      refine bRunQ_eq ?_ _ _ _ _ _ h
      intro τ t nd h
      exact bRunOps_eq hK _ _ _ _ _ h
    | false => rfl
theorem bRun_eq {K : KB} {K' : KT} (hK : KR K K') : ∀ (n : Nat) (todo : List Item) (τ : Tm) (t : List AV) (H : List AB) (nd : List Bool), R τ t → bRun P T n todo τ H nd K = run P T n todo t H nd K'
  | 0, _, _, _, _, _, _ => rfl
  | n + 1, todo, τ, t, H, nd, h => by
    have ih := bRun_eq hK n
    unfold bRun run
    cases todo with
    | nil => exact hK _ _ _ _ h
    | cons i k =>
      cases i
      case inBlock => exact ih _ _ _ _ _ h
      case inLoop => exact ih _ _ _ _ _ h
      case code c =>
        cases c
        case skip => exact ih _ _ _ _ _ h
        case label => exact ih _ _ _ _ _ h
        case ret => exact hK _ _ _ _ h
        case seq => exact ih _ _ _ _ _ h
        case block => exact ih _ _ _ _ _ h
        case loop => exact ih _ _ _ _ _ h
        case exit id =>
          dsimp only
          cases exitTo id k with
          | some k' => exact ih _ _ _ _ _ h
          | none => rfl
        case region ops draw => exact bRunRegion_eq h fun τ t H nd h => ih _ _ _ _ _ h
        case cond c a b =>
          dsimp only
          rw [h.ev]
          cases okOpd c with
          | false => cases evA t c <;> rfl
          | true =>
            cases evA t c
            case b l x =>
              cases l with
              | true => cases x <;> exact ih _ _ _ _ _ h
              | false =>
                exact (show Res.ite x _ _ = Res.ite x _ _ from congr (congrArg (Res.ite x) (ih _ _ _ _ _ h)) (ih _ _ _ _ _ h))
            all_goals rfl
        all_goals rfl
      all_goals rfl
theorem bRunS_eq {stop : List Item → Bool} {K : KB} {K' : KT} {S : List Item → KB} {S' : List Item → KT} (hK : KR K K') (hS : ∀ k, KR (S k) (S' k)) : ∀ (n : Nat) (todo : List Item) (τ : Tm) (t : List AV) (H : List AB) (nd : List Bool), R τ t → bRunS P T stop n todo τ H nd K S = runS P T stop n todo t H nd K' S'
  | 0, _, _, _, _, _, _ => rfl
  | n + 1, todo, τ, t, H, nd, h => by
    have ih : ∀ (k : List Item) (τ : Tm) (t : List AV) (H : List AB) (nd : List Bool), R τ t → (match stop k with
        | true => S k τ H nd
        | false => bRunS P T stop n k τ H nd K S) = (match stop k with
        | true => S' k t H nd
        | false => runS P T stop n k t H nd K' S') := fun k τ t H nd h => by
      split
      · exact hS k _ _ _ _ h
      · exact bRunS_eq hK hS n _ _ _ _ _ h
    unfold bRunS runS
    dsimp only
    cases todo with
    | nil => exact hK _ _ _ _ h
    | cons i k =>
      cases i
      case inBlock => exact ih _ _ _ _ _ h
      case inLoop => exact ih _ _ _ _ _ h
      case code c =>
        cases c
        case skip => exact ih _ _ _ _ _ h
        case label => exact ih _ _ _ _ _ h
        case ret => exact hK _ _ _ _ h
        case seq => exact ih _ _ _ _ _ h
        case block => exact ih _ _ _ _ _ h
        case loop => exact ih _ _ _ _ _ h
        case exit id =>
          dsimp only
          cases exitTo id k with
          | some k' => exact ih _ _ _ _ _ h
          | none => rfl
        case region ops draw => exact bRunRegion_eq h fun τ t H nd h => ih _ _ _ _ _ h
        case cond c a b =>
          dsimp only
          rw [h.ev]
          cases okOpd c with
          | false => cases evA t c <;> rfl
          | true =>
            cases evA t c
            case b l x =>
              cases l with
              | true => cases x <;> exact ih _ _ _ _ _ h
              | false =>
                exact (show Res.ite x _ _ = Res.ite x _ _ from congr (congrArg (Res.ite x) (ih _ _ _ _ _ h)) (ih _ _ _ _ _ h))
            all_goals rfl
        all_goals rfl
      all_goals rfl
end

/-! ### Trees out of lists -/
/-- n places. -/
def mkT : Nat → Nat → Tm
  | 0, _ => .nil
  | _ + 1, 0 => .nil
  | f + 1, n + 1 => .node (.tup []) (mkT f (Nat.div (Nat.succ n) 2)) (mkT f (Nat.div n 2))
theorem mkT_has : ∀ (f n k : Nat), n ≤ f → hasT (mkT f n) k = decide (k < n)
  | 0, n, k, h => by
    have : n = 0 := by omega
    subst this; simp; rfl
  | f + 1, 0, k, h => by simp; rfl
  | f + 1, n + 1, 0, h => by simp; rfl
  | f + 1, n + 1, k + 1, h => by
    have e1 : Nat.div (Nat.succ n) 2 = (n + 1) / 2 := rfl
    have e2 : Nat.div n 2 = n / 2 := rfl
    unfold mkT
    rw [e1, e2]
    rcases mod2 k with h' | h'
    · rw [has_even h', mkT_has f _ _ (by omega)]
      have h' : k % 2 = 0 := h'
      have : (k / 2 < (n + 1) / 2) ↔ k + 1 < n + 1 := by omega
      simp [this]
    · rw [has_odd h', mkT_has f _ _ (by omega)]
      have h' : k % 2 = 1 := h'
      have : (k / 2 < n / 2) ↔ k + 1 < n + 1 := by omega
      simp [this]
theorem mkT_get : ∀ (f n k : Nat), gt (mkT f n) k = .tup []
  | 0, n, k => rfl
  | f + 1, 0, k => rfl
  | f + 1, n + 1, 0 => rfl
  | f + 1, n + 1, k + 1 => by
    unfold mkT
    rcases mod2 k with h' | h'
    · rw [gt_even h', mkT_get]
    · rw [gt_odd h', mkT_get]
theorem mkT_R (f n : Nat) (h : n ≤ f) : R (mkT f n) (undefs n) := by
  have e1 : ∀ n, (undefs n).length = n := fun n => by induction n with
    | zero => rfl
    | succ n ih => simp [undefs, ih]
  have e2 : ∀ n k, getL (undefs n) k = .tup [] := fun n => by induction n with
    | zero => intro k; rfl
    | succ n ih => intro k; cases k with
      | zero => rfl
      | succ k => exact ih k
  exact ⟨fun k => by rw [mkT_get, e2], fun k => by rw [mkT_has f n k h, e1]⟩
noncomputable def stAll : Tm → Nat → List AV → Tm
  | t, _, [] => t
  | t, i, a :: l => stAll (st t i a) (Nat.succ i) l
theorem stAll_R : ∀ (l : List AV) (τ : Tm) (t : List AV) (i : Nat), R τ t → R (stAll τ i l) (setAll t i l)
  | [], _, _, _, h => h
  | a :: l, _, _, i, h => stAll_R l _ _ (i + 1) (h.set i a)
theorem setAll_prefix : ∀ (l p t : List AV), l.length ≤ t.length → setAll (p ++ t) p.length l = p ++ l ++ t.drop l.length
  | [], p, t, h => by simp [setAll]
  | a :: l, p, [], h => by simp at h
  | a :: l, p, b :: t, h => by
    have e : setL (p ++ b :: t) p.length a = (p ++ [a]) ++ t := by
      rw [setL_eq]; simp
    have := setAll_prefix l (p ++ [a]) t (by simpa using h)
    rw [show (p ++ [a]).length = p.length + 1 by simp] at this
    simp only [setAll, e, this]
    simp
theorem args_list (l : List AV) (n : Nat) (h : l.length ≤ n) : setAll (undefs n) 0 l = l ++ undefs (n - l.length) := by
  have e1 : ∀ n, (undefs n).length = n := fun n => by induction n with
    | zero => rfl
    | succ n ih => simp [undefs, ih]
  have e2 : ∀ k n, (undefs n).drop k = undefs (n - k) := fun k => by induction k with
    | zero => intro n; simp
    | succ k ih => intro n; cases n with
      | zero => simp [undefs]
      | succ n => rw [show n + 1 - (k + 1) = n - k by omega, ← ih n]; rfl
  have := setAll_prefix l [] (undefs n) (by rw [e1]; exact h)
  simpa [e2] using this
/-- A list as a tree. -/
noncomputable def ofL (l : List AV) : Tm := stAll (mkT l.length l.length) 0 l
theorem ofL_R (l : List AV) : R (ofL l) l := by
  have := stAll_R l _ _ 0 (mkT_R l.length l.length (Nat.le_refl _))
  rw [args_list l l.length (Nat.le_refl _)] at this
  simp only [Nat.sub_self, undefs, List.append_nil] at this
  exact this
/-- The first n places as a list. -/
noncomputable def toL (t : Tm) : Nat → Nat → List AV
  | 0, _ => []
  | n + 1, i => gt t i :: toL t n (Nat.succ i)
theorem toL_drop {τ : Tm} {t : List AV} (h : R τ t) : ∀ (n i : Nat), i + n = t.length → toL τ n i = t.drop i
  | 0, i, hi => by rw [List.drop_of_length_le (by omega)]; rfl
  | n + 1, i, hi => by
    rw [toL, h.get, toL_drop h n (i + 1) (by omega), getL_eq, List.drop_eq_getElem_cons (i := i) (by omega)]
    simp [show i < t.length by omega]
theorem toL_eq {τ : Tm} {t : List AV} (h : R τ t) : toL τ t.length 0 = t := toL_drop h t.length 0 (by omega)

section
variable (P : Program) (T : Table)
noncomputable def resB (P : Program) (t : Tm) (H : List AB) : List ResultVar → Option (List AV × List Bool)
  | [] => some ([], [])
  | .tmp d :: l => match resB P t H l with
    | some (vs, n) => some (gt t d :: vs, n)
    | none => none
  | .cell a ty :: l => match aLoad P ty (gt t a) H, resB P t H l with
    | some (v, m), some (vs, n) => some (v :: vs, m ++ n)
    | _, _ => none
theorem resB_eq {τ : Tm} {t : List AV} (h : R τ t) (H : List AB) : ∀ (l : List ResultVar), resB P τ H l = resV P t H l
  | [] => rfl
  | .tmp d :: l => by unfold resB resV; rw [resB_eq h H l, h.get]; rfl
  | .cell a ty :: l => by unfold resB resV; rw [resB_eq h H l, h.get]; rfl
noncomputable def retB (fn : Func) (K : KF) : KB := fun t H nd =>
  match resB P t H fn.results.toList with
  | some (vs, n) => K (tupV vs) H (n ++ nd)
  | none => .fail
/-- Like 'runF'. -/
noncomputable def bRunF (n : Nat) : Table := fun f args H nd K =>
  match P.funcs[f]? with
  | some fn => match fn.body with
    | some c => match Nat.ble args.length fn.ntmps with
      | true => bRun P T n [.code c] (stAll (mkT fn.ntmps fn.ntmps) 0 args) H nd (retB P fn K)
      | false => .fail
    | none => .fail
  | none => .fail
end
theorem bRunF_sound {P : Program} {T : Table} (hT : SoundT P T) (n : Nat) : SoundT P (bRunF P T n) := by
  intro f args H nd K
  unfold bRunF
  split
  case h_2 => exact .inl rfl
  rename_i fn hf
  split
  case h_2 => exact .inl rfl
  rename_i c hc
  split
  case h_2 => exact .inl rfl
  rename_i hle
  have hle := Nat.le_of_ble_eq_true hle
  have hR := stAll_R args _ _ 0 (mkT_R fn.ntmps fn.ntmps (Nat.le_refl _))
  rw [args_list args fn.ntmps hle] at hR
  have hK : KR (retB P fn K) (retK P fn K) := fun τ t H nd h => by
    unfold retB retK
    rw [resB_eq P h]
    rfl
  have := runF_sound hT n f args H nd K
  unfold runF at this
  rw [hf] at this
  simp only [hc] at this
  rw [bRun_eq hK n _ _ _ H nd hR]
  exact this

/-- Like 'deep'. -/
noncomputable def bdeep (P : Program) (l : List (FuncId × Table)) (inl : List FuncId) (n : Nat) : Nat → Table
  | 0 => noT
  | d + 1 => look l fun f args H nd K => match inl.any (Nat.beq f) with
    | true => bRunF P (bdeep P l inl n d) n f args H nd K
    | false => quiet (bRunF P (bdeep P l inl n d) n) f args H nd K
theorem bdeep_sound {P : Program} {l : List (FuncId × Table)} {inl : List FuncId} {n : Nat} (h : ∀ p ∈ l, SoundAt P p.1 p.2) : ∀ d, SoundT P (bdeep P l inl n d)
  | 0 => noT_sound P
  | d + 1 => look_sound (fun f args H nd K => by
      have ih := bRunF_sound (bdeep_sound (inl := inl) (n := n) h d) n
      split
      · exact ih f args H nd K
      · exact quiet_sound ih f args H nd K) h
noncomputable def lenT (t : Tm) : Nat := Tm.rec (motive := fun _ => Nat) 0 (fun _ _ _ a b => Nat.succ (Nat.add a b)) t
theorem lenT_eq : ∀ (τ : Tm) (n : Nat), (∀ k, hasT τ k = decide (k < n)) → lenT τ = n
  | .nil, n, h => by
    have h0 := h 0
    have h1 : hasT .nil 0 = false := rfl
    rw [h1] at h0
    show 0 = n
    simp at h0; omega
  | .node v l r, n, h => by
    have h0 := h 0
    have h1 : hasT (.node v l r) 0 = true := rfl
    rw [h1] at h0
    simp at h0
    have hl := lenT_eq l (n / 2) fun k => by
      have e : Nat.mod (2 * k) 2 = 0 := by show 2 * k % 2 = 0; omega
      have := h (2 * k + 1)
      rw [has_even e, show 2 * k / 2 = k by omega] at this
      rw [this]
      have : (2 * k + 1 < n) ↔ k < n / 2 := by omega
      simp [this]
    have hr := lenT_eq r ((n - 1) / 2) fun k => by
      have e : Nat.mod (2 * k + 1) 2 = 1 := by show (2 * k + 1) % 2 = 1; omega
      have := h (2 * k + 1 + 1)
      rw [has_odd e, show (2 * k + 1) / 2 = k by omega] at this
      rw [this]
      have : (2 * k + 1 + 1 < n) ↔ k < (n - 1) / 2 := by omega
      simp [this]
    show lenT l + lenT r + 1 = n
    omega
theorem R.len {τ : Tm} {t : List AV} (h : R τ t) : lenT τ = t.length := lenT_eq τ _ h.has
noncomputable def listT (t : Tm) : List AV := toL t (lenT t) 0
theorem R.list {τ : Tm} {t : List AV} (h : R τ t) : listT τ = t := by
  unfold listT; rw [h.len]; exact toL_eq h
/-- Like 'toLoop', to any place. -/
noncomputable def upto (P : Program) (T : Table) (stop : List Item → Bool) (n : Nat) (todo : List Item) (t : List AV) (H : List AB) : Res :=
  bRunS P T stop n todo (ofL t) H [] (fun τ H nd => .ret (.tup (listT τ)) H nd) (fun todo τ H nd => .stop todo (listT τ) H nd)
theorem upto_eq {P : Program} {T : Table} {stop : List Item → Bool} (n : Nat) (todo : List Item) (t : List AV) (H : List AB) :
    upto P T stop n todo t H = runS P T stop n todo t H [] (fun t H nd => .ret (.tup t) H nd) (fun todo t H nd => .stop todo t H nd) :=
  bRunS_eq (fun τ t H nd h => by rw [h.list]) (fun k τ t H nd h => by rw [h.list]) n todo _ t H [] (ofL_R t)
theorem upto_reach {P : Program} {T : Table} {stop : List Item → Bool} {n : Nat} {todo todo' : List Item} {t t' : List AV} {H H' : List AB} {nd : List Bool} (hT : SoundT P T) (h : (upto P T stop n todo t H).sel = .stop todo' t' H' nd) (hn : allT nd = true) : Reach P todo t H todo' t' H' := by
  rw [upto_eq] at h
  rcases runS_sound (stop := stop) hT (fun t H nd => .ret (.tup t) H nd) (fun todo t H nd => .stop todo t H nd) n todo t H [] with h1 | ⟨t1, H1, nd1, h1, h2⟩ | ⟨todo1, t1, H1, nd1, h1, h2⟩
  · rw [h] at h1; cases h1
  · rw [h] at h1; cases h1
  · rw [h] at h1; cases h1
    exact (h2 hn).2
theorem upto_ends {P : Program} {T : Table} {stop : List Item → Bool} {n : Nat} {todo : List Item} {t t' : List AV} {H H' : List AB} {nd : List Bool} (hT : SoundT P T) (h : (upto P T stop n todo t H).sel = .ret (.tup t') H' nd) (hn : allT nd = true) : Ends P todo t H t' H' := by
  rw [upto_eq] at h
  rcases runS_sound (stop := stop) hT (fun t H nd => .ret (.tup t) H nd) (fun todo t H nd => .stop todo t H nd) n todo t H [] with h1 | ⟨t1, H1, nd1, h1, h2⟩ | ⟨todo1, t1, H1, nd1, h1, h2⟩
  · rw [h] at h1; cases h1
  · rw [h] at h1; cases h1
    exact (h2 hn).2
  · rw [h] at h1; cases h1
end Go.Ax
