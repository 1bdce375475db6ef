/- Functions that hand out numbers from a source of numbers. -/
import Derived.Test.YtdcjjibekhcplaaEac
namespace Go.Ax
open Go

/-- The text of bytes that numbers follow from: a block's bytes, where the slice begins, how long it is. -/
structure Cd where
  bytes : List Int
  off : Nat
  len : Nat
def goodB (c : Cd) : Bool := decide (c.len ≤ c.bytes.length) && decide (c.len ≤ 4096) && c.bytes.all fun b => decide (0 ≤ b) && decide (b < 256)
def okB (c : Cd) (o n : Nat) : Bool := goodB c && decide (o = c.off) && decide (n = c.len)
def codeB (c : Cd) (_ : Bool) : AB := .code c.off c.bytes
def srcR (o n : Nat) (a : Nat) (h : Int) : AB := .cells true (.lit [.sl false 0 o n 0, .i false .i64 (Int.ofNat a), .i false .u64 h])
def srcB (c : Cd) (a : Nat) (h : Int) : AB := .cells true (.lit [.sl false 0 c.off c.len 0, .i false .i64 (Int.ofNat a), .i false .u64 h])

def readI64 : AV → Option Nat
  | .i _ .i64 (Int.ofNat a) => some a
  | _ => none
def readU64 : AV → Option Int
  | .i _ .u64 h => some h
  | _ => none
def readSl : AV → Option (Nat × Nat)
  | .sl _ id off len z => match decide (id = 0) && decide (z = 0) with
    | true => some (off, len)
    | false => none
  | _ => none
def readSrc3 : List AV → Option (Nat × Nat × Nat × Int)
  | [s, a, h] => match readSl s, readI64 a, readU64 h with
    | some (off, len), some a, some h => some (off, len, a, h)
    | _, _, _ => none
  | _ => none
def readSrc : AB → Option (Nat × Nat × Nat × Int)
  | .cells true (.lit l) => readSrc3 l
  | _ => none
def readCode : AB → Option (Nat × List Int)
  | .code o b => some (o, b)
  | _ => none

theorem readSrc_spec {B : AB} {off len a : Nat} {h : Int} (e : readSrc B = some (off, len, a, h)) : ∃ l1 l2 l3, B = .cells true (.lit [.sl l1 0 off len 0, .i l2 .i64 (Int.ofNat a), .i l3 .u64 h]) := by
  unfold readSrc at e
  split at e <;> (try (cases e; done))
  rename_i l
  unfold readSrc3 at e
  split at e <;> (try (cases e; done))
  rename_i s a' h'
  split at e <;> (try (cases e; done))
  rename_i off' len' a'' h'' h1 h2 h3
  cases e
  have e1 : ∃ l1, s = .sl l1 0 off len 0 := by
    unfold readSl at h1
    split at h1 <;> (try (cases h1; done))
    split at h1 <;> cases h1
    rename_i hh
    simp at hh
    obtain ⟨rfl, rfl⟩ := hh
    exact ⟨_, rfl⟩
  have e2 : ∃ l2, a' = .i l2 .i64 (Int.ofNat a) := by
    unfold readI64 at h2
    split at h2 <;> cases h2
    exact ⟨_, rfl⟩
  have e3 : ∃ l3, h' = .i l3 .u64 h := by
    unfold readU64 at h3
    split at h3 <;> cases h3
    exact ⟨_, rfl⟩
  obtain ⟨l1, rfl⟩ := e1
  obtain ⟨l2, rfl⟩ := e2
  obtain ⟨l3, rfl⟩ := e3
  exact ⟨l1, l2, l3, rfl⟩
theorem readCode_spec {B : AB} {o : Nat} {b : List Int} (e : readCode B = some (o, b)) : B = .code o b := by
  unfold readCode at e
  split at e <;> cases e
  rfl

section
variable {P : Program} {T : Table}
theorem sl_cases {σ : List (Nat × Nat)} {l : Bool} {id off len z : Nat} {v : Value} (h : Rel σ (.sl l id off len z) v) : (len = 0 ∧ z = 0 ∧ ∃ a cap, v = .slice a 0 cap) ∨ ∃ b c cap, σ[id]? = some (b, c) ∧ len ≤ cap ∧ off + cap * z ≤ c ∧ v = .slice (some ⟨b, off, none⟩) len cap := by
  cases h with
  | slz => exact .inl ⟨rfl, rfl, _, _, rfl⟩
  | sl h1 h2 h3 => exact .inr ⟨_, _, _, h1, h2, h3, rfl⟩
theorem slz_of {σ : List (Nat × Nat)} {l : Bool} {id off len z cap : Nat} {a : Option Addr} (h0 : len = 0) (h1 : z = 0) : Rel σ (.sl l id off len z) (.slice a 0 cap) := by
  subst h0; subst h1; exact .slz
theorem src_rel {σ : List (Nat × Nat)} {off len a : Nat} {h : Int} {l1 l2 l3 m1 m2 m3 : Bool} {cs : Array Value} (r : RelA σ [.sl l1 0 off len 0, .i l2 .i64 (Int.ofNat a), .i l3 .u64 h] cs) : RelA σ [.sl m1 0 off len 0, .i m2 .i64 (Int.ofNat a), .i m3 .u64 h] cs := fun j x hx => by
  match j, hx with
  | 0, hx => obtain ⟨v, hv, hr⟩ := r 0 _ rfl; cases hx; cases hr with | sl h1 h2 h3 => exact ⟨_, hv, .sl h1 h2 h3⟩ | slz => exact ⟨_, hv, .slz⟩
  | 1, hx => obtain ⟨v, hv, hr⟩ := r 1 _ rfl; cases hx; cases hr; exact ⟨_, hv, .i _ _⟩
  | 2, hx => obtain ⟨v, hv, hr⟩ := r 2 _ rfl; cases hx; cases hr; exact ⟨_, hv, .i _ _⟩
  | j + 3, hx => simp at hx

/-- What is known of a call with a source, seen from any memory. -/
theorem CallOK.src {f : FuncId} {sc : List AV} {v : AV} {c : Cd} {a a' : Nat} {h h' : Int} {H2 : List AB} (k : CallOK P f (.p true 1 0 :: sc) [codeB c false, srcB c a h] v H2) (hs : readSrc (getB H2 1) = some (c.off, c.len, a', h'))
    (hv : below 0 v = true) (hsc : belowL 0 sc = true) {l : Bool} {id : Nat} {H : List AB} (hc : readCode (getB H 0) = some (c.off, c.bytes)) (h0 : id ≠ 0) (hid : readSrc (getB H id) = some (c.off, c.len, a, h)) :
    CallOK P f (.p l id 0 :: sc) H v (setB H id (srcB c a' h')) := fun σ w rargs s hra => by
  have hc := readCode_spec hc
  obtain ⟨l1, l2, l3, hid⟩ := readSrc_spec hid
  obtain ⟨m1, m2, m3, hs⟩ := readSrc_spec hs
  have hl0 : 0 < H.length := by
    rcases Nat.eq_zero_or_pos H.length with h | h
    · rw [getB_none (by omega)] at hc; cases hc
    · exact h
  have hlid : id < H.length := by
    rcases Nat.lt_or_ge id H.length with h | h
    · exact h
    · rw [getB_none h] at hid; cases hid
  obtain ⟨⟨b0, z0⟩, hσ0⟩ : ∃ b, σ[0]? = some b := ⟨_, List.getElem?_eq_getElem (by rw [s.len]; exact hl0)⟩
  obtain ⟨⟨b1, z1⟩, hσ1⟩ : ∃ b, σ[id]? = some b := ⟨_, List.getElem?_eq_getElem (by rw [s.len]; exact hlid)⟩
  have hne : b1 ≠ b0 := fun e => h0 (s.inj id 0 b0 z1 z0 (by rw [← e]; exact hσ1) hσ0 (by rw [hid]; rfl) (by rw [hc]; rfl))
  have hb0 := s.blk 0 b0 z0 hσ0
  have hb1 := s.blk id b1 z1 hσ1
  rw [hc] at hb0
  rw [hid] at hb1
  obtain ⟨c1, e1, f1, q1, q2, q3, q4⟩ := hb1
  have hx0 : ∀ v', Rel σ (.sl l1 0 c.off c.len 0) v' → Rel [(b0, z0), (b1, z1)] (.sl false 0 c.off c.len 0) v' := fun v' hr => by
    rcases sl_cases hr with ⟨g1, g2, _, _, rfl⟩ | ⟨_, _, _, g1, g2, g3, rfl⟩
    · exact slz_of g1 g2
    rw [hσ0] at g1; cases g1
    exact .sl (by rfl) g2 g3
  have s2 : Sim [(b0, z0), (b1, z1)] [codeB c false, srcB c a h] w := by
    refine ⟨rfl, fun i b z hb => ?_, fun i j b z z' hi hj hr hl => ?_⟩
    · match i, hb with
      | 0, hb =>
        cases hb
        exact hb0
      | 1, hb =>
        cases hb
        refine ⟨c1, e1, f1, q1, fun j x hx => ?_, q3, q4⟩
        match j, hx with
        | 0, hx => obtain ⟨v', hv', hr'⟩ := q2 0 _ rfl; cases hx; exact ⟨v', hv', hx0 v' hr'⟩
        | 1, hx => obtain ⟨v', hv', hr'⟩ := q2 1 _ rfl; cases hx; cases hr'; exact ⟨_, hv', .i _ _⟩
        | 2, hx => obtain ⟨v', hv', hr'⟩ := q2 2 _ rfl; cases hx; cases hr'; exact ⟨_, hv', .i _ _⟩
        | j + 3, hx => simp [Cells.toL] at hx
      | i + 2, hb => simp at hb
    · match i, j, hi, hj with
      | 0, 0, hi, hj => rfl
      | 1, 1, hi, hj => rfl
      | 0, 1, hi, hj => cases hi; cases hj; exact absurd rfl hne
      | 1, 0, hi, hj => cases hi; cases hj; exact absurd rfl hne
      | i + 2, _, hi, _ => simp at hi
      | _, j + 2, _, hj => simp at hj
  have hσe : ∀ {x : AV} {y : Value}, below 0 x = true → Rel σ x y → Rel [] x y := fun {x y} hx hr => below_rel (τ := σ) (fun i b hb => by simp at hb) rfl hx hr
  have hσL : ∀ {x : List AV} {y : List Value}, belowL 0 x = true → RelL σ x y → RelL [] x y := fun {x y} hx hr => belowL_rel (τ := σ) (fun i b hb => by simp at hb) rfl hx hr
  generalize hal : rargs.toList = ral at hra
  cases hra with | @cons _ pv _ rsc hp hrs =>
  cases hp with | @p _ _ _ bb cc hpp =>
  rw [hσ1] at hpp
  cases hpp
  have hE : ∀ τ : List (Nat × Nat), Ext [] τ := fun τ i b hb => by simp at hb
  have hra2 : RelL [(b0, z0), (b1, z1)] (.p true 1 0 :: sc) rargs.toList := by
    rw [hal]
    exact .cons (.p (by rfl)) (RelL.mono (hE _) (hσL hsc hrs))
  refine (k _ w rargs s2 hra2).mono ?_
  rintro e w' ⟨rv, rfl, σ', r1, s1, F⟩
  have hold : ∀ b, b < w.heap.size → b ≠ b1 → w'.heap[b]? = w.heap[b]? := fun b hb hbn => F.old b hb fun i z hrw hi => by
    match i, hi with
    | 0, _ => simp [getB, codeB, AB.rw] at hrw
    | 1, hi => cases hi; exact hbn rfl
    | i + 2, hi => simp at hi
  have hσ'0 : σ'[0]? = some (b0, z0) := F.ext 0 _ rfl
  have hσ'1 : σ'[1]? = some (b1, z1) := F.ext 1 _ rfl
  have hn1 := s1.blk 1 b1 z1 hσ'1
  rw [hs] at hn1
  obtain ⟨c2, e2, f2, t1, t2, t3, t4⟩ := hn1
  refine ⟨rv, rfl, σ, ?_, ?_, ?_⟩
  · exact (below_rel (σ := []) (τ := σ') (hE _) rfl hv r1).mono (hE _)
  · refine ⟨by rw [setB_length]; exact s.len, fun i b z hb => ?_, fun i j b z z' hi hj hr hl => ?_⟩
    · by_cases hii : id = i
      · subst hii
        rw [hσ1] at hb; cases hb
        rw [getB_setB_same hlid]
        refine ⟨c2, e2, f2, t1, fun j x hx => ?_, t3, t4⟩
        match j, hx with
        | 0, hx =>
          obtain ⟨v', hv', hr'⟩ := t2 0 _ rfl
          cases hx
          rcases sl_cases hr' with ⟨g1, g2, _, _, rfl⟩ | ⟨_, _, _, g1, g2, g3, rfl⟩
          · exact ⟨_, hv', slz_of g1 g2⟩
          rw [hσ'0] at g1; cases g1
          exact ⟨_, hv', .sl hσ0 g2 g3⟩
        | 1, hx => obtain ⟨v', hv', hr'⟩ := t2 1 _ rfl; cases hx; cases hr'; exact ⟨_, hv', .i _ _⟩
        | 2, hx => obtain ⟨v', hv', hr'⟩ := t2 2 _ rfl; cases hx; cases hr'; exact ⟨_, hv', .i _ _⟩
        | j + 3, hx => simp [Cells.toL] at hx
      · rw [getB_setB_ne hii]
        have hbi := s.blk i b z hb
        cases hg : getB H i with
        | dead => trivial
        | cells r2 A =>
          rw [hg] at hbi
          have hlt := s.lt hb (by rw [hg]; rfl)
          have hbn : b ≠ b1 := fun e => hii (s.inj id i b z1 z (by rw [e]; exact hσ1) hb (by rw [hid]; rfl) (by rw [hg]; rfl))
          rw [hold b hlt hbn]; exact hbi
        | code o0 xs0 =>
          rw [hg] at hbi
          have hlt := s.lt hb (by rw [hg]; rfl)
          have hbn : b ≠ b1 := fun e => hii (s.inj id i b z1 z (by rw [e]; exact hσ1) hb (by rw [hid]; rfl) (by rw [hg]; rfl))
          rw [hold b hlt hbn]; exact hbi
    · have key : ∀ k, (getB (setB H id (srcB c a' h')) k).rw = (getB H k).rw ∧ (getB (setB H id (srcB c a' h')) k).live = (getB H k).live := fun k => by
        by_cases hik : id = k
        · subst hik; rw [getB_setB_same hlid, hid]; exact ⟨rfl, rfl⟩
        · rw [getB_setB_ne hik]; exact ⟨rfl, rfl⟩
      rw [(key i).1] at hr
      rw [(key j).2] at hl
      exact s.inj i j b z z' hi hj hr hl
  · refine ⟨F.os, F.tape, F.output, F.size, fun b hb hno => hold b hb fun e => hno id z1 (by rw [hid]; rfl) (by rw [e]; exact hσ1), Ext.refl σ, fun i b z h h' => (by rw [h'] at h; cases h), fun i hi hr => ?_⟩
    by_cases hii : id = i
    · subst hii; rw [hid]; rfl
    · rwa [getB_setB_ne hii] at hr

/-- A table of one function with a source: value and next state out of code, state and the other arguments; 'q' is what is asked of the other arguments. -/
def srcT (g : Cd → Nat → Int → List AV → Option (AV × Nat × Int × List Bool)) : Table := fun _ args H nd K =>
  match args with
  | .p _ id off :: sc =>
    match readCode (getB H 0), readSrc (getB H id), decide (off = 0) && !decide (id = 0) with
    | some (o', b), some (o, n, a, h), true => match g ⟨b, o', n⟩ a h sc with
      | some (v, a', h', q) => K v (setB H id (srcR o n a' h')) (okB ⟨b, o', n⟩ o n :: (q ++ nd))
      | none => .fail
    | _, _, _ => .fail
  | _ => .fail
/-- What a call with a source must be. -/
def SrcOK (P : Program) (f : FuncId) (sc : List AV) (c : Cd) (a : Nat) (h : Int) (v : AV) (a' : Nat) (h' : Int) : Prop :=
  ∃ H2, CallOK P f (.p true 1 0 :: sc) [codeB c false, srcB c a h] v H2 ∧ readSrc (getB H2 1) = some (c.off, c.len, a', h') ∧ below 0 v = true ∧ belowL 0 sc = true
theorem srcT_sound {g : Cd → Nat → Int → List AV → Option (AV × Nat × Int × List Bool)} {f : FuncId} (hg : ∀ c a h sc v a' h' q, goodB c = true → g c a h sc = some (v, a', h', q) → allT q = true → SrcOK P f sc c a h v a' h')
    (args : List AV) (H : List AB) (nd : List Bool) (K : KF) : (srcT g f args H nd K).sel = .fail ∨ ∃ v H' nd', (srcT g f args H nd K).sel = (K v H' nd').sel ∧ (allT nd' = true → allT nd = true ∧ CallOK P f args H v H') := by
  unfold srcT
  split
  case h_2 => exact .inl rfl
  rename_i l id off sc
  split
  case h_2 => exact .inl rfl
  rename_i o' b o n a h hc hs h0
  cases hgc : g ⟨b, o', n⟩ a h sc with
  | none => exact .inl rfl
  | some x =>
    obtain ⟨v, a', h', q⟩ := x
    refine .inr ⟨_, _, _, rfl, fun hn => ?_⟩
    simp only [allT, allT_append, Bool.and_eq_true, okB] at hn
    obtain ⟨⟨⟨hgood, ho⟩, _⟩, hq, hnd⟩ := hn
    have ho : o = o' := of_decide_eq_true ho
    subst ho
    simp only [Bool.and_eq_true, decide_eq_true_eq, Bool.not_eq_true', decide_eq_false_iff_not] at h0
    obtain ⟨rfl, h0⟩ := h0
    obtain ⟨H2, k, e1, e2, e3⟩ := hg _ _ _ _ _ _ _ _ hgood hgc hq
    exact ⟨hnd, k.src e1 e2 e3 hc h0 hs⟩

/-! ### Joined -/
theorem call_of_sel {f : FuncId} {args : List AV} {H H' : List AB} {v : AV} {nd : List Bool} (hT : SoundT P T) (h : (T f args H [] fun v H nd => .ret v H nd).sel = .ret v H' nd) (hn : allT nd = true) : CallOK P f args H v H' := by
  rcases hT f args H [] (fun v H nd => .ret v H nd) with h' | ⟨v2, H2, nd2, h1, h2⟩
  · rw [h] at h'; cases h'
  · rw [h] at h1
    cases h1
    exact (h2 hn).2

/-- The ways of a result joined: value and next state. What is asked is asked on all ways. -/
def srcJoin (c : Cd) : Res → Option (AV × Nat × Int × List Bool)
  | .ret v H nd => match below 0 v, readSrc (getB H 1) with
    | true, some (o, n, a, h) => some (v, a, h, okB c o n :: nd)
    | _, _ => none
  | .fail => none
  | .stop _ _ _ _ => none
  | .ite b x y => match srcJoin c x, srcJoin c y with
    | some (v, a, h, nd), some (v', a', h', nd') => match mergeV b v v' with
      | some z => some (z, cond b a a', cond b h h', nd ++ nd')
      | none => none
    | _, _ => none
theorem srcJoin_spec {c : Cd} : ∀ {r : Res} {v : AV} {a : Nat} {h : Int} {nd : List Bool}, srcJoin c r = some (v, a, h, nd) → allT nd = true →
    ∃ v' H' nd', r.sel = .ret v' H' nd' ∧ allT nd' = true ∧ readSrc (getB H' 1) = some (c.off, c.len, a, h) ∧ below 0 v' = true ∧ ∀ (σ : List (Nat × Nat)) (x : Value), Rel σ v' x → Rel σ v x
  | .ret v0 H0 nd0, v, a, h, nd, hj, hn => by
    simp only [srcJoin] at hj
    split at hj <;> cases hj
    rename_i o n hb hr
    simp only [allT, Bool.and_eq_true, okB, decide_eq_true_eq] at hn
    obtain ⟨⟨⟨_, rfl⟩, rfl⟩, hn⟩ := hn
    exact ⟨_, H0, _, rfl, hn, hr, hb, fun _ _ r => r⟩
  | .fail, v, a, h, nd, hj, hn => by simp [srcJoin] at hj
  | .stop _ _ _ _, v, a, h, nd, hj, hn => by simp [srcJoin] at hj
  | .ite b x y, v, a, h, nd, hj, hn => by
    simp only [srcJoin] at hj
    split at hj <;> (try (cases hj; done))
    rename_i v1 a1 h1 nd1 v2 a2 h2 nd2 e1 e2
    split at hj <;> cases hj
    rename_i hz
    rw [allT_append, Bool.and_eq_true] at hn
    cases b with
    | true =>
      obtain ⟨v', H', nd', g1, g2, g3, g4, g5⟩ := srcJoin_spec e1 hn.1
      exact ⟨v', H', nd', g1, g2, g3, g4, fun σ x r => mergeV_left hz (g5 σ x r)⟩
    | false =>
      obtain ⟨v', H', nd', g1, g2, g3, g4, g5⟩ := srcJoin_spec e2 hn.2
      exact ⟨v', H', nd', g1, g2, g3, g4, fun σ x r => mergeV_right hz (g5 σ x r)⟩

theorem CallOK.weaken {f : FuncId} {args : List AV} {H H' : List AB} {v v' : AV} (h : CallOK P f args H v H') (hv : ∀ (σ : List (Nat × Nat)) (x : Value), Rel σ v x → Rel σ v' x) : CallOK P f args H v' H' := fun σ w rargs s hra => by
  refine (h σ w rargs s hra).mono ?_
  rintro e w' ⟨rv, rfl, σ', r1, s1, F⟩
  exact ⟨rv, rfl, σ', hv σ' rv r1, s1, F⟩

/-- A form of values: what it holds, and the value of what it holds. -/
structure Form (α : Type) where
  get : AV → Option α
  val : α → AV
  rel : ∀ {v : AV} {x : α}, get v = some x → ∀ (σ : List (Nat × Nat)) (y : Value), Rel σ v y → Rel σ (val x) y
  low : ∀ (x : α), below 0 (val x) = true

def srcEx {α : Type} (F : Form α) (c : Cd) (r : Res) : Option (α × Nat × Int × List Bool) :=
  match srcJoin c r with
  | some (v, a, h, nd) => match F.get v with
    | some x => some (x, a, h, nd)
    | none => none
  | none => none
theorem srcOK_of_ex {α : Type} {F : Form α} {f : FuncId} {sc : List AV} {c : Cd} {a a' : Nat} {h h' : Int} {x : α} {nd : List Bool} (hT : SoundT P T)
    (he : srcEx F c (T f (.p true 1 0 :: sc) [codeB c false, srcB c a h] [] fun v H nd => .ret v H nd) = some (x, a', h', nd)) (hn : allT nd = true) (hsc : belowL 0 sc = true) : SrcOK P f sc c a h (F.val x) a' h' := by
  unfold srcEx at he
  split at he <;> (try (cases he; done))
  rename_i v a1 h1 nd1 hj
  split at he <;> cases he
  rename_i hx
  obtain ⟨v', H', nd', g1, g2, g3, g4, g5⟩ := srcJoin_spec hj hn
  exact ⟨H', (call_of_sel hT g1 g2).weaken fun σ y r => F.rel hx σ y (g5 σ y r), g3, F.low x, hsc⟩
/-- Some value of the form: when only that is of interest. -/
theorem srcOK_some {α : Type} {F : Form α} {f : FuncId} {sc : List AV} {c : Cd} {a : Nat} {h : Int} {m : Nat} (hT : SoundT P T)
    (he : (srcEx F c (T f (.p true 1 0 :: sc) [codeB c false, srcB c a h] [] fun v H nd => .ret v H nd)).isSome = true)
    (hn : ((srcEx F c (T f (.p true 1 0 :: sc) [codeB c false, srcB c a h] [] fun v H nd => .ret v H nd)).map fun r => r.2.2.2) = some (List.replicate m (okB c c.off c.len)))
    (hc : goodB c = true) (hsc : belowL 0 sc = true) : ∃ x a' h', SrcOK P f sc c a h (F.val x) a' h' := by
  cases hr : srcEx F c (T f (.p true 1 0 :: sc) [codeB c false, srcB c a h] [] fun v H nd => .ret v H nd) with
  | none => rw [hr] at he; cases he
  | some r =>
    obtain ⟨x, a', h', nd⟩ := r
    rw [hr] at hn
    simp only [Option.map_some, Option.some.injEq] at hn
    refine ⟨x, a', h', srcOK_of_ex hT hr ?_ hsc⟩
    rw [hn]
    have hok : okB c c.off c.len = true := by simp [okB, hc]
    rw [hok]
    have : ∀ m, allT (List.replicate m true) = true := fun m => by
      induction m with
      | zero => rfl
      | succ m ih => simpa [List.replicate_succ, allT] using ih
    exact this m
end
end Go.Ax

/- Tables put together. -/
namespace Go.Ax
open Go

def SoundAt (P : Program) (f : FuncId) (T : Table) : Prop := ∀ (args : List AV) (H : List AB) (nd : List Bool) (K : KF), (T f args H nd K).sel = .fail ∨
  ∃ v H' nd', (T f args H nd K).sel = (K v H' nd').sel ∧ (allT nd' = true → allT nd = true ∧ CallOK P f args H v H')
def look : List (FuncId × Table) → Table → Table
  | [], d => d
  | (g, T) :: l, d => fun f args H nd K => match Nat.beq f g with
    | true => T f args H nd K
    | false => look l d f args H nd K
theorem look_sound {P : Program} {d : Table} (hd : SoundT P d) : ∀ {l : List (FuncId × Table)}, (∀ p ∈ l, SoundAt P p.1 p.2) → SoundT P (look l d)
  | [], _ => hd
  | (g, T) :: l, h => fun f args H nd K => by
    unfold look
    split
    · rename_i hb
      have : f = g := Nat.eq_of_beq_eq_true hb
      subst this
      exact h _ (List.mem_cons_self) args H nd K
    · exact look_sound hd (fun p hp => h p (List.mem_cons_of_mem _ hp)) f args H nd K
/-- All functions by their own text, as deep as d; those that write to no memory of the caller's come back joined. -/
def deep (P : Program) (l : List (FuncId × Table)) (inl : List FuncId) (n : Nat) : Nat → Table
  | 0 => noT
  | d + 1 => look l fun f args H nd K => match inl.any (Nat.beq f) with
    | true => runF P (deep P l inl n d) n f args H nd K
    | false => quiet (runF P (deep P l inl n d) n) f args H nd K
theorem deep_sound {P : Program} {l : List (FuncId × Table)} {inl : List FuncId} {n : Nat} (h : ∀ p ∈ l, SoundAt P p.1 p.2) : ∀ d, SoundT P (deep P l inl n d)
  | 0 => noT_sound P
  | d + 1 => look_sound (fun f args H nd K => by
      have ih := runF_sound (deep_sound (inl := inl) (n := n) h d) n
      split
      · exact ih f args H nd K
      · exact quiet_sound ih f args H nd K) h
end Go.Ax

/- The same run with the temporaries in a tree, which the kernel goes through faster. -/
namespace Go.Ax
open Go

inductive Tm where
  | nil
  | node (v : AV) (l r : Tm)

noncomputable def gt (t : Tm) : Nat → AV :=
  Tm.rec (motive := fun _ => Nat → AV) (fun _ => .tup [])
    (fun v _ _ il ir n => Nat.rec (motive := fun _ => AV) v (fun m _ => Nat.rec (motive := fun _ => AV) (il (Nat.div m 2)) (fun _ _ => ir (Nat.div m 2)) (Nat.mod m 2)) n) t
noncomputable def st (t : Tm) : Nat → AV → Tm :=
  Tm.rec (motive := fun _ => Nat → AV → Tm) (fun _ _ => .nil)
    (fun v l r il ir n x => Nat.rec (motive := fun _ => Tm) (.node x l r) (fun m _ => Nat.rec (motive := fun _ => Tm) (.node v (il (Nat.div m 2) x) r) (fun _ _ => .node v l (ir (Nat.div m 2) x)) (Nat.mod m 2)) n) t
noncomputable def hasT (t : Tm) : Nat → Bool :=
  Tm.rec (motive := fun _ => Nat → Bool) (fun _ => false)
    (fun _ _ _ il ir n => Nat.rec (motive := fun _ => Bool) true (fun m _ => Nat.rec (motive := fun _ => Bool) (il (Nat.div m 2)) (fun _ _ => ir (Nat.div m 2)) (Nat.mod m 2)) n) t

theorem mod2 (m : Nat) : Nat.mod m 2 = 0 ∨ Nat.mod m 2 = 1 := by
  have : m % 2 = 0 ∨ m % 2 = 1 := by omega
  exact this
theorem gt_even {v : AV} {l r : Tm} {m : Nat} (h : Nat.mod m 2 = 0) : gt (.node v l r) (m + 1) = gt l (m / 2) := by
  show Nat.rec (motive := fun _ => AV) (gt l (m / 2)) (fun _ _ => gt r (m / 2)) (Nat.mod m 2) = _
  rw [h]; rfl
theorem gt_odd {v : AV} {l r : Tm} {m : Nat} (h : Nat.mod m 2 = 1) : gt (.node v l r) (m + 1) = gt r (m / 2) := by
  show Nat.rec (motive := fun _ => AV) (gt l (m / 2)) (fun _ _ => gt r (m / 2)) (Nat.mod m 2) = _
  rw [h]; rfl
theorem has_even {v : AV} {l r : Tm} {m : Nat} (h : Nat.mod m 2 = 0) : hasT (.node v l r) (m + 1) = hasT l (m / 2) := by
  show Nat.rec (motive := fun _ => Bool) (hasT l (m / 2)) (fun _ _ => hasT r (m / 2)) (Nat.mod m 2) = _
  rw [h]; rfl
theorem has_odd {v : AV} {l r : Tm} {m : Nat} (h : Nat.mod m 2 = 1) : hasT (.node v l r) (m + 1) = hasT r (m / 2) := by
  show Nat.rec (motive := fun _ => Bool) (hasT l (m / 2)) (fun _ _ => hasT r (m / 2)) (Nat.mod m 2) = _
  rw [h]; rfl
theorem st_even {v x : AV} {l r : Tm} {m : Nat} (h : Nat.mod m 2 = 0) : st (.node v l r) (m + 1) x = .node v (st l (m / 2) x) r := by
  show Nat.rec (motive := fun _ => Tm) (.node v (st l (m / 2) x) r) (fun _ _ => .node v l (st r (m / 2) x)) (Nat.mod m 2) = _
  rw [h]; rfl
theorem st_odd {v x : AV} {l r : Tm} {m : Nat} (h : Nat.mod m 2 = 1) : st (.node v l r) (m + 1) x = .node v l (st r (m / 2) x) := by
  show Nat.rec (motive := fun _ => Tm) (.node v (st l (m / 2) x) r) (fun _ _ => .node v l (st r (m / 2) x)) (Nat.mod m 2) = _
  rw [h]; rfl

theorem half_inj {a b : Nat} (h : Nat.mod a 2 = Nat.mod b 2) : (a / 2 = b / 2) ↔ a = b := by
  have h : a % 2 = b % 2 := h
  omega
theorem st_has (x : AV) : ∀ (t : Tm) (n k : Nat), hasT (st t n x) k = hasT t k
  | .nil, _, _ => rfl
  | .node v l r, 0, 0 => rfl
  | .node v l r, 0, k + 1 => by
    show hasT (.node x l r) (k + 1) = _
    rcases mod2 k with h | h
    · rw [has_even h, has_even h]
    · rw [has_odd h, has_odd h]
  | .node v l r, n + 1, 0 => by
    rcases mod2 n with h | h
    · rw [st_even h]; rfl
    · rw [st_odd h]; rfl
  | .node v l r, n + 1, k + 1 => by
    rcases mod2 n with h | h <;> rcases mod2 k with h' | h'
    · rw [st_even h, has_even h', has_even h', st_has x l]
    · rw [st_even h, has_odd h', has_odd h']
    · rw [st_odd h, has_even h', has_even h']
    · rw [st_odd h, has_odd h', has_odd h', st_has x r]
theorem st_get (x : AV) : ∀ (t : Tm) (n k : Nat), gt (st t n x) k = if k = n ∧ hasT t n = true then x else gt t k
  | .nil, n, k => by
    have : hasT .nil n = false := rfl
    simp [this]; rfl
  | .node v l r, 0, 0 => by
    have : hasT (.node v l r) 0 = true := rfl
    simp [this]; rfl
  | .node v l r, 0, k + 1 => by
    rw [if_neg (by omega)]
    show gt (.node x l r) (k + 1) = _
    rcases mod2 k with h | h
    · rw [gt_even h, gt_even h]
    · rw [gt_odd h, gt_odd h]
  | .node v l r, n + 1, 0 => by
    rw [if_neg (by omega)]
    rcases mod2 n with h | h
    · rw [st_even h]; rfl
    · rw [st_odd h]; rfl
  | .node v l r, n + 1, k + 1 => by
    rcases mod2 n with h | h <;> rcases mod2 k with h' | h'
    · rw [st_even h, gt_even h', st_get x l, gt_even h', has_even h]
      have : (k / 2 = n / 2) ↔ k = n := half_inj (h'.trans h.symm)
      simp [this]
    · rw [st_even h, gt_odd h', if_neg, gt_odd h']
      rintro ⟨e, _⟩
      have : k = n := by omega
      subst this; rw [h] at h'; cases h'
    · rw [st_odd h, gt_even h', if_neg, gt_even h']
      rintro ⟨e, _⟩
      have : k = n := by omega
      subst this; rw [h] at h'; cases h'
    · rw [st_odd h, gt_odd h', st_get x r, gt_odd h', has_odd h]
      have : (k / 2 = n / 2) ↔ k = n := half_inj (h'.trans h.symm)
      simp [this]

/-- A tree and a list that say the same. -/
structure R (τ : Tm) (t : List AV) : Prop where
  get : ∀ n, gt τ n = getL t n
  has : ∀ n, hasT τ n = decide (n < t.length)
theorem getL_setL (t : List AV) (d : Nat) (v : AV) (n : Nat) : getL (setL t d v) n = if n = d ∧ d < t.length then v else getL t n := by
  rw [getL_eq, getL_eq, setL_eq, List.getD_eq_getElem?_getD, List.getD_eq_getElem?_getD]
  by_cases h : n = d
  · subst h
    by_cases h2 : n < t.length
    · simp [h2]
    · simp [h2]
  · rw [List.getElem?_set_ne (Ne.symm h), if_neg (fun e => h e.1)]
theorem R.set {τ : Tm} {t : List AV} (h : R τ t) (d : Nat) (v : AV) : R (st τ d v) (setL t d v) :=
  ⟨fun n => by rw [st_get, getL_setL, h.has, h.get]; simp, fun n => by rw [st_has, h.has, setL_eq, List.length_set]⟩
noncomputable def putB (t : Tm) (d : Option Nat) (v : AV) : Tm :=
  match d with
  | some n => st t n v
  | none => t
theorem R.put {τ : Tm} {t : List AV} (h : R τ t) (d : Option Nat) (v : AV) : R (putB τ d v) (putT t d v) := by
  cases d with
  | none => exact h
  | some n => exact h.set n v
noncomputable def evB (t : Tm) : Operand → AV
  | .tmp n => gt t n
  | .const v => (ofV v).getD (.tup [])
  | .global _ => .tup []
  | .func f => .fn f [] []
theorem R.ev {τ : Tm} {t : List AV} (h : R τ t) : evB τ = evA t := funext fun o => by
  cases o with
  | tmp n => exact h.get n
  | _ => rfl

abbrev KB := Tm → List AB → List Bool → Res
def KR (K : KB) (K' : KT) : Prop := ∀ τ t H nd, R τ t → K τ H nd = K' t H nd

section
variable (P : Program) (T : Table)
noncomputable def bStepA (op : Op) (d : Option Nat) (t : Tm) (H : List AB) (nd : List Bool) (K : KB) : Res :=
  match aop P op (evB t) H with
  | some (v, n) => K (putB t d v) H (n ++ nd)
  | none => match eop P op (evB t) H with
    | some (v, H', n) => K (putB t d v) H' (n ++ nd)
    | none => .fail
noncomputable def bStepOp (o : Oper) (t : Tm) (H : List AB) (nd : List Bool) (K : KB) : Res :=
  if o.op.operands.all okOpd then
    match o.op with
    | .call c =>
      match aCall c (evB t) with
      | some (g, args) =>
        match P.funcs[g]? with
        | some fn =>
          match fn.body with
          | some _ =>
            match fn.name == "runtime.NumGoroutine" with
            | true => .fail
            | false => T g args H nd fun v H' nd' => K (putB t o.dst v) H' nd'
          | none => match aExtern fn args with
            | some v => K (putB t o.dst v) H nd
            | none => .fail
        | none => .fail
      | none => bStepA P o.op o.dst t H nd K
    | op => bStepA P op o.dst t H nd K
  else .fail
noncomputable def bStepAQ (op : Op) (d : Option Nat) (t : Tm) (H : List AB) (nd : List Bool) (K : Tm → List Bool → Res) : Res :=
  match aop P op (evB t) H with
  | some (v, n) => K (putB t d v) (n ++ nd)
  | none => .fail
noncomputable def bStepQ (o : Oper) (t : Tm) (H : List AB) (nd : List Bool) (K : Tm → List Bool → Res) : Res :=
  if o.op.operands.all okOpd then
    match o.op with
    | .call c =>
      match aCall c (evB t) with
      | some (g, args) =>
        match P.funcs[g]? with
        | some fn =>
          match fn.body with
          | some _ =>
            match fn.name == "runtime.NumGoroutine" with
            | true => .fail
            | false => T g args (roH H) nd fun v _ nd' => match below H.length v with
              | true => K (putB t o.dst v) nd'
              | false => .fail
          | none => match aExtern fn args with
            | some v => K (putB t o.dst v) nd
            | none => .fail
        | none => .fail
      | none => bStepAQ P o.op o.dst t H nd K
    | op => bStepAQ P op o.dst t H nd K
  else .fail
noncomputable def bGuarded (ops : Array Oper) (o : Oper) (t : Tm) (yes no : Tm → Res) : Res :=
  match o.guard with
  | none => yes t
  | some (j, want) =>
    match gDst ops j with
    | none => .fail
    | some d =>
      match gt t d with
      | .b l x =>
        match l with
        | true => match x with
          | true => match want with
            | true => yes t
            | false => no t
          | false => match want with
            | true => no t
            | false => yes t
        | false => match want with
          | true => .ite x (yes (st t d (.b true true))) (no (st t d (.b true false)))
          | false => .ite x (no (st t d (.b true true))) (yes (st t d (.b true false)))
      | .tup [] => no t
      | _ => .fail
noncomputable def bRunOps (ops : Array Oper) : List Oper → Tm → List AB → List Bool → KB → Res
  | [], t, H, nd, K => K t H nd
  | o :: rest, t, H, nd, K =>
    bGuarded ops o t
      (fun t => bStepOp P T o t H nd fun t H nd => bRunOps ops rest t H nd K)
      (fun t => bRunOps ops rest (putB t o.dst (.tup [])) H nd K)
noncomputable def bRunQ (ops : Array Oper) : List Oper → Tm → List AB → List Bool → (Tm → List Bool → Res) → Res
  | [], t, _, nd, K => K t nd
  | o :: rest, t, H, nd, K =>
    bGuarded ops o t
      (fun t => bStepQ P T o t H nd fun t nd => bRunQ ops rest t H nd K)
      (fun t => bRunQ ops rest (putB t o.dst (.tup [])) H nd K)
noncomputable def bRunRegion (ops : Array Oper) (draw : Bool) (t : Tm) (H : List AB) (nd : List Bool) (K : KB) : Res :=
  match draw with
  | false => bRunOps P T ops ops.toList t H nd K
  | true =>
    match P.follows .mixedOrders && drawOK ops (qN ops) with
    | true => bRunQ P T ops (ops.toList.take (qN ops)) t H nd fun t nd => bRunOps P T ops (ops.toList.drop (qN ops)) t H nd K
    | false => .fail
end

section
variable {P : Program} {T : Table}
theorem bStepA_eq {op : Op} {d : Option Nat} {τ : Tm} {t : List AV} {H : List AB} {nd : List Bool} {K : KB} {K' : KT} (h : R τ t) (hK : KR K K') : bStepA P op d τ H nd K = stepA P op d t H nd K' := by
  unfold bStepA stepA
  rw [h.ev]
  cases aop P op (evA t) H with
  | some x => exact hK _ _ _ _ (h.put d x.1)
  | none =>
    dsimp only
    cases eop P op (evA t) H with
    | some x => exact hK _ _ _ _ (h.put d x.1)
    | none => rfl
theorem bStepOp_eq {o : Oper} {τ : Tm} {t : List AV} {H : List AB} {nd : List Bool} {K : KB} {K' : KT} (h : R τ t) (hK : KR K K') : bStepOp P T o τ H nd K = stepOp P T o t H nd K' := by
  unfold bStepOp stepOp
  split
  case isFalse => rfl
  cases hop : o.op
  case call c =>
    dsimp only
    rw [h.ev]
    cases aCall c (evA t) with
    | none => exact bStepA_eq h hK
    | some x =>
      obtain ⟨g, args⟩ := x
      dsimp only
      cases P.funcs[g]? with
      | none => rfl
      | some fn =>
        dsimp only
        cases fn.body with
        | none =>
          dsimp only
          cases aExtern fn args with
          | none => rfl
          | some v => exact hK _ _ _ _ (h.put _ _)
        | some c =>
          dsimp only
          cases (fn.name == "runtime.NumGoroutine")
          · show T g args H nd _ = T g args H nd _
            congr 1
            funext v H' nd'
            exact hK _ _ _ _ (h.put _ _)
          · rfl
  all_goals exact bStepA_eq h hK
theorem bStepAQ_eq {op : Op} {d : Option Nat} {τ : Tm} {t : List AV} {H : List AB} {nd : List Bool} {K : Tm → List Bool → Res} {K' : List AV → List Bool → Res} (h : R τ t) (hK : ∀ τ t nd, R τ t → K τ nd = K' t nd) : bStepAQ P op d τ H nd K = stepAQ P op d t H nd K' := by
  unfold bStepAQ stepAQ
  rw [h.ev]
  cases aop P op (evA t) H with
  | some x => exact hK _ _ _ (h.put d x.1)
  | none => rfl
theorem bStepQ_eq {o : Oper} {τ : Tm} {t : List AV} {H : List AB} {nd : List Bool} {K : Tm → List Bool → Res} {K' : List AV → List Bool → Res} (h : R τ t) (hK : ∀ τ t nd, R τ t → K τ nd = K' t nd) : bStepQ P T o τ H nd K = stepQ P T o t H nd K' := by
  unfold bStepQ stepQ
  split
  case isFalse => rfl
  cases hop : o.op
  case call c =>
    dsimp only
    rw [h.ev]
    cases aCall c (evA t) with
    | none => exact bStepAQ_eq h hK
    | some x =>
      obtain ⟨g, args⟩ := x
      dsimp only
      cases P.funcs[g]? with
      | none => rfl
      | some fn =>
        dsimp only
        cases fn.body with
        | none =>
          dsimp only
          cases aExtern fn args with
          | none => rfl
          | some v => exact hK _ _ _ (h.put _ _)
        | some c =>
          dsimp only
          cases (fn.name == "runtime.NumGoroutine")
          · show T g args (roH H) nd _ = T g args (roH H) nd _
            congr 1
            funext v H' nd'
            cases below H.length v
            · rfl
            · exact hK _ _ _ (h.put _ _)
          · rfl
  all_goals exact bStepAQ_eq h hK
theorem bGuarded_eq {ops : Array Oper} {o : Oper} {τ : Tm} {t : List AV} {yes no : Tm → Res} {yes' no' : List AV → Res} (h : R τ t) (hy : ∀ τ t, R τ t → yes τ = yes' t) (hn : ∀ τ t, R τ t → no τ = no' t) : bGuarded ops o τ yes no = guarded ops o t yes' no' := by
  unfold bGuarded guarded
  cases o.guard with
  | none => exact hy _ _ h
  | some g =>
    obtain ⟨j, want⟩ := g
    dsimp only
    cases gDst ops j with
    | none => rfl
    | some d =>
      dsimp only
      rw [h.get]
      have hy2 := fun v => hy _ _ (h.set d v)
      have hn2 := fun v => hn _ _ (h.set d v)
      cases getL t d
      case b l x =>
        cases l <;> cases x <;> cases want <;> dsimp only <;> first | exact hy _ _ h | exact hn _ _ h | (rw [hy2, hn2])
      case tup l =>
        cases l with
        | nil => exact hn _ _ h
        | cons _ _ => rfl
      all_goals rfl
theorem bRunOps_eq {ops : Array Oper} {K : KB} {K' : KT} (hK : KR K K') : ∀ (l : List Oper) (τ : Tm) (t : List AV) (H : List AB) (nd : List Bool), R τ t → bRunOps P T ops l τ H nd K = runOps P T ops l t H nd K'
  | [], τ, t, H, nd, h => hK _ _ _ _ h
  | o :: rest, τ, t, H, nd, h => by
    unfold bRunOps runOps
    exact bGuarded_eq h (fun τ t h => bStepOp_eq h fun τ t H nd h => bRunOps_eq hK rest τ t H nd h) (fun τ t h => bRunOps_eq hK rest _ _ H nd (h.put _ _))
theorem bRunQ_eq {ops : Array Oper} {K : Tm → List Bool → Res} {K' : List AV → List Bool → Res} (hK : ∀ τ t nd, R τ t → K τ nd = K' t nd) : ∀ (l : List Oper) (τ : Tm) (t : List AV) (H : List AB) (nd : List Bool), R τ t → bRunQ P T ops l τ H nd K = runQ P T ops l t H nd K'
  | [], τ, t, H, nd, h => hK _ _ _ h
  | o :: rest, τ, t, H, nd, h => by
    unfold bRunQ runQ
    exact bGuarded_eq h (fun τ t h => bStepQ_eq h fun τ t nd h => bRunQ_eq hK rest τ t H nd h) (fun τ t h => bRunQ_eq hK rest _ _ H nd (h.put _ _))
theorem bRunRegion_eq {ops : Array Oper} {draw : Bool} {τ : Tm} {t : List AV} {H : List AB} {nd : List Bool} {K : KB} {K' : KT} (h : R τ t) (hK : KR K K') : bRunRegion P T ops draw τ H nd K = runRegion P T ops draw t H nd K' := by
  unfold bRunRegion runRegion
  cases draw with
  | false => exact bRunOps_eq hK _ _ _ _ _ h
  | true =>
    dsimp only
    cases (P.follows .mixedOrders && drawOK ops (qN ops)) with
    | true =>
      dsimp only
      refine bRunQ_eq ?_ _ _ _ _ _ h
      intro τ t nd h
      exact bRunOps_eq hK _ _ _ _ _ h
    | false => rfl
end

/-! ### Trees out of lists -/
/-- n places. -/
def mkT : Nat → Nat → Tm
  | 0, _ => .nil
  | _ + 1, 0 => .nil
  | f + 1, n + 1 => .node (.tup []) (mkT f (Nat.div (Nat.succ n) 2)) (mkT f (Nat.div n 2))
theorem mkT_has : ∀ (f n k : Nat), n ≤ f → hasT (mkT f n) k = decide (k < n)
  | 0, n, k, h => by
    have : n = 0 := by omega
    subst this; simp; rfl
  | f + 1, 0, k, h => by simp; rfl
  | f + 1, n + 1, 0, h => by simp; rfl
  | f + 1, n + 1, k + 1, h => by
    have e1 : Nat.div (Nat.succ n) 2 = (n + 1) / 2 := rfl
    have e2 : Nat.div n 2 = n / 2 := rfl
    unfold mkT
    rw [e1, e2]
    rcases mod2 k with h' | h'
    · rw [has_even h', mkT_has f _ _ (by omega)]
      have h' : k % 2 = 0 := h'
      have : (k / 2 < (n + 1) / 2) ↔ k + 1 < n + 1 := by omega
      simp [this]
    · rw [has_odd h', mkT_has f _ _ (by omega)]
      have h' : k % 2 = 1 := h'
      have : (k / 2 < n / 2) ↔ k + 1 < n + 1 := by omega
      simp [this]
theorem mkT_get : ∀ (f n k : Nat), gt (mkT f n) k = .tup []
  | 0, n, k => rfl
  | f + 1, 0, k => rfl
  | f + 1, n + 1, 0 => rfl
  | f + 1, n + 1, k + 1 => by
    unfold mkT
    rcases mod2 k with h' | h'
    · rw [gt_even h', mkT_get]
    · rw [gt_odd h', mkT_get]
theorem mkT_R (f n : Nat) (h : n ≤ f) : R (mkT f n) (undefs n) := by
  have e1 : ∀ n, (undefs n).length = n := fun n => by induction n with
    | zero => rfl
    | succ n ih => simp [undefs, ih]
  have e2 : ∀ n k, getL (undefs n) k = .tup [] := fun n => by induction n with
    | zero => intro k; rfl
    | succ n ih => intro k; cases k with
      | zero => rfl
      | succ k => exact ih k
  exact ⟨fun k => by rw [mkT_get, e2], fun k => by rw [mkT_has f n k h, e1]⟩
noncomputable def stAll : Tm → Nat → List AV → Tm
  | t, _, [] => t
  | t, i, a :: l => stAll (st t i a) (Nat.succ i) l
theorem stAll_R : ∀ (l : List AV) (τ : Tm) (t : List AV) (i : Nat), R τ t → R (stAll τ i l) (setAll t i l)
  | [], _, _, _, h => h
  | a :: l, _, _, i, h => stAll_R l _ _ (i + 1) (h.set i a)
theorem setAll_prefix : ∀ (l p t : List AV), l.length ≤ t.length → setAll (p ++ t) p.length l = p ++ l ++ t.drop l.length
  | [], p, t, h => by simp [setAll]
  | a :: l, p, [], h => by simp at h
  | a :: l, p, b :: t, h => by
    have e : setL (p ++ b :: t) p.length a = (p ++ [a]) ++ t := by
      rw [setL_eq]; simp
    have := setAll_prefix l (p ++ [a]) t (by simpa using h)
    rw [show (p ++ [a]).length = p.length + 1 by simp] at this
    simp only [setAll, e, this]
    simp
theorem args_list (l : List AV) (n : Nat) (h : l.length ≤ n) : setAll (undefs n) 0 l = l ++ undefs (n - l.length) := by
  have e1 : ∀ n, (undefs n).length = n := fun n => by induction n with
    | zero => rfl
    | succ n ih => simp [undefs, ih]
  have e2 : ∀ k n, (undefs n).drop k = undefs (n - k) := fun k => by induction k with
    | zero => intro n; simp
    | succ k ih => intro n; cases n with
      | zero => simp [undefs]
      | succ n => rw [show n + 1 - (k + 1) = n - k by omega, ← ih n]; rfl
  have := setAll_prefix l [] (undefs n) (by rw [e1]; exact h)
  simpa [e2] using this
/-- A list as a tree. -/
noncomputable def ofL (l : List AV) : Tm := stAll (mkT l.length l.length) 0 l
theorem ofL_R (l : List AV) : R (ofL l) l := by
  have := stAll_R l _ _ 0 (mkT_R l.length l.length (Nat.le_refl _))
  rw [args_list l l.length (Nat.le_refl _)] at this
  simp only [Nat.sub_self, undefs, List.append_nil] at this
  exact this
/-- The first n places as a list. -/
noncomputable def toL (t : Tm) : Nat → Nat → List AV
  | 0, _ => []
  | n + 1, i => gt t i :: toL t n (Nat.succ i)
theorem toL_drop {τ : Tm} {t : List AV} (h : R τ t) : ∀ (n i : Nat), i + n = t.length → toL τ n i = t.drop i
  | 0, i, hi => by rw [List.drop_of_length_le (by omega)]; rfl
  | n + 1, i, hi => by
    rw [toL, h.get, toL_drop h n (i + 1) (by omega), getL_eq, List.drop_eq_getElem_cons (i := i) (by omega)]
    simp [show i < t.length by omega]
theorem toL_eq {τ : Tm} {t : List AV} (h : R τ t) : toL τ t.length 0 = t := toL_drop h t.length 0 (by omega)

section
variable (P : Program) (T : Table)
noncomputable def resB (P : Program) (t : Tm) (H : List AB) : List ResultVar → Option (List AV × List Bool)
  | [] => some ([], [])
  | .tmp d :: l => match resB P t H l with
    | some (vs, n) => some (gt t d :: vs, n)
    | none => none
  | .cell a ty :: l => match aLoad P ty (gt t a) H, resB P t H l with
    | some (v, m), some (vs, n) => some (v :: vs, m ++ n)
    | _, _ => none
theorem resB_eq {τ : Tm} {t : List AV} (h : R τ t) (H : List AB) : ∀ (l : List ResultVar), resB P τ H l = resV P t H l
  | [] => rfl
  | .tmp d :: l => by unfold resB resV; rw [resB_eq h H l, h.get]; rfl
  | .cell a ty :: l => by unfold resB resV; rw [resB_eq h H l, h.get]; rfl
noncomputable def retB (fn : Func) (K : KF) : KB := fun t H nd =>
  match resB P t H fn.results.toList with
  | some (vs, n) => K (tupV vs) H (n ++ nd)
  | none => .fail
end
noncomputable def lenT (t : Tm) : Nat := Tm.rec (motive := fun _ => Nat) 0 (fun _ _ _ a b => Nat.succ (Nat.add a b)) t
theorem lenT_eq : ∀ (τ : Tm) (n : Nat), (∀ k, hasT τ k = decide (k < n)) → lenT τ = n
  | .nil, n, h => by
    have h0 := h 0
    have h1 : hasT .nil 0 = false := rfl
    rw [h1] at h0
    show 0 = n
    simp at h0; omega
  | .node v l r, n, h => by
    have h0 := h 0
    have h1 : hasT (.node v l r) 0 = true := rfl
    rw [h1] at h0
    simp at h0
    have hl := lenT_eq l (n / 2) fun k => by
      have e : Nat.mod (2 * k) 2 = 0 := by show 2 * k % 2 = 0; omega
      have := h (2 * k + 1)
      rw [has_even e, show 2 * k / 2 = k by omega] at this
      rw [this]
      have : (2 * k + 1 < n) ↔ k < n / 2 := by omega
      simp [this]
    have hr := lenT_eq r ((n - 1) / 2) fun k => by
      have e : Nat.mod (2 * k + 1) 2 = 1 := by show (2 * k + 1) % 2 = 1; omega
      have := h (2 * k + 1 + 1)
      rw [has_odd e, show (2 * k + 1) / 2 = k by omega] at this
      rw [this]
      have : (2 * k + 1 + 1 < n) ↔ k < (n - 1) / 2 := by omega
      simp [this]
    show lenT l + lenT r + 1 = n
    omega
theorem R.len {τ : Tm} {t : List AV} (h : R τ t) : lenT τ = t.length := lenT_eq τ _ h.has
noncomputable def listT (t : Tm) : List AV := toL t (lenT t) 0
theorem R.list {τ : Tm} {t : List AV} (h : R τ t) : listT τ = t := by
  unfold listT; rw [h.len]; exact toL_eq h
end Go.Ax

/- The same run, prepared: what hangs on the code alone is worked out once, and the kernel keeps it. -/
namespace Go.Ax
open Go

/-- A function behind a constructor: what is closed is worked out once. -/
inductive CF (α : Type) where
  | mk (f : α)
noncomputable def CF.app {α : Type} (c : CF α) : α := CF.rec (motive := fun _ => α) (fun f => f) c

/-! ### Numbers -/
def ikIx : IntKind → Nat
  | .i8 => 0 | .i16 => 1 | .i32 => 2 | .i64 => 3 | .u8 => 4 | .u16 => 5 | .u32 => 6 | .u64 => 7
def fkIx : FloatKind → Nat
  | .f32 => 0 | .f64 => 1
theorem ikIx_inj {k k' : IntKind} (h : Nat.beq (ikIx k) (ikIx k') = true) : k = k' := by cases k <;> cases k' <;> first | rfl | cases h
theorem fkIx_inj {k k' : FloatKind} (h : Nat.beq (fkIx k) (fkIx k') = true) : k = k' := by cases k <;> cases k' <;> first | rfl | cases h
def topK : IntKind → Nat
  | .i8 => 127 | .i16 => 32767 | .i32 => 2147483647 | .i64 => 9223372036854775807 | .u8 => 255 | .u16 => 65535 | .u32 => 4294967295 | .u64 => 18446744073709551615
def wrapL (k : IntKind) (n : Int) : Int :=
  match n with
  | .ofNat m => match Nat.ble m (topK k) with
    | true => .ofNat m
    | false => k.wrap (.ofNat m)
  | .negSucc m => k.wrap (.negSucc m)
theorem wrapL_eq (k : IntKind) (n : Int) : wrapL k n = k.wrap n := by
  unfold wrapL
  split
  · rename_i m
    split
    · rename_i h
      have h := Nat.le_of_ble_eq_true h
      cases k <;> simp only [topK] at h <;> simp [IntKind.wrap, IntKind.bits, IntKind.signed] <;> omega
    · rfl
  · rfl
def wrapQ (l : Bool) (k : IntKind) (n : Int) : Int :=
  match l with
  | true => wrapL k n
  | false => k.wrap n
theorem wrapQ_eq (l : Bool) (k : IntKind) (n : Int) : wrapQ l k n = k.wrap n := by cases l <;> simp [wrapQ, wrapL_eq]
def ltL (a b : Int) : Bool :=
  match a, b with
  | .ofNat x, .ofNat y => Nat.blt x y
  | a, b => decide (a < b)
theorem ltL_eq (a b : Int) : ltL a b = decide (a < b) := by
  unfold ltL
  split
  · rename_i x y
    have : Nat.blt x y = decide (x < y) := by
      unfold Nat.blt
      rw [Bool.eq_iff_iff, Nat.ble_eq]; simp; omega
    rw [this]; simp
  · rfl
def eqL (a b : Int) : Bool :=
  match a, b with
  | .ofNat x, .ofNat y => Nat.beq x y
  | a, b => a == b
theorem eqL_eq (a b : Int) : eqL a b = (a == b) := by
  unfold eqL
  split
  · rename_i x y
    rw [Bool.eq_iff_iff, Nat.beq_eq]; simp; omega
  · rfl
def ltQ (l : Bool) (a b : Int) : Bool :=
  match l with
  | true => ltL a b
  | false => decide (a < b)
def leQ (l : Bool) (a b : Int) : Bool :=
  match l with
  | true => !(ltL b a)
  | false => decide (a ≤ b)
def eqQ (l : Bool) (a b : Int) : Bool :=
  match l with
  | true => eqL a b
  | false => a == b
theorem ltQ_eq (l : Bool) (a b : Int) : ltQ l a b = decide (a < b) := by cases l <;> simp [ltQ, ltL_eq]
theorem leQ_eq (l : Bool) (a b : Int) : leQ l a b = decide (a ≤ b) := by
  cases l
  · rfl
  · simp only [leQ, ltL_eq]
    by_cases h : b < a
    · simp [h]
    · simp [h]; omega
theorem eqQ_eq (l : Bool) (a b : Int) : eqQ l a b = (a == b) := by cases l <;> simp [eqQ, eqL_eq]

/-! ### Operands and two-place operations -/
noncomputable def cOpd : Operand → CF (Tm → AV)
  | .tmp n => .mk fun t => gt t n
  | .const v => .mk fun _ => (ofV v).getD (.tup [])
  | .global _ => .mk fun _ => .tup []
  | .func f => .mk fun _ => .fn f [] []
theorem cOpd_eq (o : Operand) (t : Tm) : (cOpd o).app t = evB t o := by cases o <;> rfl

abbrev OA := Option (AV × List Bool)
/-- Two whole numbers of one kind, two floats of one kind, or something else. -/
def bothI (x y : AV) (g : Bool → IntKind → Int → Int → OA) (d : OA) : OA :=
  match x with
  | .i l k a => match y with
    | .i m k' b => match Nat.beq (ikIx k) (ikIx k') with
      | true => g (l && m) k a b
      | false => d
    | _ => d
  | _ => d
def bothF (x y : AV) (g : Bool → FloatKind → Nat → Nat → OA) (d : OA) : OA :=
  match x with
  | .f l k a => match y with
    | .f m k' b => match Nat.beq (fkIx k) (fkIx k') with
      | true => g (l && m) k a b
      | false => d
    | _ => d
  | _ => d
theorem bothI_eq {x y : AV} {g : Bool → IntKind → Int → Int → OA} {d e : OA} (h : ∀ l m k a b, x = .i l k a → y = .i m k b → g (l && m) k a b = e) (hd : d = e) : bothI x y g d = e := by
  subst hd
  unfold bothI
  split
  · split
    · split
      · rename_i l k a m k' b hk
        have := ikIx_inj hk
        subst this
        exact h _ _ _ _ _ rfl rfl
      · rfl
    · rfl
  · rfl
theorem bothF_eq {x y : AV} {g : Bool → FloatKind → Nat → Nat → OA} {d e : OA} (h : ∀ l m k a b, x = .f l k a → y = .f m k b → g (l && m) k a b = e) (hd : d = e) : bothF x y g d = e := by
  subst hd
  unfold bothF
  split
  · split
    · split
      · rename_i l k a m k' b hk
        have := fkIx_inj hk
        subst this
        exact h _ _ _ _ _ rfl rfl
      · rfl
    · rfl
  · rfl
def nz (m : Bool) (b : Int) (v : OA) (d : OA) : OA :=
  match m with
  | true => match eqL b 0 with
    | true => d
    | false => v
  | false => d
noncomputable def cBin (P : Program) (op : BinOp) (ty : TypeId) : CF (AV → AV → OA) :=
  match op with
  | .add => .mk fun x y => bothI x y (fun l k a b => some (.i l k (wrapQ l k (a + b)), [])) (bothF x y (fun l k a b => some (.f l k (fadd k a b), [])) (aBin P .add ty x y))
  | .sub => .mk fun x y => bothI x y (fun l k a b => some (.i l k (wrapQ l k (a - b)), [])) (bothF x y (fun l k a b => some (.f l k (fsub k a b), [])) (aBin P .sub ty x y))
  | .mul => .mk fun x y => bothI x y (fun l k a b => some (.i l k (wrapQ l k (a * b)), [])) (bothF x y (fun l k a b => some (.f l k (fmul k a b), [])) (aBin P .mul ty x y))
  | .eql => .mk fun x y => bothI x y (fun l _ a b => some (.b l (eqQ l a b), [])) (bothF x y (fun l k a b => some (.b l (feq k a b), [])) (aBin P .eql ty x y))
  | .neq => .mk fun x y => bothI x y (fun l _ a b => some (.b l (!eqQ l a b), [])) (bothF x y (fun l k a b => some (.b l (!feq k a b), [])) (aBin P .neq ty x y))
  | .lss => .mk fun x y => bothI x y (fun l _ a b => some (.b l (ltQ l a b), [])) (bothF x y (fun l k a b => some (.b l (flt k a b), [])) (aBin P .lss ty x y))
  | .leq => .mk fun x y => bothI x y (fun l _ a b => some (.b l (leQ l a b), [])) (aBin P .leq ty x y)
  | .gtr => .mk fun x y => bothI x y (fun l _ a b => some (.b l (ltQ l b a), [])) (aBin P .gtr ty x y)
  | .geq => .mk fun x y => bothI x y (fun l _ a b => some (.b l (leQ l b a), [])) (aBin P .geq ty x y)
  | .quo => .mk fun x y => bothI x y (fun l k a b => nz l b (some (.i l k (wrapQ l k (a.tdiv b)), [])) (aBin P .quo ty x y)) (bothF x y (fun l k a b => some (.f l k (fdiv k a b), [])) (aBin P .quo ty x y))
  | .rem => .mk fun x y => bothI x y (fun l k a b => nz l b (some (.i l k (a.tmod b), [])) (aBin P .rem ty x y)) (aBin P .rem ty x y)
  | op => .mk fun x y => aBin P op ty x y
theorem nz_eq {m : Bool} {b : Int} {v d e : OA} (h : m = true → (b == 0) = false → v = e) (hd : d = e) : nz m b v d = e := by
  unfold nz
  split
  · rw [eqL_eq]
    split
    · exact hd
    · rename_i h'; exact h rfl h'
  · exact hd
theorem cBin_eq (P : Program) (op : BinOp) (ty : TypeId) (x y : AV) : (cBin P op ty).app x y = aBin P op ty x y := by
  cases op <;> dsimp only [cBin, CF.app]
  case add =>
    refine bothI_eq (fun l m k a b hx hy => ?_) (bothF_eq (fun l m k a b hx hy => ?_) rfl) <;> subst hx <;> subst hy <;> simp [aBin, aInt, aFlt, wrapQ_eq]
  case sub =>
    refine bothI_eq (fun l m k a b hx hy => ?_) (bothF_eq (fun l m k a b hx hy => ?_) rfl) <;> subst hx <;> subst hy <;> simp [aBin, aInt, aFlt, wrapQ_eq]
  case mul =>
    refine bothI_eq (fun l m k a b hx hy => ?_) (bothF_eq (fun l m k a b hx hy => ?_) rfl) <;> subst hx <;> subst hy <;> simp [aBin, aInt, aFlt, wrapQ_eq]
  case eql =>
    refine bothI_eq (fun l m k a b hx hy => ?_) (bothF_eq (fun l m k a b hx hy => ?_) rfl) <;> subst hx <;> subst hy <;> simp [aBin, aInt, aFlt, eqQ_eq]
  case neq =>
    refine bothI_eq (fun l m k a b hx hy => ?_) (bothF_eq (fun l m k a b hx hy => ?_) rfl) <;> subst hx <;> subst hy <;> simp [aBin, aInt, aFlt, eqQ_eq]
  case lss =>
    refine bothI_eq (fun l m k a b hx hy => ?_) (bothF_eq (fun l m k a b hx hy => ?_) rfl) <;> subst hx <;> subst hy <;> simp [aBin, aInt, aFlt, ltQ_eq]
  case leq =>
    refine bothI_eq (fun l m k a b hx hy => ?_) rfl; subst hx; subst hy; simp [aBin, aInt, leQ_eq]
  case gtr =>
    refine bothI_eq (fun l m k a b hx hy => ?_) rfl; subst hx; subst hy; simp [aBin, aInt, ltQ_eq]
  case geq =>
    refine bothI_eq (fun l m k a b hx hy => ?_) rfl; subst hx; subst hy; simp [aBin, aInt, leQ_eq]
  case quo =>
    refine bothI_eq (fun l m k a b hx hy => nz_eq (fun hm hb => ?_) rfl) (bothF_eq (fun l m k a b hx hy => ?_) rfl) <;> subst hx <;> subst hy
    · simp only [Bool.and_eq_true] at hm
      obtain ⟨rfl, rfl⟩ := hm
      simp [aBin, aInt, wrapQ_eq, chk, hb, withN]
    · simp [aBin, aFlt]
  case rem =>
    refine bothI_eq (fun l m k a b hx hy => nz_eq (fun hm hb => ?_) rfl) rfl; subst hx; subst hy
    simp only [Bool.and_eq_true] at hm
    obtain ⟨rfl, rfl⟩ := hm
    simp [aBin, aInt, chk, hb, withN]
  all_goals rfl

/-! ### Memory -/
noncomputable def nthR (l : List AV) : Nat → Option AV := List.rec (motive := fun _ => Nat → Option AV) (fun _ => none) (fun a _ ih n => Nat.rec (motive := fun _ => Option AV) (some a) (fun m _ => ih m) n) l
noncomputable def setR (l : List AV) : Nat → AV → List AV := List.rec (motive := fun _ => Nat → AV → List AV) (fun _ _ => []) (fun a l ih n v => Nat.rec (motive := fun _ => List AV) (v :: l) (fun m _ => a :: ih m v) n) l
theorem nthR_eq : ∀ (l : List AV) (n : Nat), nthR l n = l[n]?
  | [], _ => rfl
  | _ :: _, 0 => rfl
  | a :: l, n + 1 => by
    show nthR l n = _
    rw [nthR_eq l n]; simp
theorem setR_eq : ∀ (l : List AV) (n : Nat) (v : AV), setR l n v = setL l n v
  | [], _, _ => rfl
  | _ :: _, 0, _ => rfl
  | a :: l, n + 1, v => by
    show a :: setR l n v = a :: setL l n v
    rw [setR_eq l n v]
noncomputable def cLoad (P : Program) (ty : TypeId) : CF (AV → List AB → OA) :=
  match szA P ty, aggA P ty with
  | some _, some false => .mk fun v H => match v with
    | .p l id off => match l with
      | true => match getB H id with
        | .cells _ A => match A with
          | .lit L => match nthR L off with
            | some a => some (a, [])
            | none => aLoad P ty v H
          | _ => aLoad P ty v H
        | .dead => none
        | .code _ _ => aLoad P ty v H
      | false => aLoad P ty v H
    | _ => none
  | _, _ => .mk fun v H => aLoad P ty v H
theorem nthR_some {l : List AV} {n : Nat} {a : AV} (h : nthR l n = some a) : n < l.length ∧ getL l n = a := by
  rw [nthR_eq] at h
  have hn : n < l.length := (List.getElem?_eq_some_iff.1 h).1
  rw [getL_some hn] at h
  exact ⟨hn, by simpa using h⟩
theorem cLoad_eq (P : Program) (ty : TypeId) (v : AV) (H : List AB) : (cLoad P ty).app v H = aLoad P ty v H := by
  unfold cLoad
  cases hs : szA P ty with
  | none => rfl
  | some n => cases ha : aggA P ty with
    | none => rfl
    | some b => cases b with
      | true => rfl
      | false =>
        dsimp only [CF.app]
        cases v
        case p l id off =>
          cases l with
          | false => rfl
          | true =>
            dsimp only
            cases hg : getB H id with
            | dead => simp [aLoad, hg]
            | code o0 xs0 => rfl
            | cells r A =>
              cases A
              case lit L =>
                dsimp only
                cases hn : nthR L off with
                | none => rfl
                | some a =>
                  obtain ⟨h1, h2⟩ := nthR_some hn
                  simp [aLoad, hg, hs, ha, Cells.isLit, Cells.get, Cells.len, h1, h2, chk, withN]
              all_goals rfl
        all_goals rfl
noncomputable def cFieldAddr (P : Program) (ty : TypeId) (f : Nat) : CF (AV → OA) :=
  match P.underlying ty with
  | some (.struct fields) => match fields[f]? with
    | some fd => match szA P fd.type with
      | some (_ + 1) => .mk fun x => match x with
        | .p l id off => some (.p l id (off + fd.offset), [])
        | _ => none
      | _ => .mk fun x => just (aFieldAddr P ty x f)
    | none => .mk fun x => just (aFieldAddr P ty x f)
  | _ => .mk fun x => just (aFieldAddr P ty x f)
theorem cFieldAddr_eq (P : Program) (ty : TypeId) (f : Nat) (x : AV) : (cFieldAddr P ty f).app x = just (aFieldAddr P ty x f) := by
  unfold cFieldAddr
  cases hu : P.underlying ty with
  | none => rfl
  | some d => cases d
              case struct fields =>
                dsimp only
                cases hf : fields[f]? with
                | none => rfl
                | some fd =>
                  dsimp only
                  cases hs : szA P fd.type with
                  | none => rfl
                  | some n => cases n with
                    | zero => rfl
                    | succ n => dsimp only [CF.app]; cases x <;> simp [aFieldAddr, hu, hf, hs, just]
              all_goals rfl
noncomputable def cIndexAddr (P : Program) (ty : TypeId) : CF (AV → AV → OA) :=
  match P.underlying ty with
  | some (.array len e) => match szA P e with
    | some z => .mk fun x i => match x with
      | .p l id off => match i with
        | .i m _ n => match m with
          | true => match n with
            | .ofNat k => match Nat.blt k len with
              | true => some (.p (l && true) id (off + k * z), [])
              | false => none
            | .negSucc _ => none
          | false => aIndexAddr P ty x i
        | _ => none
      | _ => none
    | none => .mk fun x i => aIndexAddr P ty x i
  | some (.slice e) => match szA P e with
    | some z => .mk fun x i => match x with
      | .sl l id off len _ => match i with
        | .i m _ n => match l && m with
          | true => match n with
            | .ofNat k => match Nat.blt k len with
              | true => some (.p (l && m) id (off + k * z), [])
              | false => none
            | .negSucc _ => none
          | false => aIndexAddr P ty x i
        | _ => none
      | _ => none
    | none => .mk fun x i => aIndexAddr P ty x i
  | _ => .mk fun x i => aIndexAddr P ty x i
theorem blt_true {k n : Nat} (h : Nat.blt k n = true) : k < n := by
  unfold Nat.blt at h
  exact Nat.le_of_ble_eq_true h
theorem blt_false {k n : Nat} (h : Nat.blt k n = false) : ¬ k < n := fun h' => by
  have : Nat.blt k n = true := Nat.ble_eq_true_of_le h'
  rw [this] at h; cases h
theorem cIndexAddr_eq (P : Program) (ty : TypeId) (x i : AV) : (cIndexAddr P ty).app x i = aIndexAddr P ty x i := by
  unfold cIndexAddr
  cases hu : P.underlying ty with
  | none => rfl
  | some d =>
    cases d
    case array len e =>
      dsimp only
      cases hz : szA P e with
      | none => rfl
      | some z =>
        dsimp only [CF.app]
        cases x
        case p l id off =>
          cases i
          case i m k n =>
            cases m with
            | false => rfl
            | true =>
              cases n with
              | ofNat k =>
                dsimp only
                cases hb : Nat.blt k len with
                | true => have := blt_true hb; simp [aIndexAddr, hu, hz, chk, withN, this]
                | false => have := blt_false hb; simp [aIndexAddr, hu, hz, chk, withN, this]
              | negSucc k => simp [aIndexAddr, hu, hz, chk, withN]
          all_goals simp [aIndexAddr, hu]
        all_goals simp [aIndexAddr, hu]
    case slice e =>
      dsimp only
      cases hz : szA P e with
      | none => rfl
      | some z =>
        dsimp only [CF.app]
        cases x
        case sl l id off len w =>
          cases i
          case i m k n =>
            dsimp only
            cases hlm : l && m with
            | false => rfl
            | true =>
              cases n with
              | ofNat k =>
                dsimp only
                cases hb : Nat.blt k len with
                | true => have := blt_true hb; simp [aIndexAddr, hu, hz, chk, withN, this, hlm]
                | false => have := blt_false hb; simp [aIndexAddr, hu, hz, chk, withN, this, hlm]
              | negSucc k => simp [aIndexAddr, hu, hz, chk, withN, hlm]
          all_goals simp [aIndexAddr, hu]
        all_goals simp [aIndexAddr, hu]
    all_goals rfl

/-- A store into a row of literal length at a literal place. -/
noncomputable def cStore (P : Program) (ty : TypeId) : CF (AV → AV → List AB → Option (List AB)) :=
  match szA P ty with
  | some 1 => .mk fun a x H => match a with
    | .p l id off => match l with
      | true => match getB H id with
        | .cells r A => match r with
          | true => match A with
            | .lit L => match okCell x with
              | true => match nthR L off with
                | some _ => some (setB H id (.cells true (.lit (setR L off x))))
                | none => none
              | false => none
            | _ => none
          | false => none
        | _ => none
      | false => none
    | _ => none
  | _ => .mk fun _ _ _ => none
theorem okCell_cells {x : AV} (h : okCell x = true) : cellsA x = [x] := by cases x <;> first | rfl | cases h
theorem cStore_eq {P : Program} {ty : TypeId} {a x : AV} {H H' : List AB} (h : (cStore P ty).app a x H = some H') : aStore P ty a x H = some (.tup [], H', []) := by
  unfold cStore at h
  split at h
  case h_2 => cases h
  rename_i hs
  dsimp only [CF.app] at h
  split at h <;> (try (cases h; done))
  split at h <;> (try (cases h; done))
  split at h <;> (try (cases h; done))
  rename_i hg
  split at h <;> (try (cases h; done))
  split at h <;> (try (cases h; done))
  split at h <;> (try (cases h; done))
  rename_i hok
  split at h <;> cases h
  rename_i L _ _ _ hn
  obtain ⟨h1, _⟩ := nthR_some hn
  rw [setR_eq]
  unfold aStore
  simp only [hg, hs, Bool.true_or]
  have hc : ∀ off, off < L.length → (decide ((cellsA x).length = 1) && decide (off + 1 ≤ (Cells.lit L).len)) = true := fun off h => by
    rw [okCell_cells hok, Bool.and_eq_true]
    exact ⟨rfl, decide_eq_true (show off + 1 ≤ L.length from h)⟩
  rw [hc _ h1]
  simp [okCell_cells hok, Cells.put, Cells.set, allCell, hok, Cells.isLit, chk, consN]

/-! ### Operations -/
section
variable (P : Program) (T : Table)
abbrev KO := Tm → List AB → List Bool → KB → Res
def nil? : List Bool → Bool
  | [] => true
  | _ => false
/-- What a quiet operation hands on. -/
noncomputable def pass (d : Nat) (r : OA) (t : Tm) (H : List AB) (nd : List Bool) (K : KB) (slow : Res) : Res :=
  match r with
  | some z => match z with
    | (v, n) => match n with
      | [] => K (st t d v) H nd
      | b :: n => K (st t d v) H (b :: n ++ nd)
  | none => slow
noncomputable def cArgs : List Operand → CF (Tm → List AV)
  | [] => .mk fun _ => []
  | o :: l => match cOpd o, cArgs l with
    | .mk f, .mk g => .mk fun t => f t :: g t
theorem cArgs_eq : ∀ (l : List Operand) (t : Tm), (cArgs l).app t = l.map (evB t)
  | [], _ => rfl
  | o :: l, t => by
    have h1 := cOpd_eq o t
    have h2 := cArgs_eq l t
    unfold cArgs
    cases hf : cOpd o with
    | mk f => cases hg : cArgs l with
      | mk g =>
        rw [hf] at h1; rw [hg] at h2
        show f t :: g t = _
        rw [List.map_cons, ← h1, ← h2]; rfl
/-- A call of a function that the text names. -/
noncomputable def cCall (c : Call) : Option (FuncId × CF (Tm → List AV)) :=
  match c.callee with
  | .value f => match f with
    | .func g => match P.funcs[g]? with
      | some fn => match fn.body with
        | some _ => match fn.name == "runtime.NumGoroutine" with
          | true => none
          | false => some (g, cArgs c.args.toList)
        | none => none
      | none => none
    | _ => none
  | _ => none
noncomputable def cOp (o : Oper) : CF KO :=
  match o.op.operands.all okOpd with
  | false => .mk fun _ _ _ _ => .fail
  | true => match o.dst with
    | some d => match o.op with
      | .move x => match cOpd x with
        | .mk f => .mk fun t H nd K => K (st t d (f t)) H nd
      | .assign x => match cOpd x with
        | .mk f => .mk fun t H nd K => K (st t d (f t)) H nd
      | .binOp op ty x y _ => match cBin P op ty, cOpd x, cOpd y with
        | .mk b, .mk f, .mk g => .mk fun t H nd K => pass d (b (f t) (g t)) t H nd K .fail
      | .load ty a => match cLoad P ty, cOpd a with
        | .mk b, .mk f => .mk fun t H nd K => pass d (b (f t) H) t H nd K .fail
      | .fieldAddr ty a i => match cFieldAddr P ty i, cOpd a with
        | .mk b, .mk f => .mk fun t H nd K => pass d (b (f t)) t H nd K .fail
      | .indexAddr ty a i => match cIndexAddr P ty, cOpd a, cOpd i with
        | .mk b, .mk f, .mk g => .mk fun t H nd K => pass d (b (f t) (g t)) t H nd K .fail
      | .unOp op _ x => match cOpd x with
        | .mk f => .mk fun t H nd K => pass d (just (aUn op (f t))) t H nd K .fail
      | .call c => match cCall P c with
        | some (g, .mk f) => .mk fun t H nd K => T g (f t) H nd fun v H' nd' => K (st t d v) H' nd'
        | none => .mk fun t H nd K => bStepOp P T o t H nd K
      | _ => .mk fun t H nd K => bStepOp P T o t H nd K
    | none => match o.op with
      | .store ty a x => match cStore P ty, cOpd a, cOpd x with
        | .mk b, .mk f, .mk g => .mk fun t H nd K => match b (f t) (g t) H with
          | some H' => K t H' nd
          | none => bStepOp P T o t H nd K
      | _ => .mk fun t H nd K => bStepOp P T o t H nd K
/-- One that must leave memory alone. -/
noncomputable def cOpQ (o : Oper) : CF (Tm → List AB → List Bool → (Tm → List Bool → Res) → Res) :=
  match o.op.operands.all okOpd with
  | false => .mk fun _ _ _ _ => .fail
  | true => match o.dst with
    | some d => match o.op with
      | .move x => match cOpd x with
        | .mk f => .mk fun t _ nd K => K (st t d (f t)) nd
      | .assign x => match cOpd x with
        | .mk f => .mk fun t _ nd K => K (st t d (f t)) nd
      | .binOp op ty x y _ => match cBin P op ty, cOpd x, cOpd y with
        | .mk b, .mk f, .mk g => .mk fun t H nd K => pass d (b (f t) (g t)) t H nd (fun t _ nd => K t nd) .fail
      | .load ty a => match cLoad P ty, cOpd a with
        | .mk b, .mk f => .mk fun t H nd K => pass d (b (f t) H) t H nd (fun t _ nd => K t nd) .fail
      | .fieldAddr ty a i => match cFieldAddr P ty i, cOpd a with
        | .mk b, .mk f => .mk fun t H nd K => pass d (b (f t)) t H nd (fun t _ nd => K t nd) .fail
      | .indexAddr ty a i => match cIndexAddr P ty, cOpd a, cOpd i with
        | .mk b, .mk f, .mk g => .mk fun t H nd K => pass d (b (f t) (g t)) t H nd (fun t _ nd => K t nd) .fail
      | _ => .mk fun t H nd K => bStepQ P T o t H nd K
    | none => .mk fun t H nd K => bStepQ P T o t H nd K
end
section
variable {P : Program} {T : Table}
theorem pass_eq {op : Op} {d : Nat} {r : OA} {t : Tm} {H : List AB} {nd : List Bool} {K : KB} (h : aop P op (evB t) H = r) (he : eop P op (evB t) H = none) : pass d r t H nd K .fail = bStepA P op (some d) t H nd K := by
  unfold pass bStepA
  rw [h]
  cases r with
  | none => rw [he]
  | some z =>
    obtain ⟨v, n⟩ := z
    cases n <;> rfl
theorem passQ_eq {op : Op} {d : Nat} {r : OA} {t : Tm} {H : List AB} {nd : List Bool} {K : Tm → List Bool → Res} (h : aop P op (evB t) H = r) : pass d r t H nd (fun t _ nd => K t nd) .fail = bStepAQ P op (some d) t H nd K := by
  unfold pass bStepAQ
  rw [h]
  cases r with
  | none => rfl
  | some z =>
    obtain ⟨v, n⟩ := z
    cases n <;> rfl
theorem bStepOp_pure {o : Oper} {op : Op} {t : Tm} {H : List AB} {nd : List Bool} {K : KB} (hok : o.op.operands.all okOpd = true) (ho : o.op = op) (hn : ∀ c, op ≠ .call c) : bStepOp P T o t H nd K = bStepA P op o.dst t H nd K := by
  unfold bStepOp
  rw [if_pos hok, ho]
  cases op <;> first | rfl | exact absurd rfl (hn _)
theorem bStepQ_pure {o : Oper} {op : Op} {t : Tm} {H : List AB} {nd : List Bool} {K : Tm → List Bool → Res} (hok : o.op.operands.all okOpd = true) (ho : o.op = op) (hn : ∀ c, op ≠ .call c) : bStepQ P T o t H nd K = bStepAQ P op o.dst t H nd K := by
  unfold bStepQ
  rw [if_pos hok, ho]
  cases op <;> first | rfl | exact absurd rfl (hn _)
theorem cOp_eq (o : Oper) (t : Tm) (H : List AB) (nd : List Bool) (K : KB) : (cOp P T o).app t H nd K = bStepOp P T o t H nd K := by
  have hop := fun x => cOpd_eq x t
  unfold cOp
  cases hok : o.op.operands.all okOpd with
  | false =>
    unfold bStepOp
    rw [if_neg (by rw [hok]; decide)]; rfl
  | true =>
    cases hd : o.dst with
    | none =>
      dsimp only
      cases ho : o.op
      case store ty a x =>
        dsimp only
        have h1 := hop a
        have h2 := hop x
        cases hb : cStore P ty with
        | mk b => cases hf : cOpd a with
          | mk f => cases hg : cOpd x with
            | mk g =>
              rw [hf] at h1; rw [hg] at h2
              dsimp only [CF.app] at h1 h2 ⊢
              cases hr : b (f t) (g t) H with
              | none => rfl
              | some H' =>
                have h3 : (cStore P ty).app (f t) (g t) H = some H' := by rw [hb]; exact hr
                have h4 := cStore_eq h3
                rw [h1, h2] at h4
                rw [bStepOp_pure hok ho (by simp), hd]
                simp [bStepA, aop, eop, h4, putB]
      all_goals rfl
    | some d =>
      dsimp only
      cases ho : o.op
      case move x =>
        have h1 := hop x
        dsimp only
        cases hf : cOpd x with
        | mk f =>
          rw [hf] at h1
          dsimp only [CF.app] at h1 ⊢
          rw [h1]
          rw [bStepOp_pure hok ho (by simp), hd]
          simp [bStepA, aop, putB]
      case assign x =>
        have h1 := hop x
        dsimp only
        cases hf : cOpd x with
        | mk f =>
          rw [hf] at h1
          dsimp only [CF.app] at h1 ⊢
          rw [h1]
          rw [bStepOp_pure hok ho (by simp), hd]
          simp [bStepA, aop, putB]
      case binOp op ty x y yt =>
        have h1 := hop x
        have h2 := hop y
        dsimp only
        cases hb : cBin P op ty with
        | mk b => cases hf : cOpd x with
          | mk f => cases hg : cOpd y with
            | mk g =>
              have h3 := cBin_eq P op ty (evB t x) (evB t y)
              rw [hf] at h1; rw [hg] at h2; rw [hb] at h3
              dsimp only [CF.app] at h1 h2 h3 ⊢
              rw [h1, h2, h3]
              have := pass_eq (P := P) (op := .binOp op ty x y yt) (d := d) (r := aBin P op ty (evB t x) (evB t y)) (t := t) (H := H) (nd := nd) (K := K) rfl rfl
              rw [this, bStepOp_pure hok ho (by simp), hd]
      case load ty a =>
        have h1 := hop a
        dsimp only
        cases hb : cLoad P ty with
        | mk b => cases hf : cOpd a with
          | mk f =>
            have h3 := cLoad_eq P ty (evB t a) H
            rw [hf] at h1; rw [hb] at h3
            dsimp only [CF.app] at h1 h3 ⊢
            rw [h1, h3]
            have := pass_eq (P := P) (op := .load ty a) (d := d) (r := aLoad P ty (evB t a) H) (t := t) (H := H) (nd := nd) (K := K) rfl rfl
            rw [this, bStepOp_pure hok ho (by simp), hd]
      case fieldAddr ty a i =>
        have h1 := hop a
        dsimp only
        cases hb : cFieldAddr P ty i with
        | mk b => cases hf : cOpd a with
          | mk f =>
            have h3 := cFieldAddr_eq P ty i (evB t a)
            rw [hf] at h1; rw [hb] at h3
            dsimp only [CF.app] at h1 h3 ⊢
            rw [h1, h3]
            have := pass_eq (P := P) (op := .fieldAddr ty a i) (d := d) (r := just (aFieldAddr P ty (evB t a) i)) (t := t) (H := H) (nd := nd) (K := K) rfl rfl
            rw [this, bStepOp_pure hok ho (by simp), hd]
      case indexAddr ty a i =>
        have h1 := hop a
        have h2 := hop i
        dsimp only
        cases hb : cIndexAddr P ty with
        | mk b => cases hf : cOpd a with
          | mk f => cases hg : cOpd i with
            | mk g =>
              have h3 := cIndexAddr_eq P ty (evB t a) (evB t i)
              rw [hf] at h1; rw [hg] at h2; rw [hb] at h3
              dsimp only [CF.app] at h1 h2 h3 ⊢
              rw [h1, h2, h3]
              have := pass_eq (P := P) (op := .indexAddr ty a i) (d := d) (r := aIndexAddr P ty (evB t a) (evB t i)) (t := t) (H := H) (nd := nd) (K := K) rfl rfl
              rw [this, bStepOp_pure hok ho (by simp), hd]
      case unOp op ty x =>
        have h1 := hop x
        dsimp only
        cases hf : cOpd x with
        | mk f =>
          rw [hf] at h1
          dsimp only [CF.app] at h1 ⊢
          rw [h1]
          have := pass_eq (P := P) (op := .unOp op ty x) (d := d) (r := just (aUn op (evB t x))) (t := t) (H := H) (nd := nd) (K := K) rfl rfl
          rw [this, bStepOp_pure hok ho (by simp), hd]
      case call c =>
        dsimp only
        cases hc : cCall P c with
        | none => rfl
        | some z =>
          obtain ⟨g, cf⟩ := z
          cases cf with
          | mk f =>
            unfold cCall at hc
            split at hc <;> (try (cases hc; done))
            rename_i f0 hcal
            split at hc <;> (try (cases hc; done))
            rename_i g0
            split at hc <;> (try (cases hc; done))
            rename_i fn hfn
            split at hc <;> (try (cases hc; done))
            rename_i body hbody
            split at hc <;> (try (cases hc; done))
            rename_i hname
            simp only [Option.some.injEq, Prod.mk.injEq] at hc
            obtain ⟨rfl, hargs⟩ := hc
            have h4 := cArgs_eq c.args.toList t
            rw [hargs] at h4
            dsimp only [CF.app] at h4 ⊢
            rw [h4]
            unfold bStepOp
            rw [if_pos hok, ho]
            simp [aCall, hcal, evB, hfn, hbody, hname, putB, hd]
      all_goals rfl
theorem cOpQ_eq (o : Oper) (t : Tm) (H : List AB) (nd : List Bool) (K : Tm → List Bool → Res) : (cOpQ P T o).app t H nd K = bStepQ P T o t H nd K := by
  have hop := fun x => cOpd_eq x t
  unfold cOpQ
  cases hok : o.op.operands.all okOpd with
  | false =>
    unfold bStepQ
    rw [if_neg (by rw [hok]; decide)]; rfl
  | true =>
    cases hd : o.dst with
    | none => rfl
    | some d =>
      dsimp only
      cases ho : o.op
      case move x =>
        have h1 := hop x
        dsimp only
        cases hf : cOpd x with
        | mk f =>
          rw [hf] at h1
          dsimp only [CF.app] at h1 ⊢
          rw [h1]
          rw [bStepQ_pure hok ho (by simp), hd]
          simp [bStepAQ, aop, putB]
      case assign x =>
        have h1 := hop x
        dsimp only
        cases hf : cOpd x with
        | mk f =>
          rw [hf] at h1
          dsimp only [CF.app] at h1 ⊢
          rw [h1]
          rw [bStepQ_pure hok ho (by simp), hd]
          simp [bStepAQ, aop, putB]
      case binOp op ty x y yt =>
        have h1 := hop x
        have h2 := hop y
        dsimp only
        cases hb : cBin P op ty with
        | mk b => cases hf : cOpd x with
          | mk f => cases hg : cOpd y with
            | mk g =>
              have h3 := cBin_eq P op ty (evB t x) (evB t y)
              rw [hf] at h1; rw [hg] at h2; rw [hb] at h3
              dsimp only [CF.app] at h1 h2 h3 ⊢
              rw [h1, h2, h3]
              have := passQ_eq (P := P) (op := .binOp op ty x y yt) (d := d) (r := aBin P op ty (evB t x) (evB t y)) (t := t) (H := H) (nd := nd) (K := K) rfl
              rw [this, bStepQ_pure hok ho (by simp), hd]
      case load ty a =>
        have h1 := hop a
        dsimp only
        cases hb : cLoad P ty with
        | mk b => cases hf : cOpd a with
          | mk f =>
            have h3 := cLoad_eq P ty (evB t a) H
            rw [hf] at h1; rw [hb] at h3
            dsimp only [CF.app] at h1 h3 ⊢
            rw [h1, h3]
            have := passQ_eq (P := P) (op := .load ty a) (d := d) (r := aLoad P ty (evB t a) H) (t := t) (H := H) (nd := nd) (K := K) rfl
            rw [this, bStepQ_pure hok ho (by simp), hd]
      case fieldAddr ty a i =>
        have h1 := hop a
        dsimp only
        cases hb : cFieldAddr P ty i with
        | mk b => cases hf : cOpd a with
          | mk f =>
            have h3 := cFieldAddr_eq P ty i (evB t a)
            rw [hf] at h1; rw [hb] at h3
            dsimp only [CF.app] at h1 h3 ⊢
            rw [h1, h3]
            have := passQ_eq (P := P) (op := .fieldAddr ty a i) (d := d) (r := just (aFieldAddr P ty (evB t a) i)) (t := t) (H := H) (nd := nd) (K := K) rfl
            rw [this, bStepQ_pure hok ho (by simp), hd]
      case indexAddr ty a i =>
        have h1 := hop a
        have h2 := hop i
        dsimp only
        cases hb : cIndexAddr P ty with
        | mk b => cases hf : cOpd a with
          | mk f => cases hg : cOpd i with
            | mk g =>
              have h3 := cIndexAddr_eq P ty (evB t a) (evB t i)
              rw [hf] at h1; rw [hg] at h2; rw [hb] at h3
              dsimp only [CF.app] at h1 h2 h3 ⊢
              rw [h1, h2, h3]
              have := passQ_eq (P := P) (op := .indexAddr ty a i) (d := d) (r := aIndexAddr P ty (evB t a) (evB t i)) (t := t) (H := H) (nd := nd) (K := K) rfl
              rw [this, bStepQ_pure hok ho (by simp), hd]
      all_goals rfl
end

/-! ### Regions and code -/
section
variable (P : Program) (T : Table)
noncomputable def cGuard (ops : Array Oper) (o : Oper) : CF (Tm → (Tm → Res) → (Tm → Res) → Res) :=
  match o.guard with
  | none => .mk fun t yes _ => yes t
  | some (j, want) => match gDst ops j with
    | none => .mk fun _ _ _ => .fail
    | some d => match want with
      | true => .mk fun t yes no => match gt t d with
        | .b l x => match l with
          | true => match x with
            | true => yes t
            | false => no t
          | false => .ite x (yes (st t d (.b true true))) (no (st t d (.b true false)))
        | .tup [] => no t
        | _ => .fail
      | false => .mk fun t yes no => match gt t d with
        | .b l x => match l with
          | true => match x with
            | true => no t
            | false => yes t
          | false => .ite x (no (st t d (.b true true))) (yes (st t d (.b true false)))
        | .tup [] => no t
        | _ => .fail
noncomputable def cOps (ops : Array Oper) : List Oper → CF KO
  | [] => .mk fun t H nd K => K t H nd
  | o :: rest => match o.guard with
    | none => match cOp P T o, cOps ops rest with
      | .mk f, .mk g => .mk fun t H nd K => f t H nd fun t H nd => g t H nd K
    | some _ => match cGuard ops o, cOp P T o, cOps ops rest with
      | .mk q, .mk f, .mk g => .mk fun t H nd K => q t (fun t => f t H nd fun t H nd => g t H nd K) (fun t => g (putB t o.dst (.tup [])) H nd K)
abbrev KQ := Tm → List AB → List Bool → (Tm → List Bool → Res) → Res
noncomputable def cOpsQ (ops : Array Oper) : List Oper → CF KQ
  | [] => .mk fun t _ nd K => K t nd
  | o :: rest => match o.guard with
    | none => match cOpQ P T o, cOpsQ ops rest with
      | .mk f, .mk g => .mk fun t H nd K => f t H nd fun t nd => g t H nd K
    | some _ => match cGuard ops o, cOpQ P T o, cOpsQ ops rest with
      | .mk q, .mk f, .mk g => .mk fun t H nd K => q t (fun t => f t H nd fun t nd => g t H nd K) (fun t => g (putB t o.dst (.tup [])) H nd K)
noncomputable def cRegion (ops : Array Oper) (draw : Bool) : CF KO :=
  match draw with
  | false => cOps P T ops ops.toList
  | true => match P.follows .mixedOrders && drawOK ops (qN ops) with
    | true => match cOpsQ P T ops (ops.toList.take (qN ops)), cOps P T ops (ops.toList.drop (qN ops)) with
      | .mk f, .mk g => .mk fun t H nd K => f t H nd fun t nd => g t H nd K
    | false => .mk fun _ _ _ _ => .fail
end
section
variable {P : Program} {T : Table}
theorem cGuard_eq (ops : Array Oper) (o : Oper) (t : Tm) (yes no : Tm → Res) : (cGuard ops o).app t yes no = bGuarded ops o t yes no := by
  unfold cGuard bGuarded
  cases o.guard with
  | none => rfl
  | some g =>
    obtain ⟨j, want⟩ := g
    dsimp only
    cases gDst ops j with
    | none => rfl
    | some d =>
      cases want <;> dsimp only [CF.app] <;> cases gt t d <;> first | rfl | (rename_i l x; cases l <;> cases x <;> rfl) | (rename_i l; cases l <;> rfl)
theorem cOps_eq (ops : Array Oper) : ∀ (l : List Oper) (t : Tm) (H : List AB) (nd : List Bool) (K : KB), (cOps P T ops l).app t H nd K = bRunOps P T ops l t H nd K
  | [], _, _, _, _ => rfl
  | o :: rest, t, H, nd, K => by
    have h1 := cGuard_eq ops o
    have h2 := cOp_eq (P := P) (T := T) o
    have h3 := cOps_eq ops rest
    unfold cOps bRunOps
    cases hq : cGuard ops o with
    | mk q => cases hf : cOp P T o with
      | mk f => cases hg : cOps P T ops rest with
        | mk g =>
          rw [hq] at h1; rw [hf] at h2; rw [hg] at h3
          dsimp only [CF.app] at h1 h2 h3
          have key : (q t (fun t => f t H nd fun t H nd => g t H nd K) fun t => g (putB t o.dst (.tup [])) H nd K) = bGuarded ops o t (fun t => bStepOp P T o t H nd fun t H nd => bRunOps P T ops rest t H nd K) (fun t => bRunOps P T ops rest (putB t o.dst (.tup [])) H nd K) := by
            rw [h1]
            congr 1
            · funext t
              rw [h2]
              congr 1
              funext t H nd
              exact h3 t H nd K
            · funext t
              exact h3 _ H nd K
          rw [← key]
          cases hgu : o.guard with
          | some x => rfl
          | none =>
            dsimp only [CF.app]
            rw [h1]
            unfold bGuarded
            rw [hgu]
theorem cOpsQ_eq (ops : Array Oper) : ∀ (l : List Oper) (t : Tm) (H : List AB) (nd : List Bool) (K : Tm → List Bool → Res), (cOpsQ P T ops l).app t H nd K = bRunQ P T ops l t H nd K
  | [], _, _, _, _ => rfl
  | o :: rest, t, H, nd, K => by
    have h1 := cGuard_eq ops o
    have h2 := cOpQ_eq (P := P) (T := T) o
    have h3 := cOpsQ_eq ops rest
    unfold cOpsQ bRunQ
    cases hq : cGuard ops o with
    | mk q => cases hf : cOpQ P T o with
      | mk f => cases hg : cOpsQ P T ops rest with
        | mk g =>
          rw [hq] at h1; rw [hf] at h2; rw [hg] at h3
          dsimp only [CF.app] at h1 h2 h3
          have key : (q t (fun t => f t H nd fun t nd => g t H nd K) fun t => g (putB t o.dst (.tup [])) H nd K) = bGuarded ops o t (fun t => bStepQ P T o t H nd fun t nd => bRunQ P T ops rest t H nd K) (fun t => bRunQ P T ops rest (putB t o.dst (.tup [])) H nd K) := by
            rw [h1]
            congr 1
            · funext t
              rw [h2]
              congr 1
              funext t nd
              exact h3 t H nd K
            · funext t
              exact h3 _ H nd K
          rw [← key]
          cases hgu : o.guard with
          | some x => rfl
          | none =>
            dsimp only [CF.app]
            rw [h1]
            unfold bGuarded
            rw [hgu]
theorem cRegion_eq (ops : Array Oper) (draw : Bool) (t : Tm) (H : List AB) (nd : List Bool) (K : KB) : (cRegion P T ops draw).app t H nd K = bRunRegion P T ops draw t H nd K := by
  unfold cRegion bRunRegion
  cases draw with
  | false => exact cOps_eq ops _ t H nd K
  | true =>
    dsimp only
    cases (P.follows .mixedOrders && drawOK ops (qN ops)) with
    | false => rfl
    | true =>
      dsimp only
      have h1 := cOpsQ_eq (P := P) (T := T) ops (ops.toList.take (qN ops))
      have h2 := cOps_eq (P := P) (T := T) ops (ops.toList.drop (qN ops))
      cases hf : cOpsQ P T ops (ops.toList.take (qN ops)) with
      | mk f => cases hg : cOps P T ops (ops.toList.drop (qN ops)) with
        | mk g =>
          rw [hf] at h1; rw [hg] at h2
          dsimp only [CF.app] at h1 h2 ⊢
          rw [h1]
          congr 1
          funext t nd
          exact h2 t H nd K
end

/-- The next thing that does something. -/
inductive CN where
  | done
  | stop (k : List Item)
  | region (id : Nat) (ops : Array Oper) (draw : Bool) (k : List Item)
  | cond (c : Operand) (a b : Code) (k : List Item)
  | fail
def cNext (stop : List Item → Bool) : Nat → List Item → CN
  | 0, _ => .fail
  | n + 1, todo =>
    let next : List Item → CN := fun k => match stop k with
      | true => .stop k
      | false => cNext stop n k
    match todo with
    | [] => .done
    | .inBlock _ :: k => next k
    | .inLoop c :: k => next (.code c :: .inLoop c :: k)
    | .code c :: k =>
      match c with
      | .skip => next k
      | .label _ => next k
      | .ret => .done
      | .seq a b => next (.code a :: .code b :: k)
      | .cond c a b => .cond c a b k
      | .block id c => next (.code c :: .inBlock id :: k)
      | .loop c => next (.code c :: .inLoop c :: k)
      | .exit id => match exitTo id k with
        | some k' => next k'
        | none => .fail
      | .region id ops draw => .region id ops draw k
      | _ => .fail
    | _ => .fail
section
variable (P : Program) (T : Table) (stop : List Item → Bool)
/-- Like 'runS'. -/
noncomputable def cRun : Nat → List Item → Tm → List AB → List Bool → KB → (List Item → KB) → Res
  | 0, _, _, _, _, _, _ => .fail
  | n + 1, todo, t, H, nd, KE, KS =>
    match cNext stop 100 todo with
    | .done => KE t H nd
    | .stop k => KS k t H nd
    | .region _ ops draw k => match cRegion P T ops draw, stop k with
      | .mk f, true => f t H nd (KS k)
      | .mk f, false => f t H nd fun t H nd => cRun n k t H nd KE KS
    | .cond c a b k => match okOpd c, cOpd c, stop (.code a :: k), stop (.code b :: k) with
      | true, .mk f, sa, sb => match f t with
        | .b l x => match l with
          | true => match x with
            | true => match sa with
              | true => KS (.code a :: k) t H nd
              | false => cRun n (.code a :: k) t H nd KE KS
            | false => match sb with
              | true => KS (.code b :: k) t H nd
              | false => cRun n (.code b :: k) t H nd KE KS
          | false => .ite x
            (match sa with
              | true => KS (.code a :: k) t H nd
              | false => cRun n (.code a :: k) t H nd KE KS)
            (match sb with
              | true => KS (.code b :: k) t H nd
              | false => cRun n (.code b :: k) t H nd KE KS)
        | _ => .fail
      | false, _, _, _ => .fail
    | .fail => .fail
end

/-! ### What it says -/
theorem Tm.ext' : ∀ (a b : Tm), (∀ n, hasT a n = hasT b n) → (∀ n, gt a n = gt b n) → a = b
  | .nil, .nil, _, _ => rfl
  | .nil, .node v l r, h, _ => by have := h 0; cases this
  | .node v l r, .nil, h, _ => by have := h 0; cases this
  | .node v l r, .node v' l' r', h, g => by
    have e : ∀ n, Nat.mod (2 * n) 2 = 0 := fun n => by show 2 * n % 2 = 0; omega
    have o : ∀ n, Nat.mod (2 * n + 1) 2 = 1 := fun n => by show (2 * n + 1) % 2 = 1; omega
    have e2 : ∀ n, 2 * n / 2 = n := fun n => by omega
    have o2 : ∀ n, (2 * n + 1) / 2 = n := fun n => by omega
    have hv : v = v' := g 0
    have hl := Tm.ext' l l' (fun n => by have := h (2 * n + 1); rwa [has_even (e n), has_even (e n), e2] at this) (fun n => by have := g (2 * n + 1); rwa [gt_even (e n), gt_even (e n), e2] at this)
    have hr := Tm.ext' r r' (fun n => by have := h (2 * n + 1 + 1); rwa [has_odd (o n), has_odd (o n), o2] at this) (fun n => by have := g (2 * n + 1 + 1); rwa [gt_odd (o n), gt_odd (o n), o2] at this)
    rw [hv, hl, hr]
theorem R.uniq {τ : Tm} {t : List AV} (h : R τ t) : τ = ofL t := Tm.ext' _ _ (fun n => by rw [h.has, (ofL_R t).has]) (fun n => by rw [h.get, (ofL_R t).get])
theorem KR.all (K : KB) : KR K fun t H nd => K (ofL t) H nd := fun τ t H nd h => by rw [h.uniq]

section
variable {P : Program} {T : Table}
theorem region_reach {id : Nat} {ops : Array Oper} {draw : Bool} {k : List Item} {t t1 : List AV} {H H1 : List AB} (h : RegionOK P id ops draw t H t1 H1) : Reach P (.code (.region id ops draw) :: k) t H k t1 H1 := fun σ w a b cs s r => by
  obtain ⟨e, a1, w1, ⟨he, σ1, r1, d1, s1, f1⟩, harr⟩ := h σ w a (fun e a1 w1 => e = .normal ∧ ∃ σ1, RelL σ1 t1 a1.tmps.toList ∧ a1.defers = a.defers ∧ Sim σ1 H1 w1 ∧ Fr σ H w σ1 H1 w1) s r
    (fun a1 w1 σ1 r1 d1 s1 f1 => ⟨rfl, σ1, r1, d1, s1, f1⟩) b k cs
  subst he
  exact ⟨a1, w1, σ1, harr, r1, d1, s1, f1⟩
theorem cond_reach {c : Operand} {x y : Code} {k : List Item} {t : List AV} {H : List AB} {l v : Bool} (hok : okOpd c = true) (hv : evA t c = .b l v) : Reach P (.code (.cond c x y) :: k) t H (.code (if v then x else y) :: k) t H := fun σ w a b cs s r => by
  have hc : a.eval c = .bool v := by
    have := evA_rel r hok
    rw [hv] at this
    cases hx : a.eval c <;> rw [hx] at this <;> cases this
    rfl
  exact ⟨a, w, σ, .head (step_cond hc) (.refl _ _), r, rfl, s, Fr.refl _ _ _⟩
theorem cRegion_sound (hT : SoundT P T) (id : Nat) (ops : Array Oper) (draw : Bool) (k : List Item) {τ : Tm} {t : List AV} (h : R τ t) (H : List AB) (nd : List Bool) (K : KB) : ((cRegion P T ops draw).app τ H nd K).sel = .fail ∨
    ∃ t' H' nd', ((cRegion P T ops draw).app τ H nd K).sel = (K (ofL t') H' nd').sel ∧ (allT nd' = true → allT nd = true ∧ Reach P (.code (.region id ops draw) :: k) t H k t' H') := by
  rw [cRegion_eq, bRunRegion_eq h (KR.all K)]
  rcases runRegion_sound (ops := ops) (H := H) hT id draw t nd (fun t H nd => K (ofL t) H nd) with h1 | ⟨t', H', nd', h1, h2⟩
  · exact .inl h1
  · exact .inr ⟨t', H', nd', h1, fun hn => ⟨(h2 hn).1, region_reach (h2 hn).2⟩⟩

def NextOK (P : Program) (todo : List Item) (t : List AV) (H : List AB) : CN → Prop
  | .done => Ends P todo t H t H
  | .stop k => Reach P todo t H k t H
  | .region id ops draw k => Reach P todo t H (.code (.region id ops draw) :: k) t H
  | .cond c a b k => Reach P todo t H (.code (.cond c a b) :: k) t H
  | .fail => True
theorem NextOK.head {todo todo1 : List Item} {t : List AV} {H : List AB} {c : CN} (h : NextOK P todo1 t H c)
    (hs : ∀ (w : World) (a : Act) (b : Frame) (cs : List Frame), step P (lone (b.at a todo) cs w) = .next (lone (b.at a todo1) cs w)) : NextOK P todo t H c := by
  cases c
  case done => exact Ends.head h hs
  case stop => exact Reach.head h hs
  case region => exact Reach.head h hs
  case cond => exact Reach.head h hs
  case fail => trivial
theorem cNext_ok (stop : List Item → Bool) (t : List AV) (H : List AB) : ∀ (n : Nat) (todo : List Item), NextOK P todo t H (cNext stop n todo)
  | 0, _ => trivial
  | n + 1, todo => by
    have nxt : ∀ k, NextOK P k t H (match stop k with
        | true => .stop k
        | false => cNext stop n k) := fun k => by
      cases stop k with
      | true => exact Reach.refl k t H
      | false => exact cNext_ok stop t H n k
    unfold cNext
    cases todo with
    | nil => exact fun σ w a b cs s r => ⟨a, w, σ, [], .one step_end, r, rfl, s, Fr.refl _ _ _⟩
    | cons i k =>
      cases i
      case inBlock => exact (nxt _).head fun _ _ _ _ => step_inBlock
      case inLoop => exact (nxt _).head fun _ _ _ _ => step_inLoop
      case code c =>
        cases c
        case skip => exact (nxt _).head fun _ _ _ _ => step_skip
        case label => exact (nxt _).head fun _ _ _ _ => step_label
        case ret => exact fun σ w a b cs s r => ⟨a, w, σ, _, .one step_ret, r, rfl, s, Fr.refl _ _ _⟩
        case seq => exact (nxt _).head fun _ _ _ _ => step_seq
        case block => exact (nxt _).head fun _ _ _ _ => step_block
        case loop => exact (nxt _).head fun _ _ _ _ => step_loop
        case exit id =>
          dsimp only
          cases hk : exitTo id k with
          | some k' => exact (nxt _).head fun _ _ _ _ => step_exit hk
          | none => trivial
        case region id ops draw => exact Reach.refl _ t H
        case cond c a b => exact Reach.refl _ t H
        all_goals trivial
      all_goals trivial

theorem cRun_sound {stop : List Item → Bool} (hT : SoundT P T) (KE : KB) (KS : List Item → KB) : ∀ (n : Nat) (todo : List Item) (τ : Tm) (t : List AV) (H : List AB) (nd : List Bool), R τ t → (cRun P T stop n todo τ H nd KE KS).sel = .fail ∨
    (∃ t' H' nd', (cRun P T stop n todo τ H nd KE KS).sel = (KE (ofL t') H' nd').sel ∧ (allT nd' = true → allT nd = true ∧ Ends P todo t H t' H')) ∨
    (∃ todo' t' H' nd', (cRun P T stop n todo τ H nd KE KS).sel = (KS todo' (ofL t') H' nd').sel ∧ (allT nd' = true → allT nd = true ∧ Reach P todo t H todo' t' H'))
  | 0, _, _, _, _, _, _ => .inl rfl
  | n + 1, todo, τ, t, H, nd, h => by
    have hN := cNext_ok (P := P) stop t H 100 todo
    have goon : ∀ (k : List Item) (τ1 : Tm) (t1 : List AV) (H1 : List AB) (nd1 : List Bool), R τ1 t1 →
        ((match stop k with
          | true => KS k τ1 H1 nd1
          | false => cRun P T stop n k τ1 H1 nd1 KE KS).sel = .fail ∨
        (∃ t' H' nd', (match stop k with
          | true => KS k τ1 H1 nd1
          | false => cRun P T stop n k τ1 H1 nd1 KE KS).sel = (KE (ofL t') H' nd').sel ∧ (allT nd' = true → allT nd1 = true ∧ Ends P k t1 H1 t' H')) ∨
        (∃ todo' t' H' nd', (match stop k with
          | true => KS k τ1 H1 nd1
          | false => cRun P T stop n k τ1 H1 nd1 KE KS).sel = (KS todo' (ofL t') H' nd').sel ∧ (allT nd' = true → allT nd1 = true ∧ Reach P k t1 H1 todo' t' H'))) := fun k τ1 t1 H1 nd1 h1 => by
      cases stop k with
      | true => exact .inr (.inr ⟨k, t1, H1, nd1, by rw [h1.uniq], fun hn => ⟨hn, .refl _ _ _⟩⟩)
      | false => exact cRun_sound hT KE KS n k τ1 t1 H1 nd1 h1
    unfold cRun
    cases hc : cNext stop 100 todo with
    | done =>
      rw [hc] at hN
      exact .inr (.inl ⟨t, H, nd, by rw [h.uniq], fun hn => ⟨hn, hN⟩⟩)
    | stop k =>
      rw [hc] at hN
      exact .inr (.inr ⟨k, t, H, nd, by rw [h.uniq], fun hn => ⟨hn, hN⟩⟩)
    | fail => exact .inl rfl
    | region id ops draw k =>
      rw [hc] at hN
      have hN : Reach P todo t H (.code (.region id ops draw) :: k) t H := hN
      dsimp only
      have hR := fun K => cRegion_sound hT id ops draw k h H nd K
      cases hf : cRegion P T ops draw with
      | mk f =>
        rw [hf] at hR
        dsimp only [CF.app] at hR
        cases hs : stop k with
        | true =>
          dsimp only
          rcases hR (KS k) with h1 | ⟨t1, H1, nd1, h1, h2⟩
          · exact .inl h1
          · exact .inr (.inr ⟨k, t1, H1, nd1, h1, fun hn => ⟨(h2 hn).1, hN.trans (h2 hn).2⟩⟩)
        | false =>
          dsimp only
          rcases hR (fun t H nd => cRun P T stop n k t H nd KE KS) with h1 | ⟨t1, H1, nd1, h1, h2⟩
          · exact .inl h1
          rw [h1]
          have := goon k (ofL t1) t1 H1 nd1 (ofL_R t1)
          rw [hs] at this
          rcases this with h3 | ⟨t', H', nd', h3, h4⟩ | ⟨todo', t', H', nd', h3, h4⟩
          · exact .inl h3
          · refine .inr (.inl ⟨t', H', nd', h3, fun hn => ?_⟩)
            obtain ⟨h5, h6⟩ := h4 hn
            exact ⟨(h2 h5).1, (hN.trans (h2 h5).2).ends h6⟩
          · refine .inr (.inr ⟨todo', t', H', nd', h3, fun hn => ?_⟩)
            obtain ⟨h5, h6⟩ := h4 hn
            exact ⟨(h2 h5).1, (hN.trans (h2 h5).2).trans h6⟩
    | cond c a b k =>
      rw [hc] at hN
      have hN : Reach P todo t H (.code (.cond c a b) :: k) t H := hN
      dsimp only
      have hO := cOpd_eq c τ
      rw [h.ev] at hO
      cases hok : okOpd c with
      | false => exact .inl rfl
      | true =>
        cases hf : cOpd c with
        | mk f =>
          rw [hf] at hO
          dsimp only [CF.app] at hO ⊢
          rw [hO]
          cases hv : evA t c
          case b l v =>
            have two : ∀ z : Code, z = (if v then a else b) →
                ((match stop (.code z :: k) with
                  | true => KS (.code z :: k) τ H nd
                  | false => cRun P T stop n (.code z :: k) τ H nd KE KS).sel = .fail ∨
                (∃ t' H' nd', (match stop (.code z :: k) with
                  | true => KS (.code z :: k) τ H nd
                  | false => cRun P T stop n (.code z :: k) τ H nd KE KS).sel = (KE (ofL t') H' nd').sel ∧ (allT nd' = true → allT nd = true ∧ Ends P todo t H t' H')) ∨
                (∃ todo' t' H' nd', (match stop (.code z :: k) with
                  | true => KS (.code z :: k) τ H nd
                  | false => cRun P T stop n (.code z :: k) τ H nd KE KS).sel = (KS todo' (ofL t') H' nd').sel ∧ (allT nd' = true → allT nd = true ∧ Reach P todo t H todo' t' H'))) := fun z hz => by
              have hcr := hN.trans (cond_reach (P := P) (x := a) (y := b) (k := k) (H := H) hok hv)
              rw [← hz] at hcr
              rcases goon (.code z :: k) τ t H nd h with h3 | ⟨t', H', nd', h3, h4⟩ | ⟨todo', t', H', nd', h3, h4⟩
              · exact .inl h3
              · exact .inr (.inl ⟨t', H', nd', h3, fun hn => ⟨(h4 hn).1, hcr.ends (h4 hn).2⟩⟩)
              · exact .inr (.inr ⟨todo', t', H', nd', h3, fun hn => ⟨(h4 hn).1, hcr.trans (h4 hn).2⟩⟩)
            cases l with
            | true => cases v with
              | true => exact two _ rfl
              | false => exact two _ rfl
            | false => cases v with
              | true => exact two _ rfl
              | false => exact two _ rfl
          all_goals exact .inl rfl
end

/-! ### Calls -/
abbrev CTab := FuncId → CF (List AV → List AB → List Bool → KF → Res)
noncomputable def tabOf (C : CTab) : Table := fun f args H nd K => (C f).app args H nd K
section
variable (P : Program)
noncomputable def cFun (T : Table) (n : Nat) (f : FuncId) : CF (List AV → List AB → List Bool → KF → Res) :=
  match P.funcs[f]? with
  | some fn => match fn.body with
    | some c => .mk fun args H nd K => match Nat.ble args.length fn.ntmps with
      | true => cRun P T (fun _ => false) n [.code c] (stAll (mkT fn.ntmps fn.ntmps) 0 args) H nd (retB P fn K) (fun _ _ _ _ => .fail)
      | false => .fail
    | none => .mk fun _ _ _ _ => .fail
  | none => .mk fun _ _ _ _ => .fail
def lookC : List (FuncId × Table) → FuncId → Option Table
  | [], _ => none
  | (g, T) :: l, f => match Nat.beq f g with
    | true => some T
    | false => lookC l f
/-- Like 'deep'. -/
noncomputable def cdeep (l : List (FuncId × Table)) (inl : List FuncId) (n : Nat) : Nat → CTab
  | 0 => fun _ => .mk fun _ _ _ _ => .fail
  | d + 1 => fun f => match lookC l f with
    | some T => .mk (T f)
    | none => match cFun P (tabOf (cdeep l inl n d)) n f with
      | .mk F => match inl.any (Nat.beq f) with
        | true => .mk F
        | false => .mk fun args H nd K => match joinR H.length (F args (roH H) [] fun v H' nd' => .ret v H' nd') with
          | some (v, nd') => K v H (nd' ++ nd)
          | none => .fail
end
section
variable {P : Program}
theorem cFun_sound {T : Table} (hT : SoundT P T) (n : Nat) : SoundT P (tabOf (cFun P T n)) := by
  intro f args H nd K
  unfold tabOf cFun
  cases hf : P.funcs[f]? with
  | none => exact .inl rfl
  | some fn =>
    dsimp only
    cases hc : fn.body with
    | none => exact .inl rfl
    | some c =>
      dsimp only [CF.app]
      cases hle : Nat.ble args.length fn.ntmps with
      | false => exact .inl rfl
      | true =>
        have hle := Nat.le_of_ble_eq_true hle
        have hR := stAll_R args _ _ 0 (mkT_R fn.ntmps fn.ntmps (Nat.le_refl _))
        rw [args_list args fn.ntmps hle] at hR
        dsimp only
        rcases cRun_sound hT (retB P fn K) (fun _ _ _ _ => .fail) n [.code c] _ _ H nd hR with h | ⟨t', H', nd', h1, h2⟩ | ⟨_, _, _, _, h1, _⟩
        · exact .inl h
        · rw [h1]
          unfold retB
          rw [resB_eq P (ofL_R t')]
          cases hr : resV P t' H' fn.results.toList with
          | none => exact .inl rfl
          | some z =>
            obtain ⟨vs, m⟩ := z
            refine .inr ⟨tupV vs, H', m ++ nd', rfl, fun hn => ?_⟩
            rw [allT_append, Bool.and_eq_true] at hn
            exact ⟨(h2 hn.2).1, call_of_ends hf hc (h2 hn.2).2 hr hn.1⟩
        · exact .inl h1
theorem lookC_some : ∀ {l : List (FuncId × Table)} {f : FuncId} {T : Table}, lookC l f = some T → (f, T) ∈ l
  | [], _, _, h => by cases h
  | (g, T') :: l, f, T, h => by
    unfold lookC at h
    split at h
    · rename_i hb
      have : f = g := Nat.eq_of_beq_eq_true hb
      subst this
      cases h
      exact List.mem_cons_self
    · exact List.mem_cons_of_mem _ (lookC_some h)
theorem cdeep_sound {l : List (FuncId × Table)} {inl : List FuncId} {n : Nat} (h : ∀ p ∈ l, SoundAt P p.1 p.2) : ∀ d, SoundT P (tabOf (cdeep P l inl n d))
  | 0 => fun _ _ _ _ _ => .inl rfl
  | d + 1 => fun f args H nd K => by
    have ih := cFun_sound (cdeep_sound (inl := inl) (n := n) h d) n
    have hq := quiet_sound ih
    unfold tabOf cdeep
    cases hl : lookC l f with
    | some T => exact h _ (lookC_some hl) args H nd K
    | none =>
      have h1 := ih f args H nd K
      have h2 := hq f args H nd K
      unfold quiet at h2
      unfold tabOf at h1 h2
      dsimp only
      cases hF : cFun P (tabOf (cdeep P l inl n d)) n f with
      | mk F =>
        have e : cFun P (fun f args H nd K => (cdeep P l inl n d f).app args H nd K) n f = .mk F := hF
        rw [e] at h1 h2
        dsimp only [CF.app] at h1 h2
        cases inl.any (Nat.beq f) with
        | true => exact h1
        | false => exact h2
/-- Like 'toLoop', to any place. -/
noncomputable def cupto (P : Program) (T : Table) (stop : List Item → Bool) (n : Nat) (todo : List Item) (t : List AV) (H : List AB) : Res :=
  cRun P T stop n todo (ofL t) H [] (fun τ H nd => .ret (.tup (listT τ)) H nd) (fun todo τ H nd => .stop todo (listT τ) H nd)
theorem cupto_reach {T : Table} {stop : List Item → Bool} {n : Nat} {todo todo' : List Item} {t t' : List AV} {H H' : List AB} {nd : List Bool} (hT : SoundT P T) (h : (cupto P T stop n todo t H).sel = .stop todo' t' H' nd) (hn : allT nd = true) : Reach P todo t H todo' t' H' := by
  rcases cRun_sound (stop := stop) hT (fun τ H nd => .ret (.tup (listT τ)) H nd) (fun todo τ H nd => .stop todo (listT τ) H nd) n todo _ t H [] (ofL_R t) with h1 | ⟨t1, H1, nd1, h1, h2⟩ | ⟨todo1, t1, H1, nd1, h1, h2⟩
  · unfold cupto at h; rw [h] at h1; cases h1
  · unfold cupto at h; rw [h] at h1; cases h1
  · unfold cupto at h; rw [h, (ofL_R t1).list] at h1; cases h1
    exact (h2 hn).2
theorem cupto_ends {T : Table} {stop : List Item → Bool} {n : Nat} {todo : List Item} {t t' : List AV} {H H' : List AB} {nd : List Bool} (hT : SoundT P T) (h : (cupto P T stop n todo t H).sel = .ret (.tup t') H' nd) (hn : allT nd = true) : Ends P todo t H t' H' := by
  rcases cRun_sound (stop := stop) hT (fun τ H nd => .ret (.tup (listT τ)) H nd) (fun todo τ H nd => .stop todo (listT τ) H nd) n todo _ t H [] (ofL_R t) with h1 | ⟨t1, H1, nd1, h1, h2⟩ | ⟨todo1, t1, H1, nd1, h1, h2⟩
  · unfold cupto at h; rw [h] at h1; cases h1
  · unfold cupto at h; rw [h, (ofL_R t1).list] at h1; cases h1
    exact (h2 hn).2
  · unfold cupto at h; rw [h] at h1; cases h1
end
end Go.Ax
