/- Drawn lists: a row. -/
import Derived.Test.YtdcjjibekhcplaaDbe
namespace Go.Ax
open Go Go.Proofs

noncomputable def drawLV (ok : Nat → Bool) (f : FuncId) (c : Cd) : List Nat := open Classical in if hx : ∃ xs, ok xs.length = true ∧ DrawL f c xs then hx.choose else []
theorem drawLV_ok {ok : Nat → Bool} {f : FuncId} {c : Cd} (h : ∃ xs, ok xs.length = true ∧ DrawL f c xs) : ok (drawLV ok f c).length = true ∧ DrawL f c (drawLV ok f c) := by
  unfold drawLV
  rw [dif_pos h]
  exact h.choose_spec
noncomputable def drawLT (ok : Nat → Bool) : Table := fun f args H nd K =>
  match args, H with
  | [s], B :: Hr => match readSl s, readCode B with
    | some (o, n), some (o', b) => K (.sl false (Hr.length + 1) 0 (drawLV ok f ⟨b, o', n⟩).length 1) (B :: (Hr ++ [.cells false (.f32 (drawLV ok f ⟨b, o', n⟩))])) (okB ⟨b, o', n⟩ o n :: nd)
    | _, _ => .fail
  | _, _ => .fail
theorem drawLT_at {ok : Nat → Bool} {f : FuncId} (h : ∀ c, goodB c = true → ∃ xs, ok xs.length = true ∧ DrawL f c xs) : SoundAt Try.prog f (drawLT ok) := fun args H nd K => by
  unfold drawLT
  split
  case h_2 => exact .inl rfl
  rename_i s B Hr
  split
  case h_2 => exact .inl rfl
  rename_i o n o' b hs hb
  refine .inr ⟨_, _, _, rfl, fun hn => ?_⟩
  simp only [allT, Bool.and_eq_true, okB] at hn
  obtain ⟨⟨⟨hg, ho⟩, _⟩, hnd⟩ := hn
  have ho : o = o' := of_decide_eq_true ho
  subst ho
  refine ⟨hnd, ?_⟩
  obtain ⟨l, rfl⟩ := readSl_spec hs
  have hB := readCode_spec hb
  subst hB
  exact ((drawLV_ok (h _ hg)).2 Hr).bare (args' := [.sl l 0 o n 0]) rfl
end Go.Ax

/- A function cut at a place: where to stop, and what of memory is kept. -/
namespace Go.Ax
open Go Go.Proofs

def seqLen : Code → Nat
  | .seq _ b => seqLen b + 1
  | _ => 0
/-- Where so many statements are left. -/
def atCut (m : Nat) : List Item → Bool
  | .code c :: [] => Nat.beq (seqLen c) m
  | _ => false
def dropSeq : Nat → Code → Code
  | 0, c => c
  | n + 1, .seq _ b => dropSeq n b
  | _ + 1, c => c
def belowB (n : Nat) : AB → Bool
  | .cells _ (.lit l) => belowL n l
  | _ => true
def belowH (n : Nat) : List AB → Bool
  | [] => true
  | B :: H => belowB n B && belowH n H
theorem renI_lt {k i : Nat} (h : i < k) : renI k i = some i := by
  unfold renI
  rw [decide_eq_true h]
mutual
theorem renV_lt {n k : Nat} (hk : n ≤ k) : ∀ {a : AV}, below n a = true → renV k a = a
  | .p l id off, h => by
    have h : id < n := by simpa [below] using h
    simp only [renV, renI_lt (Nat.lt_of_lt_of_le h hk)]
  | .sl l id off len z, h => by
    have h : id < n := by simpa [below] using h
    simp only [renV, renI_lt (Nat.lt_of_lt_of_le h hk)]
  | .fn g f c, h => by
    simp only [below, Bool.and_eq_true] at h
    simp only [renV, renL_lt hk h.1, renL_lt hk h.2]
  | .ifc t v, h => by
    simp only [below] at h
    simp only [renV, renV_lt hk h]
  | .agg l, h => by
    simp only [below] at h
    simp only [renV, renL_lt hk h]
  | .tup l, h => by
    simp only [below] at h
    simp only [renV, renL_lt hk h]
  | .b _ _, _ => rfl
  | .i _ _ _, _ => rfl
  | .f _ _ _, _ => rfl
  | .c _ _ _ _, _ => rfl
  | .s _ _, _ => rfl
  | .pnil, _ => rfl
  | .slnil, _ => rfl
  | .sle, _ => rfl
  | .fnil, _ => rfl
  | .inil, _ => rfl
  | .any, _ => rfl
theorem renL_lt {n k : Nat} (hk : n ≤ k) : ∀ {l : List AV}, belowL n l = true → renL k l = l
  | [], _ => rfl
  | a :: l, h => by
    simp only [belowL, Bool.and_eq_true] at h
    simp only [renL, renV_lt hk h.1, renL_lt hk h.2]
end
theorem renB_lt {n k : Nat} (hk : n ≤ k) {B : AB} (h : belowB n B = true) : renB k B = B := by
  cases B with
  | cells r A =>
    cases A with
    | lit l => simp only [renB, renL_lt hk (show belowL n l = true from h)]
    | _ => rfl
  | _ => rfl
theorem dropB_snoc {n k0 : Nat} (hk : n ≤ k0) : ∀ {H : List AB} {B : AB}, belowH n H = true → dropB k0 H.length (H ++ [B]) = H
  | [], _, _ => rfl
  | A :: H, B, h => by
    simp only [belowH, Bool.and_eq_true] at h
    simp only [List.cons_append, List.length_cons, dropB, renB_lt hk h.1, dropB_snoc hk h.2]
theorem belowH_append {n : Nat} : ∀ {H G : List AB}, belowH n (H ++ G) = (belowH n H && belowH n G)
  | [], _ => rfl
  | B :: H, G => by simp only [List.cons_append, belowH, belowH_append (H := H), Bool.and_assoc]
section
variable {P : Program}
/-- The last block, which nothing names, is let go. -/
theorem Reach.last {todo todo' : List Item} {t t1 : List AV} {H H1 : List AB} {B : AB} (h : Reach P todo t H todo' t1 (H1 ++ [B])) (hl : H.length ≤ H1.length) (ht : belowL H1.length t1 = true) (hB : belowH H1.length H1 = true) : Reach P todo t H todo' t1 H1 := by
  have k := h.drop H1.length hl (by simp)
  rwa [renL_lt (Nat.le_refl _) ht, dropB_snoc (Nat.le_refl _) hB] at k
mutual
theorem below_mono {n m : Nat} (hnm : n ≤ m) : ∀ {a : AV}, below n a = true → below m a = true
  | .p l id off, h => by simp [below] at h ⊢; omega
  | .sl l id off len z, h => by simp [below] at h ⊢; omega
  | .fn g f c, h => by
    simp only [below, Bool.and_eq_true] at h ⊢
    exact ⟨belowL_mono hnm h.1, belowL_mono hnm h.2⟩
  | .ifc t v, h => by
    simp only [below] at h ⊢
    exact below_mono hnm h
  | .agg l, h => by
    simp only [below] at h ⊢
    exact belowL_mono hnm h
  | .tup l, h => by
    simp only [below] at h ⊢
    exact belowL_mono hnm h
  | .b _ _, _ => rfl
  | .i _ _ _, _ => rfl
  | .f _ _ _, _ => rfl
  | .c _ _ _ _, _ => rfl
  | .s _ _, _ => rfl
  | .pnil, _ => rfl
  | .slnil, _ => rfl
  | .sle, _ => rfl
  | .fnil, _ => rfl
  | .inil, _ => rfl
  | .any, _ => rfl
theorem belowL_mono {n m : Nat} (hnm : n ≤ m) : ∀ {l : List AV}, belowL n l = true → belowL m l = true
  | [], _ => rfl
  | a :: l, h => by
    simp only [belowL, Bool.and_eq_true] at h ⊢
    exact ⟨below_mono hnm h.1, belowL_mono hnm h.2⟩
end
theorem belowH_mono {n m : Nat} (hnm : n ≤ m) : ∀ {H : List AB}, belowH n H = true → belowH m H = true
  | [], _ => rfl
  | B :: H, h => by
    simp only [belowH, Bool.and_eq_true] at h ⊢
    refine ⟨?_, belowH_mono hnm h.2⟩
    cases B with
    | cells r A =>
      cases A with
      | lit l => exact belowL_mono hnm h.1
      | _ => rfl
    | _ => rfl
/-- A block out of use: whatever it holds. -/
theorem Reach.dead {todo todo' : List Item} {t t1 : List AV} {H H1 : List AB} {B : AB} {G : List AB} (h : Reach P todo t H todo' t1 (H1 ++ B :: G)) (hl : H.length ≤ H1.length) : Reach P todo t H todo' t1 (H1 ++ .dead :: G) := fun σ w a b cs s r => by
  obtain ⟨a', w', σ', e1, r1, d1, s1, f1⟩ := h σ w a b cs s r
  have hg : ∀ i, i ≠ H1.length → getB (H1 ++ .dead :: G) i = getB (H1 ++ B :: G) i := fun i hi => by
    rcases Nat.lt_or_ge i H1.length with h | h
    · rw [getB_append_left h, getB_append_left h]
    · rw [getB_append_right h, getB_append_right h]
      match hd : i - H1.length with
      | 0 => omega
      | k + 1 => rfl
  have hd : getB (H1 ++ .dead :: G) H1.length = .dead := by
    rw [getB_append_right (Nat.le_refl _), Nat.sub_self]; rfl
  refine ⟨a', w', σ', e1, r1, d1, ⟨by rw [s1.len]; simp, fun i b z hb => ?_, fun i j b z z' hi hj hr hl' => ?_⟩, ⟨f1.os, f1.tape, f1.output, f1.size, f1.old, f1.ext, f1.new, fun i hi hr => ?_⟩⟩
  · by_cases hi : i = H1.length
    · subst hi; rw [hd]; trivial
    · rw [hg i hi]; exact s1.blk i b z hb
  · by_cases hi' : i = H1.length
    · subst hi'; rw [hd] at hr; cases hr
    · by_cases hj' : j = H1.length
      · subst hj'; rw [hd] at hl'; cases hl'
      · rw [hg i hi'] at hr
        rw [hg j hj'] at hl'
        exact s1.inj i j b z z' hi hj hr hl'
  · have hl0 := s.len
    rw [hg i (by omega)] at hr
    exact f1.mono i hi hr
theorem Reach.deadAll {todo todo' : List Item} {t t1 : List AV} {H : List AB} : ∀ {G H1 : List AB}, Reach P todo t H todo' t1 (H1 ++ G) → H.length ≤ H1.length → Reach P todo t H todo' t1 (H1 ++ List.replicate G.length .dead)
  | [], _, h, _ => h
  | B :: G, H1, h, hl => by
    have h1 := h.dead hl
    have e : H1 ++ AB.dead :: G = (H1 ++ [AB.dead]) ++ G := by simp
    rw [e] at h1
    have h2 := Reach.deadAll h1 (by simp; omega)
    have e2 : H1 ++ [AB.dead] ++ List.replicate G.length AB.dead = H1 ++ List.replicate (B :: G).length AB.dead := by simp [List.replicate_succ]
    rwa [e2] at h2
theorem belowH_dead (n : Nat) : ∀ m, belowH n (List.replicate m .dead) = true
  | 0 => rfl
  | m + 1 => by simp only [List.replicate_succ, belowH, belowH_dead n m]; rfl
theorem Reach.dropAll {todo todo' : List Item} {t t1 : List AV} {H H1 : List AB} (hl : H.length ≤ H1.length) (ht : belowL H1.length t1 = true) (hB : belowH H1.length H1 = true) : ∀ {m : Nat}, Reach P todo t H todo' t1 (H1 ++ List.replicate m .dead) → Reach P todo t H todo' t1 H1
  | 0, h => by rwa [List.replicate_zero, List.append_nil] at h
  | m + 1, h => by
    rw [List.replicate_succ', ← List.append_assoc] at h
    have hm : H1.length ≤ (H1 ++ List.replicate m AB.dead).length := by simp
    exact Reach.dropAll hl ht hB (h.last (by omega) (belowL_mono hm ht) (by rw [belowH_append, belowH_mono hm hB, belowH_dead]; rfl))
/-- Only the first blocks are kept. -/
theorem Reach.keep {todo todo' : List Item} {t t1 : List AV} {H H1 G : List AB} (h : Reach P todo t H todo' t1 (H1 ++ G)) (hl : H.length ≤ H1.length) (ht : belowL H1.length t1 = true) (hB : belowH H1.length H1 = true) : Reach P todo t H todo' t1 H1 :=
  Reach.dropAll hl ht hB (h.deadAll hl)
end
end Go.Ax

/- The law of codes: rows. -/
namespace Go.Ax
open Go Go.Proofs

/-- What a drawing function gives, with what is known of it. -/
noncomputable def drawQV {α : Type} [Inhabited α] (F : Form α) (Q : α → Bool) (f : FuncId) (c : Cd) : α := open Classical in if hx : ∃ x, Q x = true ∧ DrawOK Try.prog f c (F.val x) then hx.choose else default
theorem drawQV_ok {α : Type} [Inhabited α] {F : Form α} {Q : α → Bool} {f : FuncId} {c : Cd} (h : ∃ x, Q x = true ∧ DrawOK Try.prog f c (F.val x)) : Q (drawQV F Q f c) = true ∧ DrawOK Try.prog f c (F.val (drawQV F Q f c)) := by
  unfold drawQV
  rw [dif_pos h]
  exact h.choose_spec
noncomputable def drawQT {α : Type} [Inhabited α] (F : Form α) (Q : α → Bool) : Table := fun f args H nd K =>
  match args, H with
  | [s], B :: _ => match readSl s, readCode B with
    | some (o, n), some (o', b) => K (F.val (drawQV F Q f ⟨b, o', n⟩)) H (okB ⟨b, o', n⟩ o n :: nd)
    | _, _ => .fail
  | _, _ => .fail
theorem drawQT_at {α : Type} [Inhabited α] {F : Form α} {Q : α → Bool} {f : FuncId} (h : ∀ c, goodB c = true → ∃ x, Q x = true ∧ DrawOK Try.prog f c (F.val x)) : SoundAt Try.prog f (drawQT F Q) := fun args H nd K => by
  unfold drawQT
  split
  case h_2 => exact .inl rfl
  rename_i s B Hr
  split
  case h_2 => exact .inl rfl
  rename_i o n o' b hs hb
  refine .inr ⟨_, _, _, rfl, fun hn => ?_⟩
  simp only [allT, Bool.and_eq_true, okB] at hn
  obtain ⟨⟨⟨hg, ho⟩, _⟩, hnd⟩ := hn
  have ho : o = o' := of_decide_eq_true ho
  subst ho
  refine ⟨hnd, ?_⟩
  obtain ⟨l, rfl⟩ := readSl_spec hs
  have hB := readCode_spec hb
  subst hB
  exact ((drawQV_ok (h _ hg)).2 Hr).bare (args' := [.sl l 0 o n 0]) rfl
noncomputable def ilV (c : Cd) : Int × List Nat := open Classical in if hx : ∃ r : Int × List Nat, in75 r.1 r.2.length = true ∧ DrawIL 75 c r.1 r.2 then hx.choose else (0, [])
theorem ilV_ok {c : Cd} (hc : goodB c = true) : in75 (ilV c).1 (ilV c).2.length = true ∧ DrawIL 75 c (ilV c).1 (ilV c).2 := by
  have hx : ∃ r : Int × List Nat, in75 r.1 r.2.length = true ∧ DrawIL 75 c r.1 r.2 := by
    obtain ⟨n, xs, h1, h2⟩ := draw75_ok hc
    exact ⟨(n, xs), h1, h2⟩
  unfold ilV
  rw [dif_pos hx]
  exact hx.choose_spec
noncomputable def ilT : Table := fun _ args H nd K =>
  match args, H with
  | [s], B :: Hr => match readSl s, readCode B with
    | some (o, n), some (o', b) => K (.tup [.i false .i64 (ilV ⟨b, o', n⟩).1, .sl false (Hr.length + 1) 0 (ilV ⟨b, o', n⟩).2.length 1]) (B :: (Hr ++ [.cells false (.f32 (ilV ⟨b, o', n⟩).2)])) (okB ⟨b, o', n⟩ o n :: nd)
    | _, _ => .fail
  | _, _ => .fail
theorem il_at : SoundAt Try.prog 75 ilT := fun args H nd K => by
  unfold ilT
  split
  case h_2 => exact .inl rfl
  rename_i s B Hr
  split
  case h_2 => exact .inl rfl
  rename_i o n o' b hs hb
  refine .inr ⟨_, _, _, rfl, fun hn => ?_⟩
  simp only [allT, Bool.and_eq_true, okB] at hn
  obtain ⟨⟨⟨hg, ho⟩, _⟩, hnd⟩ := hn
  have ho : o = o' := of_decide_eq_true ho
  subst ho
  refine ⟨hnd, ?_⟩
  obtain ⟨l, rfl⟩ := readSl_spec hs
  have hB := readCode_spec hb
  subst hB
  exact ((ilV_ok hg).2 Hr).bare (args' := [.sl l 0 o n 0]) rfl
/-- laws.dice.below, where what it gives below 7 and below 3 is known. -/
noncomputable def belKT (b s : Int) : Table := srcT fun c a h sc => match sc with
  | [.i true .i64 n] => match n == 7 with
    | true => some (.i true .i64 b, nxA c a n, nxS h n, [eqQ false (beV c a h n) b])
    | false => match n == 3 with
      | true => some (.i true .i64 s, nxA c a n, nxS h n, [eqQ false (beV c a h n) s])
      | false => some (.i false .i64 (beV c a h n), nxA c a n, nxS h n, [])
  | _ => none
theorem belKT_at (b s : Int) : SoundAt Try.prog 16 (belKT b s) := fun args H nd K => by
  refine srcT_sound (fun c a h sc v a' h' q hc hg hq => ?_) args H nd K
  split at hg <;> (try (cases hg; done))
  rename_i n
  obtain ⟨H2, k, e1, e2, e3⟩ := below_ok hc a h n
  have k1 := k.bare (args' := [.p true 1 0, .i true .i64 n]) rfl
  split at hg
  · simp only [Option.some.injEq, Prod.mk.injEq] at hg
    obtain ⟨rfl, rfl, rfl, rfl⟩ := hg
    simp only [allT, Bool.and_true, eqQ_eq, beq_iff_eq] at hq
    refine ⟨H2, k1.weaken fun σ x r => ?_, e1, rfl, rfl⟩
    rw [hq] at r
    cases r; exact .i _ _
  · split at hg
    · simp only [Option.some.injEq, Prod.mk.injEq] at hg
      obtain ⟨rfl, rfl, rfl, rfl⟩ := hg
      simp only [allT, Bool.and_true, eqQ_eq, beq_iff_eq] at hq
      refine ⟨H2, k1.weaken fun σ x r => ?_, e1, rfl, rfl⟩
      rw [hq] at r
      cases r; exact .i _ _
    · simp only [Option.some.injEq, Prod.mk.injEq] at hg
      obtain ⟨rfl, rfl, rfl, rfl⟩ := hg
      exact ⟨H2, k1, e1, e2, rfl⟩
instance : Inhabited (Int × Int) := ⟨(0, 0)⟩
instance : Inhabited ((Int × (Nat → Nat)) × Int) := ⟨((0, fun _ => 0), 0)⟩
noncomputable def rowsL6 (b s : Int) : List (FuncId × Table) :=
  [(46, l9Tb), (60, drawQT formI2 in60), (61, wcT), (62, wcT), (63, drawLT ok63), (64, powT sumsL), (65, powT sumsL), (66, drawLT ok63), (67, powT backL), (68, powT backL), (69, drawQT formI2 in69), (70, pureT gCw), (71, pureT gCw),
   (72, drawQT formPI in72), (73, pureT gSm), (74, pureT gSm), (75, ilT), (76, poT), (77, poT), (15, rollT), (16, belKT b s)]
theorem rowsL6_at (b s : Int) : ∀ p ∈ rowsL6 b s, SoundAt Try.prog p.1 p.2 := fun p hp => by
  simp only [rowsL6, List.mem_cons, List.not_mem_nil, or_false] at hp
  rcases hp with rfl | rfl | rfl | rfl | rfl | rfl | rfl | rfl | rfl | rfl | rfl | rfl | rfl | rfl | rfl | rfl | rfl | rfl | rfl | rfl | rfl
  · exact lists9_at
  · exact drawQT_at fun c hc => draw60_ok hc
  · exact wc_at 61 (.inl rfl)
  · exact wc_at 62 (.inr rfl)
  · exact drawLT_at fun c hc => draw63_ok hc
  · exact pow_at sum_pow
  · exact pow_at ssum_pow
  · exact drawLT_at fun c hc => draw66_ok hc
  · exact pow_at back_pow
  · exact pow_at sback_pow
  · exact drawQT_at fun c hc => draw69_ok hc
  · exact cw_at 70 (.inl rfl)
  · exact cw_at 71 (.inr rfl)
  · exact drawQT_at fun c hc => draw72_ok hc
  · exact sm_at 73 (.inl rfl)
  · exact sm_at 74 (.inr rfl)
  · exact il_at
  · exact po_at 76 (.inl rfl)
  · exact po_at 77 (.inr rfl)
  · exact roll_at
  · exact belKT_at b s
noncomputable def tabL6 (b s : Int) : Table := tabOf (jdeep Try.prog (rowsL6 b s) [6, 59, 78] 3000 8)
theorem tabL6_sound (b s : Int) : SoundT Try.prog (tabL6 b s) := jdeep_sound (rowsL6_at b s) 8
noncomputable def lwC : Code := Try.f6.body.getD .skip
noncomputable def lwAt (p : Nat) : List Item := [.code (dropSeq p lwC)]
end Go.Ax

/- The law of codes: its parts, stated. -/
namespace Go.Ax
open Go Go.Proofs

def lk (i : Nat) : List (Nat × AV) → AV
  | [] => .any
  | (j, a) :: l => match Nat.beq i j with
    | true => a
    | false => lk i l
def lkB (i : Nat) : List (Nat × AV) → Bool
  | [] => true
  | (j, _) :: l => match Nat.beq i j with
    | true => false
    | false => lkB i l
/-- Temporaries of which only some are of use. -/
def tmpsOf (n : Nat) (l : List (Nat × AV)) : List AV := (List.range n).map fun i => lk i l
def maskOf (n : Nat) (l : List (Nat × AV)) : List Bool := (List.range n).map fun i => lkB i l
noncomputable def lfK (k : Nat) (M : List Bool) (r : Res) : Bool × List Item × List AV × List AB × List Bool := (r.isStop, r.todo, bareBlur M r.tOf, r.HOf.take k, r.nds)
theorem way_keep {P : Program} {T : Table} {stop : List Item → Bool} {n k : Nat} {L todo' : List Item} {p M nd : List Bool} {t0 t' : List AV} {H0 H1 : List AB} (hT : SoundT P T) (hc : allT (condsP (jupto P T stop n L t0 H0) p) = true)
    (hl : lfK k M ((jupto P T stop n L t0 H0).at p) = (true, todo', t'.map AV.bare, H1, nd)) (hn : allT nd = true) (hk : H0.length ≤ H1.length) (ht : belowL H1.length t' = true) (hB : belowH H1.length H1 = true) : Reach P L t0 H0 todo' t' H1 := by
  simp only [lfK, Prod.mk.injEq] at hl
  obtain ⟨a1, a2, a3, a4, a5⟩ := hl
  have h := way_reach (stop := stop) (n := n) (R := L) (p := p) (M := M) (nd := nd) (t' := t') (todo' := todo') (H' := ((jupto P T stop n L t0 H0).at p).HOf) hT rfl hc (by simp only [lfM, a1, a2, a3, a5]) hn
  rw [← List.take_append_drop k (((jupto P T stop n L t0 H0).at p).HOf), a4] at h
  exact h.keep hk ht hB
/-- Whether two waves, two pictures are equal. -/
def eqZX (X Y : Nat → Nat × Nat) : Nat → Nat → Bool
  | 0, _ => true
  | m + 1, j => (feq .f32 (X j).1 (Y j).1 && feq .f32 (X j).2 (Y j).2) && eqZX X Y m (Nat.succ j)
def eqZ (n : Int) (X : Nat → Nat × Nat) (n' : Int) (X' : Nat → Nat × Nat) : Bool := (n == n') && (eqZX X X' 64 0 && true)
def eqPP (n : Int) (X : Nat → Nat) (n' : Int) (X' : Nat → Nat) : Bool := (n == n') && (eqP X X' 64 0 && true)
/-! ### What is drawn -/
noncomputable def nW (c : Cd) : Int := (drawQV formI2 in60 60 c).1
noncomputable def kW (c : Cd) : Int := (drawQV formI2 in60 60 c).2
noncomputable def mW (c : Cd) : Int := (drawQV formI2 in69 69 c).1
noncomputable def jW (c : Cd) : Int := (drawQV formI2 in69 69 c).2
noncomputable def aW (c : Cd) : List Nat := drawLV ok63 63 c
noncomputable def bW (c : Cd) : List Nat := drawLV ok63 66 c
noncomputable def pW (c : Cd) : (Int × (Nat → Nat)) × Int := drawQV formPI in72 72 c
noncomputable def uW (n k : Int) : List Nat := cond (wcOK n k) (wcL n k) []
noncomputable def uS (L : Nat → (Nat → Nat) → List Nat) (xs : List Nat) : List Nat := cond (sumOK xs) (lsL L xs) []
def ne6 (C C' : Int) (E : Bool) : Bool := cond (!eqQ false C C') true (!E)
noncomputable def cds0 (c : Cd) : List Bool :=
  [!ltQ false 4096 (c.len : Int), !ne6 (wcC (nW c) (kW c)) (wcC (nW c) (kW c)) (likeF (uW (nW c) (kW c)) (uW (nW c) (kW c))), !ne6 (sumC (aW c)) (sumC (aW c)) (likeF (uS sumsL (aW c)) (uS sumsL (aW c))), !ne6 (sumC (bW c)) (sumC (bW c)) (likeF (uS backL (bW c)) (uS backL (bW c))),
   !ne6 (cond (cwOK (mW c) (jW c)) 0 2) (cond (cwOK (mW c) (jW c)) 0 2) (eqZ (cond (cwOK (mW c) (jW c)) (mW c) 0) (cwX (mW c) (jW c)) (cond (cwOK (mW c) (jW c)) (mW c) 0) (cwX (mW c) (jW c))),
   !ne6 (smC (pW c).1.1 (pW c).2 (reP (pW c).1.2)) (smC (pW c).1.1 (pW c).2 (reP (pW c).1.2)) (feq .f32 (cond (smOK (pW c).1.1 (pW c).2 (reP (pW c).1.2)) (plusF (smS (reP (pW c).1.2) (pW c).2.toNat ((pW c).1.1.toNat * (pW c).1.1.toNat))) 0) (cond (smOK (pW c).1.1 (pW c).2 (reP (pW c).1.2)) (plusF (smS (reP (pW c).1.2) (pW c).2.toNat ((pW c).1.1.toNat * (pW c).1.1.toNat))) 0)),
   !ne6 (poC2 (ilV c).1 (ilV c).2) (poC2 (ilV c).1 (ilV c).2) (eqPP (cond (poOK (ilV c).1 (ilV c).2) (ilV c).1 0) (poX (ilV c).1 (ilV c).2) (cond (poOK (ilV c).1 (ilV c).2) (ilV c).1 0) (poX (ilV c).1 (ilV c).2))]
def qPo (n : Int) (m : Nat) : List Bool := [in75' n m, true, true, decide (m = m), decide (m ≤ 5000)]
def q2o (ok : Bool) (L : List Nat) : List Bool := [decide ((0 : Nat) = 0), decide (cond ok L.length 0 = (cond ok L []).length), decide (cond ok L.length 0 ≤ 5000)]
def gLk (C : Int) (ok : Bool) (L : List Nat) : Bool := cond (!!eqQ false C C) (andT (q2o ok L ++ q2o ok L)) true
def q1L (n : Nat) : List Bool := [decide (n = 0) || decide ((0 : Nat) < 1), true, decide (n = n), decide (n ≤ 5000)]
noncomputable def nds0 (c : Cd) : List Bool :=
  qPo (ilV c).1 (ilV c).2.length ++ (qPo (ilV c).1 (ilV c).2.length ++ ([okB c c.off c.len, decide ((pW c).1.1 ∈ ([8, 4, 2, 1] : List Int)), decide ((pW c).1.1 ∈ ([8, 4, 2, 1] : List Int)), okB c c.off c.len, decide (mW c ∈ ns69'), decide (mW c ∈ ns69'), okB c c.off c.len,
  gLk (sumC (bW c)) (sumOK (bW c)) (lsL backL (bW c))] ++ (q1L (bW c).length ++ (q1L (bW c).length ++ ([okB c c.off c.len, gLk (sumC (aW c)) (sumOK (aW c)) (lsL sumsL (aW c))] ++ (q1L (aW c).length ++ (q1L (aW c).length ++ [okB c c.off c.len,
  gLk (wcC (nW c) (kW c)) (wcOK (nW c) (kW c)) (wcL (nW c) (kW c)), decide (nW c ∈ ns60'), decide (nW c ∈ ns60'), okB c c.off c.len])))))))
/-! ### States -/
noncomputable def l33 (l : Bool) (c : Cd) (n k m j : Int) : List (Nat × AV) :=
  [(0, .sl false 0 c.off c.len 0), (3, .i l .i64 n), (4, .i false .i64 k), (5, .sl false 1 0 (cond (wcOK n k) (wcL n k).length 0) (cond (wcOK n k) 1 0)), (6, .i false .i64 (wcC n k)), (19, .i false .i64 m), (20, .i false .i64 j), (21, .p true 9 0), (22, .i false .i64 (cond (cwOK m j) 0 2))]
noncomputable def t33 (l : Bool) (c : Cd) (n k m j : Int) : List AV := tmpsOf 338 (l33 l c n k m j)
noncomputable def M33 : List Bool := maskOf 338 (l33 false ⟨[], 0, 0⟩ 0 0 0 0)
noncomputable def H33 (c : Cd) (n k m j : Int) : List AB :=
  [codeB c false, uniB (wcOK n k) (wcL n k), uniB (wcOK n k) (wcL n k), .cells false (.f32 (aW c)), uniB (sumOK (aW c)) (lsL sumsL (aW c)), uniB (sumOK (aW c)) (lsL sumsL (aW c)), .cells false (.f32 (bW c)), uniB (sumOK (bW c)) (lsL backL (bW c)), uniB (sumOK (bW c)) (lsL backL (bW c)), .cells true (.lit (waveL (cond (cwOK m j) m 0) (cwX m j)))]
noncomputable def l45 (l : Bool) (c : Cd) (m j : Int) : List (Nat × AV) :=
  [(0, .sl false 0 c.off c.len 0), (19, .i l .i64 m), (20, .i false .i64 j), (21, .p true 9 0), (22, .i false .i64 (cond (cwOK m j) 0 2))]
noncomputable def t45 (l : Bool) (c : Cd) (m j : Int) : List AV := tmpsOf 338 (l45 l c m j)
noncomputable def M45 : List Bool := maskOf 338 (l45 false ⟨[], 0, 0⟩ 0 0)
def l54 (c : Cd) : List (Nat × AV) := [(0, .sl false 0 c.off c.len 0)]
def t54 (c : Cd) : List AV := tmpsOf 338 (l54 c)
def M54 : List Bool := maskOf 338 (l54 ⟨[], 0, 0⟩)
noncomputable def w0 (c : Cd) : Res := jupto Try.prog (tabL6 0 0) (atCut 14) 2000 (lwAt 0) (.sl false 0 c.off c.len 0 :: undefs 337) [codeB c false]
noncomputable def wA (l : Bool) (c : Cd) (n k m j : Int) : Res := jupto Try.prog (tabL6 0 0) (atCut 13) 4000 (lwAt 20) (t33 l c n k m j) (H33 c n k m j)
noncomputable def wB (l : Bool) (c : Cd) (n k m j : Int) : Res := jupto Try.prog (tabL6 0 0) (atCut 12) 4000 (lwAt 21) (t45 l c m j) (H33 c n k m j)
end Go.Ax

/- The law of codes: small whole numbers there and back, evaluated. -/
namespace Go.Ax
open Go Go.Proofs

noncomputable def sC (c : Cd) : Nat → Nat × Int
  | 0 => (nxA c 0 7, nxS (rollV c 9710) 7)
  | k + 1 => (nxA c (sC c k).1 21, nxS (sC c k).2 21)
noncomputable def nineC (c : Cd) (k : Nat) : Int := beV c (sC c k).1 (sC c k).2 21
noncomputable def xsC (c : Cd) (N : Nat) : List Nat := (List.range N).map fun k => FloatKind.f32.nearest (wrapQ false .i64 (nineC c k - 10))
noncomputable def ysC (c : Cd) (N : Nat) : List Nat := uS sumsL (xsC c N)
noncomputable def zsC (c : Cd) (N : Nat) : List Nat := uS backL (ysC c N)
noncomputable def cdC (c : Cd) (N : Nat) : List Bool := [!cond (!eqQ false (sumC (xsC c N)) 0) true (cond (!eqQ false (sumC (ysC c N)) 0) true (!likeF (zsC c N) (xsC c N)))]
noncomputable def ndC6 (c : Cd) (b : Int) (N : Nat) : List Bool :=
  [cond (!!eqQ false (sumC (xsC c N)) 0) (andT (guardL (!eqQ false (sumC (ysC c N)) 0) [] ++ guardL (!!eqQ false (sumC (ysC c N)) 0) (q2o (sumOK (ysC c N)) (lsL backL (ysC c N)) ++ [decide ((0 : Nat) = 0), decide (N = (xsC c N).length), decide (N ≤ 5000)]))) true,
   decide (cond (sumOK (xsC c N)) (lsL sumsL (xsC c N)).length 0 = 0) || decide (0 < cond (sumOK (xsC c N)) 1 0), true, decide (cond (sumOK (xsC c N)) (lsL sumsL (xsC c N)).length 0 = (ysC c N).length), decide (cond (sumOK (xsC c N)) (lsL sumsL (xsC c N)).length 0 ≤ 5000), true, true, true, true] ++
  (intT (okB c c.off c.len) N ++ [okB c c.off c.len, eqQ false (beV c 0 (rollV c 9710) 7) b, okB c c.off c.len])
noncomputable def wC (b : Int) (c : Cd) : Res := jupto Try.prog (tabL6 b 0) (atCut 7) 6000 (lwAt 22) (t54 c) [codeB c false]
def lD60 : List (Nat × AV) := [(44, .p true 1 0)]
def tD60 : List AV := tmpsOf 338 lD60
def MD60 : List Bool := maskOf 338 lD60
def WayC (b : Int) (N : Nat) : Prop := ∀ c, (condsP (wC b c) [false], lfK 2 MD60 ((wC b c).at [false])) = (cdC c N, (true, lwAt 27, tD60.map AV.bare, [codeB c false, srcB c (sC c N).1 (sC c N).2], ndC6 c b N))
theorem wayC0 : WayC 0 1 := fun c => by kernel_rfl
theorem wayC1 : WayC 1 2 := fun c => by kernel_rfl
theorem wayC2 : WayC 2 4 := fun c => by kernel_rfl
theorem wayC3 : WayC 3 8 := fun c => by kernel_rfl
theorem wayC4 : WayC 4 16 := fun c => by kernel_rfl
theorem wayC5 : WayC 5 32 := fun c => by kernel_rfl
theorem wayC6 : WayC 6 64 := fun c => by kernel_rfl
/-! ### Pictures measured -/
noncomputable def sD (c : Cd) (a : Nat) (h : Int) : Nat → Nat × Int
  | 0 => (nxA c a 3, nxS h 3)
  | k + 1 => (nxA c (sD c a h k).1 9, nxS (sD c a h k).2 9)
noncomputable def vD (c : Cd) (a : Nat) (h : Int) (k : Nat) : Int := beV c (sD c a h k).1 (sD c a h k).2 9
noncomputable def xD (c : Cd) (a : Nat) (h : Int) (N j : Nat) : Nat := match Nat.blt j N with
  | true => FloatKind.f32.nearest (vD c a h j)
  | false => 0
noncomputable def mD (c : Cd) (a : Nat) (h : Int) (n : Int) (N k : Nat) : Nat := cond (smOK n (Int.ofNat k) (reP (xD c a h N))) (plusF (smS (reP (xD c a h N)) (Int.ofNat k).toNat (n.toNat * n.toNat))) 0
noncomputable def msD (c : Cd) (a : Nat) (h : Int) (n : Int) (N : Nat) : List Nat := (List.range N).map (mD c a h n N)
noncomputable def cdD (c : Cd) (a : Nat) (h : Int) (n : Int) (N : Nat) : List Bool := (List.range N).map fun k => !!eqQ false (smC n (Int.ofNat k) (reP (xD c a h N))) 0
noncomputable def vlD (c : Cd) (a : Nat) (h : Int) (n : Int) (N : Nat) : Bool := cond (eqQ false (poC2 n (msD c a h n N)) 0) (eqPP (cond (poOK n (msD c a h n N)) n 0) (poX n (msD c a h n N)) n (xD c a h N)) false
noncomputable def ndD6 (c : Cd) (a : Nat) (h : Int) (s : Int) (N : Nat) : List Bool := List.replicate (2 * N + 5) true ++ (List.replicate (N + 1) (okB c c.off c.len) ++ [eqQ false (beV c a h 3) s])
noncomputable def wD (s : Int) (c : Cd) (a : Nat) (h : Int) : Res := jupto Try.prog (tabL6 0 s) (atCut 99) 6000 (lwAt 27) tD60 [codeB c false, srcB c a h]
/-- The end's answer, without its memory. -/
noncomputable def endV (rs : List ResultVar) (r : Res) : Option (Option (List AV × List Bool) × List Bool) := match endOf Try.prog rs r with
  | some (x, _, nd) => some (x, nd)
  | none => none
def WayD (s : Int) (n : Int) (N : Nat) : Prop := ∀ c a h, (condsP (wD s c a h) (List.replicate N false), endV Try.f6.results.toList ((wD s c a h).at (List.replicate N false))) =
  (cdD c a h n N, some (some ([.b false (vlD c a h n N)], []), ndD6 c a h s N))
theorem wayD0 : WayD 0 1 1 := fun c a h => by kernel_rfl
theorem wayD1 : WayD 1 2 4 := fun c a h => by kernel_rfl
theorem wayD2 : WayD 2 4 16 := fun c a h => by kernel_rfl
end Go.Ax

/- Sums by codes of small whole numbers are exact, and undo themselves. -/
namespace Go.Ax
open Go Go.Proofs

/-- One stage of the sums, and all stages, of integers. -/
def hdS (h : Nat) (w : Nat → Int) (i : Nat) : Int := cond (Nat.beq ((i / h) % 2) 0) (w i + w (i + h)) (w (i - h) - w i)
def hdI : Nat → (Nat → Int) → Nat → Int
  | 0, w => w
  | k + 1, w => hdS (2 ^ k) (hdI k w)
theorem hadF_isI {x : Nat → Nat} {w : Nat → Int} {A : Nat} (h : ∀ i, isI (x i) (w i) ∧ (w i).natAbs ≤ A) : ∀ k, A * 2 ^ k < 16777216 → ∀ i, isI (hadF k x i) (hdI k w i) ∧ (hdI k w i).natAbs ≤ A * 2 ^ k
  | 0, _, i => by
    obtain ⟨h1, h2⟩ := h i
    exact ⟨h1, by simpa [hdI] using h2⟩
  | k + 1, hb, i => by
    have hb' : A * 2 ^ k + A * 2 ^ k < 16777216 := by rw [Nat.pow_succ, ← Nat.mul_assoc] at hb; omega
    have ih := hadF_isI h k (by omega)
    have hp : A * 2 ^ (k + 1) = A * 2 ^ k + A * 2 ^ k := by rw [Nat.pow_succ, ← Nat.mul_assoc]; omega
    rw [hp]
    show isI (hadS (2 ^ k) (hadF k x) i) (hdS (2 ^ k) (hdI k w) i) ∧ (hdS (2 ^ k) (hdI k w) i).natAbs ≤ _
    unfold hadS hdS
    cases Nat.beq ((i / 2 ^ k) % 2) 0 with
    | true =>
      obtain ⟨a1, a2⟩ := ih i
      obtain ⟨b1, b2⟩ := ih (i + 2 ^ k)
      have e : (hdI k w i + hdI k w (i + 2 ^ k)).natAbs ≤ A * 2 ^ k + A * 2 ^ k := by omega
      exact ⟨isI_add a1 b1 (by omega), e⟩
    | false =>
      obtain ⟨a1, a2⟩ := ih i
      obtain ⟨b1, b2⟩ := ih (i - 2 ^ k)
      have e : (hdI k w (i - 2 ^ k) - hdI k w i).natAbs ≤ A * 2 ^ k + A * 2 ^ k := by omega
      exact ⟨isI_sub b1 a1 (by omega), e⟩
/-- The partner of a place in a stage. -/
theorem hd_places : (List.range 6).all (fun a => (List.range 64).all fun i => cond (Nat.beq ((i / 2 ^ a) % 2) 0) (Nat.beq (i + 2 ^ a) (Nat.xor i (2 ^ a))) (Nat.beq (i - 2 ^ a) (Nat.xor i (2 ^ a))) && (Nat.beq ((i / 2 ^ a) % 2) 0 == !Nat.testBit i a)) = true := by decide +kernel
def hdX (a : Nat) (w : Nat → Int) (i : Nat) : Int := cond (Nat.testBit i a) (w (i ^^^ 2 ^ a) - w i) (w i + w (i ^^^ 2 ^ a))
theorem hdS_X {a i : Nat} (ha : a < 6) (hi : i < 64) (w : Nat → Int) : hdS (2 ^ a) w i = hdX a w i := by
  have h := List.all_eq_true.1 (List.all_eq_true.1 hd_places a (List.mem_range.2 ha)) i (List.mem_range.2 hi)
  rw [Bool.and_eq_true, beq_iff_eq] at h
  obtain ⟨h1, h2⟩ := h
  unfold hdS hdX
  cases hb : Nat.beq ((i / 2 ^ a) % 2) 0 with
  | true =>
    rw [hb] at h1 h2
    have ht : Nat.testBit i a = false := by simpa using h2.symm
    rw [ht]
    have e : i + 2 ^ a = i ^^^ 2 ^ a := Nat.eq_of_beq_eq_true h1
    simp only [cond_true, cond_false, e]
  | false =>
    rw [hb] at h1 h2
    have ht : Nat.testBit i a = true := by simpa using h2.symm
    rw [ht]
    have e : i - 2 ^ a = i ^^^ 2 ^ a := Nat.eq_of_beq_eq_true h1
    simp only [cond_true, cond_false, e]
theorem xor_lt64 {i a : Nat} (ha : a < 6) (hi : i < 64) : i ^^^ 2 ^ a < 64 := by
  have h1 : 2 ^ a < 2 ^ 6 := Nat.pow_lt_pow_right (by omega) ha
  exact Nat.xor_lt_two_pow (n := 6) hi h1
def eqB (v w : Nat → Int) : Prop := ∀ i, i < 64 → v i = w i
theorem hdX_congr {a : Nat} (ha : a < 6) {v w : Nat → Int} (h : eqB v w) : eqB (hdX a v) (hdX a w) := fun i hi => by
  unfold hdX
  rw [h i hi, h _ (xor_lt64 ha hi)]
theorem bit_xor (i a b : Nat) : Nat.testBit (i ^^^ 2 ^ a) b = (Nat.testBit i b ^^ decide (a = b)) := by
  rw [Nat.testBit_xor, Nat.testBit_two_pow]
theorem xor_back (i p : Nat) : i ^^^ p ^^^ p = i := by rw [Nat.xor_assoc, Nat.xor_self, Nat.xor_zero]
theorem hdX_comm {a b : Nat} (hab : a ≠ b) (w : Nat → Int) (i : Nat) : hdX a (hdX b w) i = hdX b (hdX a w) i := by
  have e : i ^^^ 2 ^ a ^^^ 2 ^ b = i ^^^ 2 ^ b ^^^ 2 ^ a := by rw [Nat.xor_assoc, Nat.xor_comm (2 ^ a), ← Nat.xor_assoc]
  have h1 : Nat.testBit (i ^^^ 2 ^ a) b = Nat.testBit i b := by rw [bit_xor]; simp [hab]
  have h2 : Nat.testBit (i ^^^ 2 ^ b) a = Nat.testBit i a := by rw [bit_xor]; simp [Ne.symm hab]
  unfold hdX
  rw [h1, h2, e]
  cases Nat.testBit i a <;> cases Nat.testBit i b <;> simp only [cond_true, cond_false] <;> omega
theorem hdX_twice (a : Nat) (w : Nat → Int) (i : Nat) : hdX a (hdX a w) i = 2 * w i := by
  have h1 : Nat.testBit (i ^^^ 2 ^ a) a = !Nat.testBit i a := by rw [bit_xor]; simp
  unfold hdX
  rw [h1, xor_back]
  cases Nat.testBit i a <;> simp only [cond_true, cond_false, Bool.not_true, Bool.not_false] <;> omega
def hdJ : Nat → (Nat → Int) → Nat → Int
  | 0, w => w
  | k + 1, w => hdX k (hdJ k w)
theorem hdJ_congr : ∀ {k : Nat}, k ≤ 6 → ∀ {v w : Nat → Int}, eqB v w → eqB (hdJ k v) (hdJ k w)
  | 0, _, _, _, h => h
  | k + 1, hk, _, _, h => hdX_congr (by omega) (hdJ_congr (by omega) h)
theorem hdI_J : ∀ {k : Nat}, k ≤ 6 → ∀ (w : Nat → Int), eqB (hdI k w) (hdJ k w)
  | 0, _, _ => fun _ _ => rfl
  | k + 1, hk, w => fun i hi => by
    show hdS (2 ^ k) (hdI k w) i = hdX k (hdJ k w) i
    rw [hdS_X (by omega) hi]
    exact hdX_congr (by omega) (hdI_J (k := k) (by omega) w) i hi
theorem hdX_J {a : Nat} (ha : a < 6) : ∀ {k : Nat}, k ≤ a → ∀ (w : Nat → Int), eqB (hdJ k (hdX a w)) (hdX a (hdJ k w))
  | 0, _, _ => fun _ _ => rfl
  | k + 1, hk, w => fun i hi => by
    show hdX k (hdJ k (hdX a w)) i = hdX a (hdX k (hdJ k w)) i
    rw [hdX_congr (by omega) (hdX_J ha (k := k) (by omega) w) i hi, hdX_comm (by omega)]
theorem hdJ_twice : ∀ {k : Nat}, k ≤ 6 → ∀ (w : Nat → Int), eqB (hdJ k (hdJ k w)) fun i => 2 ^ k * w i
  | 0, _, _ => fun i _ => by simp [hdJ]
  | k + 1, hk, w => fun i hi => by
    show hdX k (hdJ k (hdX k (hdJ k w))) i = _
    rw [hdX_congr (by omega) (hdX_J (by omega) (Nat.le_refl k) (hdJ k w)) i hi, hdX_twice, hdJ_twice (by omega) w i hi]
    show 2 * (2 ^ k * w i) = 2 ^ (k + 1) * w i
    rw [Int.pow_succ, Int.mul_comm (2 ^ k) 2, Int.mul_assoc]
theorem hdI_twice {k : Nat} (hk : k ≤ 6) {v w : Nat → Int} (h : ∀ i, i < 2 ^ k → v i = hdI k w i) (hd : ∀ i, 2 ^ k ≤ i → v i = 0) (hw : ∀ i, 2 ^ k ≤ i → w i = 0) {i : Nat} (hi : i < 2 ^ k) : hdI k v i = 2 ^ k * w i := by
  have h64 : 2 ^ k ≤ 2 ^ 6 := Nat.pow_le_pow_right (by omega) hk
  have hz : ∀ j, 2 ^ k ≤ j → j < 64 → hdJ k w j = 0 := fun j hj hj64 => by
    have key : ∀ m, m ≤ k → ∀ j, 2 ^ k ≤ j → j < 64 → hdJ m w j = 0 := fun m => by
      induction m with
      | zero => intro _ j hj _; exact hw j hj
      | succ m ih =>
        intro hm j hj hj64
        show hdX m (hdJ m w) j = 0
        have hx : 2 ^ k ≤ j ^^^ 2 ^ m := by
          rcases Nat.lt_or_ge (j ^^^ 2 ^ m) (2 ^ k) with hlt | hge
          · exfalso
            have hm2 : 2 ^ m < 2 ^ k := Nat.pow_lt_pow_right (by omega) (by omega)
            have := Nat.xor_lt_two_pow hlt hm2
            rw [xor_back] at this
            omega
          · exact hge
        have e1 := ih (by omega) j hj hj64
        have e2 := ih (by omega) _ hx (xor_lt64 (by omega) hj64)
        unfold hdX
        rw [e1, e2]
        cases Nat.testBit j m <;> rfl
    exact key k (Nat.le_refl k) j hj hj64
  have hv : eqB v (hdJ k w) := fun j hj => by
    rcases Nat.lt_or_ge j (2 ^ k) with hlt | hge
    · rw [h j hlt, hdI_J hk w j hj]
    · rw [hd j hge, hz j hge hj]
  rw [hdI_J hk v i (by omega), hdJ_congr hk hv i (by omega), hdJ_twice hk w i (by omega)]
end Go.Ax
