/- Builtins, aggregates, and all operations that only read. -/
import Derived.Test.YtdcjjibekhcplaaEaa
namespace Go.Ax
open Go

section
variable {P : Program} {w : World} {σ : List (Nat × Nat)} {H : List AB}

theorem len_gives {ts : Array TypeId} {t ty : TypeId} {x v : AV} {rx : Value} (ht : ts[0]? = some t) (h : aLen P t x = some v) (hx : Rel σ x rx) : Gives P w (Builtin.len_ ts ty #[rx]) (Rel σ v) := by
  unfold aLen at h
  split at h <;> (try (cases h; done)) <;> cases h
  · rename_i l x hu
    cases hx
    exact gives_val (v := .int .i64 x.length) (by simp [Builtin.len_, ht, run_underlyingA hu, goInt, str_size]) (.i _ _)
  · rename_i n e hu
    refine gives_val (v := .int .i64 n) ?_ (.i _ _)
    cases hx <;> simp [Builtin.len_, ht, run_underlyingA hu, goInt]
  · rename_i e l id off n z hu
    cases hx with
    | slz => exact gives_val (v := .int .i64 0) (by simp [Builtin.len_, ht, run_underlyingA hu, goInt]) (.i _ _)
    | sl _ _ _ => exact gives_val (v := .int .i64 n) (by simp [Builtin.len_, ht, run_underlyingA hu, goInt]) (.i _ _)
  · rename_i e hu
    cases hx
    exact gives_val (v := .int .i64 0) (by simp [Builtin.len_, ht, run_underlyingA hu, goInt]) (.i _ _)
  · rename_i e hu
    cases hx
    exact gives_val (v := .int .i64 0) (by simp [Builtin.len_, ht, run_underlyingA hu, goInt]) (.i _ _)

theorem fold_gives {g : AV → AV → Option AV} {k : Value → Value → Sem Value} (hg : ∀ {w : World} {a b c : AV} {x y : Value}, g a b = some c → Rel σ a x → Rel σ b y → Gives P w (k x y) (Rel σ c)) :
    ∀ (l : List AV) (rl : List Value) {w : World} {a v : AV} {x : Value}, foldA g a l = some v → Rel σ a x → RelL σ l rl → Gives P w (rl.foldlM k x) (Rel σ v)
  | [], _, w, a, v, x, h, hx, .nil => by
    cases h
    exact .pure hx
  | b :: l, _, w, a, v, x, h, hx, .cons hb hl => by
    simp only [foldA] at h
    split at h <;> try (cases h; done)
    rename_i c hc
    obtain ⟨y, w1, e1, e2, e3⟩ := hg (w := w) hc hx hb
    obtain ⟨z, w2, k1, k2, k3⟩ := fold_gives hg l _ (w := w1) h e2 hl
    exact ⟨z, w2, by simp [List.foldlM_cons, e1, k1], k2, e3.trans k3⟩

theorem max2_gives {a b c : AV} {x y : Value} (h : aMax2 a b = some c) (ha : Rel σ a x) (hb : Rel σ b y) : Gives P w (Builtin.max2 x y) (Rel σ c) := by
  unfold aMax2 at h
  split at h <;> try (cases h; done)
  · split at h <;> cases h
    rename_i hk; subst hk
    cases ha; cases hb
    refine gives_val (v := .int _ _) ?_ (.i _ _)
    simp [Builtin.max2]
  · split at h <;> cases h
    rename_i hk; subst hk
    cases ha with | f ha =>
    cases hb with | f hb =>
    exact gives_float (max_gives ha hb)
theorem min2_gives {a b c : AV} {x y : Value} (h : aMin2 a b = some c) (ha : Rel σ a x) (hb : Rel σ b y) : Gives P w (Builtin.min2 x y) (Rel σ c) := by
  unfold aMin2 at h
  split at h <;> try (cases h; done)
  · split at h <;> cases h
    rename_i hk; subst hk
    cases ha; cases hb
    refine gives_val (v := .int _ _) ?_ (.i _ _)
    simp [Builtin.min2]
  · split at h <;> cases h
    rename_i hk; subst hk
    cases ha with | f ha =>
    cases hb with | f hb =>
    exact gives_float (min_gives ha hb)

theorem relL_one {a : AV} {rl : List Value} (h : RelL σ [a] rl) : ∃ x, rl = [x] ∧ Rel σ a x := by
  cases h with | cons h hs => cases hs; exact ⟨_, rfl, h⟩
theorem relL_two {a b : AV} {rl : List Value} (h : RelL σ [a, b] rl) : ∃ x y, rl = [x, y] ∧ Rel σ a x ∧ Rel σ b y := by
  cases h with | cons h hs =>
  obtain ⟨y, rfl, hy⟩ := relL_one hs
  exact ⟨_, y, rfl, h, hy⟩

theorem builtin_gives {b : Builtin} {ts : Array TypeId} {ty : TypeId} {cs : Array Bool} {args : List AV} {rargs : Array Value} {v : AV} (h : aBuiltin P b ts args = some v) (hr : RelL σ args rargs.toList) :
    ∃ rv w', (builtin b ts ty cs rargs).run P w = .ok (.value rv) w' ∧ Rel σ v rv ∧ Same w w' := by
  have fin : ∀ {x : Sem Value}, builtin b ts ty cs rargs = (do pure (.value (← x))) → Gives P w x (Rel σ v) → ∃ rv w', (builtin b ts ty cs rargs).run P w = .ok (.value rv) w' ∧ Rel σ v rv ∧ Same w w' := by
    intro x e ⟨rv, w', h1, h2, h3⟩
    exact ⟨rv, w', by rw [e]; simp [h1], h2, h3⟩
  have arr : ∀ {l : List Value}, rargs.toList = l → rargs = l.toArray := fun e => by rw [← e]
  unfold aBuiltin at h
  split at h <;> try (cases h; done)
  · obtain ⟨x, e, hx⟩ := relL_one hr
    split at h <;> try (cases h; done)
    rename_i t ht
    have := arr e; subst this
    exact fin rfl (len_gives ht h hx)
  · obtain ⟨x, e, hx⟩ := relL_one hr
    cases h
    have := arr e; subst this
    cases hx with | c h1 h2 =>
    exact fin rfl (gives_val rfl (.f h1))
  · obtain ⟨x, e, hx⟩ := relL_one hr
    cases h
    have := arr e; subst this
    cases hx with | c h1 h2 =>
    exact fin rfl (gives_val rfl (.f h2))
  · obtain ⟨x, y, e, hx, hy⟩ := relL_two hr
    split at h <;> cases h
    rename_i hk; subst hk
    have := arr e; subst this
    cases hx with | f h1 =>
    cases hy with | f h2 =>
    refine fin rfl (gives_val (v := .complex _ _ _) ?_ (.c h1 h2))
    show Sem.run P (if _ = _ then pure (Value.complex _ _ _) else _) w = _
    rw [if_pos rfl]; rfl
  · rename_i a l
    cases hl : rargs.toList with
    | nil => rw [hl] at hr; cases hr
    | cons x rl =>
      rw [hl] at hr
      cases hr with | cons h1 h2 =>
      refine fin rfl ?_
      unfold Builtin.max_
      rw [hl]
      exact fold_gives max2_gives l rl h h1 h2
  · rename_i a l
    cases hl : rargs.toList with
    | nil => rw [hl] at hr; cases hr
    | cons x rl =>
      rw [hl] at hr
      cases hr with | cons h1 h2 =>
      refine fin rfl ?_
      unfold Builtin.min_
      rw [hl]
      exact fold_gives min2_gives l rl h h1 h2

/-! ### An aggregate built -/
theorem setAll_length : ∀ (vs l : List AV) (n : Nat), (setAll l n vs).length = l.length
  | [], _, _ => rfl
  | v :: vs, l, n => by simp only [setAll]; rw [setAll_length vs]; rw [setL_eq]; simp
theorem RelL.setA {l : List AV} {c : Array Value} (h : RelL σ l c.toList) {d : Nat} {v : AV} {rv : Value} (hv : Rel σ v rv) : RelL σ (setL l d v) (c.setIfInBounds d rv).toList := by
  have hl := h.length
  refine RelL.of_get (by rw [setL_eq]; simpa using hl) fun j a x ha hx => ?_
  rw [setL_eq] at ha
  simp only [Array.toList_setIfInBounds] at hx
  by_cases hj : d = j
  · subst hj
    have hd : d < l.length := by
      rcases Nat.lt_or_ge d l.length with h' | h'
      · exact h'
      · rw [List.getElem?_eq_none (by simpa using h')] at ha; cases ha
    rw [List.getElem?_set_self hd] at ha
    rw [List.getElem?_set_self (by rw [← hl]; exact hd)] at hx
    cases ha; cases hx; exact hv
  · rw [List.getElem?_set_ne hj] at ha hx
    obtain ⟨y, hy, hr⟩ := h.get ha
    rw [hy] at hx; cases hx; exact hr
theorem setAll_rel : ∀ {vs : List AV} {rvs : List Value} (off i : Nat) {l : List AV} {c : Array Value}, RelL σ vs rvs → RelL σ l c.toList →
    RelL σ (setAll l (off + i) vs) (rvs.zipIdx i |>.foldl (fun cs (x : Value × Nat) => cs.setIfInBounds (off + x.2) x.1) c).toList
  | _, _, _, _, _, _, .nil, h => h
  | _, _, off, i, _, _, .cons hv hs, h => by
    simp only [setAll, List.zipIdx_cons, List.foldl_cons]
    exact setAll_rel off (i + 1) hs (h.setA hv)

theorem fill_rel {place : Nat → Option (Nat × Nat)} : ∀ {parts : List (Nat × AV)} {rparts : List (Nat × Value)} {l l' : List AV} {c : Array Value}, fillA place l parts = some l' →
    (parts.length = rparts.length ∧ ∀ (j : Nat) (p : Nat × AV) (q : Nat × Value), parts[j]? = some p → rparts[j]? = some q → p.1 = q.1 ∧ Rel σ p.2 q.2) → RelL σ l c.toList →
    ∃ c', Instr.fill place c rparts = some c' ∧ RelL σ l' c'.toList
  | [], rparts, l, l', c, h, hp, hr => by
    cases h
    cases rparts with
    | nil => exact ⟨c, rfl, hr⟩
    | cons _ _ => simp at hp
  | (i, v) :: parts, rparts, l, l', c, h, hp, hr => by
    cases rparts with
    | nil => simp at hp
    | cons q rparts =>
    obtain ⟨i', rv⟩ := q
    obtain ⟨hi, hv⟩ := hp.2 0 (i, v) (i', rv) rfl rfl
    have hi : i = i' := hi
    subst hi
    have hv : Rel σ v rv := hv
    cases hany : isAny v with
    | true =>
      simp [fillA, hany] at h
      cases hpl : place i <;> rw [hpl] at h <;> cases h
    | false =>
    have hc := cellsA_rel hv hany
    have hcl := hc.length
    simp only [Array.length_toList] at hcl
    have hll := hr.length
    simp only [Array.length_toList] at hll
    simp only [fillA, hany, Bool.false_or] at h
    simp only [Instr.fill]
    cases hpl : place i with
    | none => rw [hpl] at h; cases h
    | some z =>
      obtain ⟨off, size⟩ := z
      rw [hpl] at h
      simp only [] at h ⊢
      rw [← hcl, ← hll]
      split at h
      · cases h
      · rename_i hcond
        rw [if_neg hcond]
        refine fill_rel h ⟨by simpa using hp.1, fun j p q h1 h2 => hp.2 (j + 1) p q (by simpa using h1) (by simpa using h2)⟩ ?_
        have := setAll_rel off 0 hc hr
        rw [Nat.add_zero] at this
        rw [← Array.foldl_toList, Array.toList_zipIdx]
        exact this


theorem ofS_not {v : Value} {a : AV} (h : ofS v = some a) : isAny a = false := by
  unfold ofS at h
  split at h <;> first | (cases h; done) | (cases h; rfl)
theorem ofV_not {v : Value} {a : AV} (h : ofV v = some a) : isAny a = false := by
  unfold ofV at h
  split at h
  · rename_i cs
    cases hc : ofSs cs.toList <;> rw [hc] at h <;> cases h; rfl
  · rename_i cs
    cases hc : ofSs cs.toList <;> rw [hc] at h <;> cases h; rfl
  · exact ofS_not h
theorem zeroA_not {t : TypeId} {z : AV} (h : zeroA P t = some z) : isAny z = false := by
  unfold zeroA at h
  split at h <;> try (cases h; done)
  split at h <;> try (cases h; done)
  exact ofV_not h
theorem zeroA_run {t : TypeId} {z : AV} (h : zeroA P t = some z) : ∃ v, (zeroValue t).run P w = .ok v w ∧ Rel σ z v ∧ ∃ i, P.info? t = some i ∧ i.zero = some v := by
  unfold zeroA at h
  split at h <;> try (cases h; done)
  rename_i i hi
  split at h <;> try (cases h; done)
  rename_i v hv
  exact ⟨v, by simp [zeroValue, run_typeInfoA hi, hv], ofV_rel h, i, hi, hv⟩

theorem places_run : ∀ {fs : List Field} {l : List (Nat × Nat)} {w : World}, placesA P fs = some l → (List.mapM (fun f => Prod.mk f.offset <$> sizeOf f.type) fs : Sem (List (Nat × Nat))).run P w = .ok l w
  | [], l, w, h => by cases h; simp
  | f :: fs, l, w, h => by
    simp only [placesA] at h
    split at h <;> try (cases h; done)
    rename_i n l' hn hl'
    cases h
    simp [List.mapM_cons, run_sizeOfA hn, places_run hl']

theorem build_gives {t : TypeId} {parts : List (Nat × AV)} {rparts : Array (Nat × Value)} {v : AV} (h : aBuild P t parts = some v)
    (hp : parts.length = rparts.toList.length ∧ ∀ (j : Nat) (p : Nat × AV) (q : Nat × Value), parts[j]? = some p → rparts.toList[j]? = some q → p.1 = q.1 ∧ Rel σ p.2 q.2) :
    Gives P w (Instr.build t rparts) (Rel σ v) := by
  unfold aBuild at h
  split at h <;> try (cases h; done)
  · rename_i z fields hz hu
    obtain ⟨zv, hzr, hzrel, _⟩ := zeroA_run (w := w) (σ := σ) hz
    split at h <;> try (cases h; done)
    rename_i pl hpl
    split at h <;> try (cases h; done)
    rename_i l hl
    cases h
    obtain ⟨c', hc', hr'⟩ := fill_rel hl hp (cellsA_rel hzrel (zeroA_not hz))
    refine gives_val (v := .agg c') ?_ (.agg hr')
    have hpr : (fields.mapM fun f => do pure (f.offset, ← sizeOf f.type) : Sem (Array (Nat × Nat))).run P w = .ok pl.toArray w := by
      rw [Array.mapM_eq_mapM_toList]
      simp [places_run hpl]
    have hpl2 : (fun i : Nat => pl.toArray[i]?) = fun i => pl[i]? := by funext i; simp
    simp only [Instr.build, Sem.run_bind, hzr, Result.andThen_ok, Sem.run_pure, run_underlyingA hu, hpr, hpl2, hc']
  · rename_i z len e hz hu
    obtain ⟨zv, hzr, hzrel, _⟩ := zeroA_run (w := w) (σ := σ) hz
    split at h <;> try (cases h; done)
    rename_i n hn
    split at h <;> try (cases h; done)
    rename_i l hl
    cases h
    obtain ⟨c', hc', hr'⟩ := fill_rel hl hp (cellsA_rel hzrel (zeroA_not hz))
    refine gives_val (v := .agg c') ?_ (.agg hr')
    simp only [Instr.build, Sem.run_bind, hzr, Result.andThen_ok, Sem.run_pure, run_underlyingA hu, run_sizeOfA hn, hc']

theorem relL_map {ρA : Operand → AV} {ρ : Operand → Value} (l : List Operand) (h : ∀ x ∈ l, Rel σ (ρA x) (ρ x)) : RelL σ (l.map ρA) (l.map ρ) := RelL.map _ _ l h
theorem relO_map {ρA : Operand → AV} {ρ : Operand → Value} (o : Option Operand) (h : ∀ x ∈ o, Rel σ (ρA x) (ρ x)) : RelO σ (o.map ρA) (o.map ρ) := by
  cases o with
  | none => trivial
  | some x => exact h x rfl

/-- **All operations that only read.** -/
theorem aop_gives {o : Oper} {ρA : Operand → AV} {ρ : Operand → Value} {v : AV} {nd : List Bool} (h : aop P o.op ρA H = some (v, nd)) (hnd : allT nd = true) (s : Sim σ H w)
    (hr : ∀ x ∈ o.op.operands, Rel σ (ρA x) (ρ x)) : ∃ rv w', (execOp ρ o).run P w = .ok (.value rv) w' ∧ Rel σ v rv ∧ Same w w' := by
  have fin : ∀ {x : Sem Value}, execOp ρ o = (do pure (.value (← x))) → Gives P w x (Rel σ v) → ∃ rv w', (execOp ρ o).run P w = .ok (.value rv) w' ∧ Rel σ v rv ∧ Same w w' := by
    intro x e ⟨rv, w', h1, h2, h3⟩
    exact ⟨rv, w', by rw [e]; simp [h1], h2, h3⟩
  unfold aop at h
  split at h <;> (try (cases h; done)) <;> rename_i hop
  · -- move
    rename_i x
    simp only [Option.some.injEq, Prod.mk.injEq] at h; obtain ⟨rfl, _⟩ := h
    exact ⟨ρ x, w, by simp [execOp, hop], hr x (by simp [hop, Op.operands]), Same.refl w⟩
  · rename_i x
    simp only [Option.some.injEq, Prod.mk.injEq] at h; obtain ⟨rfl, _⟩ := h
    exact ⟨ρ x, w, by simp [execOp, hop], hr x (by simp [hop, Op.operands]), Same.refl w⟩
  · -- pick
    rename_i c a b
    split at h <;> try (cases h; done)
    rename_i l t hc
    simp only [Option.some.injEq, Prod.mk.injEq] at h; obtain ⟨rfl, _⟩ := h
    have h1 := hr c (by simp [hop, Op.operands])
    rw [hc] at h1
    have h2 := pickA_rel (l := l) (t := t) (hr a (by simp [hop, Op.operands])) (hr b (by simp [hop, Op.operands]))
    cases hcv : ρ c <;> rw [hcv] at h1 <;> cases h1
    exact ⟨_, w, by simp [execOp, hop, hcv, asBool], h2, Same.refl w⟩
  · rename_i t a
    exact fin (by simp [execOp, hop]) (load_gives h hnd s (hr a (by simp [hop, Op.operands])))
  · -- nilCheck
    rename_i x
    have h1 := hr x (by simp [hop, Op.operands])
    split at h <;> (try (cases h; done)) <;> rename_i hx <;> simp only [Option.some.injEq, Prod.mk.injEq] at h <;> obtain ⟨rfl, _⟩ := h <;> rw [hx] at h1
    · cases hxv : ρ x <;> rw [hxv] at h1 <;> cases h1
      rename_i hid
      exact ⟨_, w, by simp [execOp, hop, hxv], .p hid, Same.refl w⟩
    · cases hxv : ρ x <;> rw [hxv] at h1 <;> cases h1
      rename_i hf hc
      exact ⟨_, w, by simp [execOp, hop, hxv], .fn hf hc, Same.refl w⟩
    · cases hxv : ρ x <;> rw [hxv] at h1 <;> cases h1
      rename_i hv
      exact ⟨_, w, by simp [execOp, hop, hxv], .ifc hv, Same.refl w⟩
  · rename_i op t x y yt
    exact fin (x := (do eqGuard op t x y (ρ x) (ρ y); binOp op t (ρ x) (ρ y))) (by simp [execOp, hop]) (bin_gives h hnd (hr x (by simp [hop, Op.operands])) (hr y (by simp [hop, Op.operands])))
  · rename_i op t x
    exact fin (by simp [execOp, hop]) (un_gives (just_some h) (hr x (by simp [hop, Op.operands])))
  · rename_i s' d x
    exact fin (by simp [execOp, hop]) (conv_gives h hnd (hr x (by simp [hop, Op.operands])))
  · -- makeInterface
    rename_i t x
    have h1 := hr x (by simp [hop, Op.operands])
    split at h <;> try (cases h; done)
    rename_i u hu' hu
    simp only [Option.some.injEq, Prod.mk.injEq] at h; obtain ⟨rfl, _⟩ := h
    refine fin (x := Instr.makeInterface t (ρ x)) (by simp [execOp, hop]) (gives_val (v := .iface t (ρ x)) ?_ (.ifc h1))
    simp only [Instr.makeInterface, Sem.run_bind, run_underlyingA hu, Result.andThen_ok]
    cases u <;> first | rfl | exact absurd hu (hu' _)
  · rename_i g first cap
    simp only [Option.some.injEq, Prod.mk.injEq] at h; obtain ⟨rfl, _⟩ := h
    refine ⟨.func (.func g) (first.map ρ) (cap.map ρ), w, by simp [execOp, hop, Instr.makeFunc], .fn ?_ ?_, Same.refl w⟩
    · rw [Array.toList_map]; exact relL_map _ fun x hx => hr x (by simp [hop, Op.operands]; exact .inl (by simpa using hx))
    · rw [Array.toList_map]; exact relL_map _ fun x hx => hr x (by simp [hop, Op.operands]; exact .inr (by simpa using hx))
  · rename_i t x lo hi mx
    refine fin (by simp [execOp, hop]) (slice_gives h hnd s (hr x (by simp [hop, Op.operands])) (relO_map _ fun y hy => hr y ?_) (relO_map _ fun y hy => hr y ?_) (relO_map _ fun y hy => hr y ?_))
    all_goals (simp [hop, Op.operands]; simp at hy; simp [hy])
  · rename_i t x f
    exact fin (by simp [execOp, hop]) (fieldAddr_gives (just_some h) (hr x (by simp [hop, Op.operands])))
  · rename_i t x f
    exact fin (by simp [execOp, hop]) (field_gives (just_some h) (hr x (by simp [hop, Op.operands])))
  · rename_i t x i
    exact fin (by simp [execOp, hop]) (indexAddr_gives h hnd (hr x (by simp [hop, Op.operands])) (hr i (by simp [hop, Op.operands])))
  · rename_i t x i
    exact fin (by simp [execOp, hop]) (index_gives h hnd (hr x (by simp [hop, Op.operands])) (hr i (by simp [hop, Op.operands])))
  · rename_i x xt at_ ok
    exact fin (x := Instr.typeAssert (ρ x) xt at_ ok) (by simp [execOp, hop]) (typeAssert_gives (just_some h) (hr x (by simp [hop, Op.operands])))
  · -- extract
    rename_i t ix
    have h1 := hr t (by simp [hop, Op.operands])
    split at h <;> try (cases h; done)
    rename_i l ht
    rw [ht] at h1
    have h2 := just_some h
    rw [nth?_eq] at h2
    cases htv : ρ t <;> rw [htv] at h1 <;> cases h1
    rename_i cs hl
    obtain ⟨y, hy, hry⟩ := hl.get h2
    have hy' : cs[ix]? = some y := by simpa using hy
    exact fin (x := Instr.extract (.tuple cs) ix) (by simp [execOp, hop, htv]) (gives_val (by simp [Instr.extract, hy']) hry)
  · rename_i t parts
    refine fin (x := Instr.build t (parts.map fun (i, x) => (i, ρ x))) (by simp [execOp, hop]) (build_gives (just_some h) ?_)
    refine ⟨by simp, fun j p q hp hq => ?_⟩
    simp only [List.getElem?_map, Array.getElem?_toList, Option.map_eq_some_iff] at hp
    obtain ⟨p0, hp0, rfl⟩ := hp
    simp only [Array.getElem?_toList, Array.getElem?_map, hp0, Option.map_some, Option.some.injEq] at hq
    subst hq
    refine ⟨rfl, hr p0.2 ?_⟩
    simp [hop, Op.operands]
    exact ⟨p0.1, by have := Array.mem_of_getElem? hp0; simpa using this⟩
  · rename_i b args ts
    have h1 : RelL σ (args.toList.map ρA) (args.map ρ).toList := by
      rw [Array.toList_map]; exact relL_map _ fun x hx => hr x (by simp [hop, Op.operands, Call.operands]; simpa using hx)
    obtain ⟨rv, w', e1, e2, e3⟩ := builtin_gives (w := w) (ty := o.type) (cs := args.map fun | .const _ => true | _ => false) (just_some h) h1
    exact ⟨rv, w', by simp [execOp, hop, resolve, invoke]; exact e1, e2, e3⟩
end
end Go.Ax

/- Two values merged into one by a test. -/
namespace Go.Ax
open Go

mutual
def mergeV (b : Bool) : AV → AV → Option AV
  | .b l x, .b l' y => match l && l' with
    | true => match x with
      | true => match y with
        | true => some (.b true true)
        | false => some (.b false b)
      | false => match y with
        | true => some (.b false (!b))
        | false => some (.b true false)
    | false => some (.b false (cond b x y))
  | .i l k n, .i l' k' m => if k = k' then match l && l' && decide (n = m) with
      | true => some (.i true k n)
      | false => some (.i false k (cond b n m)) else none
  | .f l k n, .f l' k' m => if k = k' then match l && l' && decide (n = m) with
      | true => some (.f true k n)
      | false => some (.f false k (cond b n m)) else none
  | .c l k x y, .c l' k' x' y' => if k = k' then match l && l' && decide (x = x') && decide (y = y') with
      | true => some (.c true k x y)
      | false => some (.c false k (cond b x x') (cond b y y')) else none
  | .s _ x, .s _ y => some (.s false (cond b x y))
  | .p l id off, .p l' id' off' => if id = id' then match l && l' && decide (off = off') with
      | true => some (.p true id off)
      | false => some (.p false id (cond b off off')) else none
  | .pnil, .pnil => some .pnil
  | .sl l id off len z, .sl l' id' off' len' z' => match decide (id = id') && decide (z = z') && l && l' && decide (off = off') && decide (len = len') with
      | true => some (.sl true id off len z)
      | false => if id = id' ∧ z = z' then some (.sl false id (cond b off off') (cond b len len') z) else none
  | .slnil, .slnil => some .slnil
  | .sle, .sle => some .sle
  | .fn g f c, .fn g' f' c' => if g = g' then match mergeL b f f', mergeL b c c' with
      | some x, some y => some (.fn g x y)
      | _, _ => none else none
  | .fnil, .fnil => some .fnil
  | .ifc t v, .ifc t' v' => if t = t' then match mergeV b v v' with
      | some x => some (.ifc t x)
      | none => none else none
  | .inil, .inil => some .inil
  | .agg l, .agg l' => match mergeL b l l' with
      | some x => some (.agg x)
      | none => none
  | .tup l, .tup l' => match mergeL b l l' with
      | some x => some (.tup x)
      | none => none
  | _, _ => none
def mergeL (b : Bool) : List AV → List AV → Option (List AV)
  | [], [] => some []
  | x :: xs, y :: ys => match mergeV b x y with
    | some z => match mergeL b xs ys with
      | some zs => some (z :: zs)
      | none => none
    | none => none
  | _, _ => none
end

mutual
theorem mergeV_left {σ : List (Nat × Nat)} : ∀ {x y z : AV} {v : Value}, mergeV true x y = some z → Rel σ x v → Rel σ z v
  | .b _ _, y, z, v, h, r => by
    cases y <;> simp only [mergeV] at h <;> (try (cases h; done))
    cases r
    repeat' (split at h)
    all_goals cases h
    all_goals first | exact .b _ | simp_all
  | .i _ _ _, y, z, v, h, r => by
    cases y <;> simp only [mergeV] at h <;> (try (cases h; done))
    split at h <;> (try (cases h; done))
    split at h <;> cases h <;> cases r <;> exact .i _ _
  | .f _ _ _, y, z, v, h, r => by
    cases y <;> simp only [mergeV] at h <;> (try (cases h; done))
    split at h <;> (try (cases h; done))
    split at h <;> cases h <;> cases r with | f hr => exact .f hr
  | .c _ _ _ _, y, z, v, h, r => by
    cases y <;> simp [mergeV] at h
    obtain ⟨rfl, h⟩ := h
    split at h <;> cases h
    · cases r with | c h1 h2 => exact .c h1 h2
    · cases r with | c h1 h2 => exact .c h1 h2
  | .s _ _, y, z, v, h, r => by
    cases y <;> simp [mergeV] at h; subst h; cases r; exact .s _
  | .p _ _ _, y, z, v, h, r => by
    cases y <;> simp only [mergeV] at h <;> (try (cases h; done))
    split at h <;> (try (cases h; done))
    split at h <;> cases h <;> cases r with | p hr => exact .p hr
  | .pnil, y, z, v, h, r => by cases y <;> simp [mergeV] at h; subst h; exact r
  | .sl _ _ _ _ _, y, z, v, h, r => by
    cases y <;> simp only [mergeV] at h <;> (try (cases h; done))
    split at h
    · cases h; cases r with | sl h1 h2 h3 => exact .sl h1 h2 h3 | slz => exact .slz
    · split at h <;> cases h
      cases r with | sl h1 h2 h3 => exact .sl h1 h2 h3 | slz => exact .slz
  | .slnil, y, z, v, h, r => by cases y <;> simp [mergeV] at h; subst h; exact r
  | .sle, y, z, v, h, r => by cases y <;> simp [mergeV] at h; subst h; exact r
  | .fn _ _ _, y, z, v, h, r => by
    cases y <;> simp only [mergeV] at h <;> (try (cases h; done))
    split at h <;> (try (cases h; done))
    split at h <;> cases h
    rename_i hx hy
    cases r with | fn h1 h2 => exact .fn (mergeL_left hx h1) (mergeL_left hy h2)
  | .fnil, y, z, v, h, r => by cases y <;> simp [mergeV] at h; subst h; exact r
  | .ifc _ _, y, z, v, h, r => by
    cases y <;> simp only [mergeV] at h <;> (try (cases h; done))
    split at h <;> (try (cases h; done))
    split at h <;> cases h
    rename_i hx
    cases r with | ifc h1 => exact .ifc (mergeV_left hx h1)
  | .inil, y, z, v, h, r => by cases y <;> simp [mergeV] at h; subst h; exact r
  | .agg _, y, z, v, h, r => by
    cases y <;> simp only [mergeV] at h <;> (try (cases h; done))
    split at h <;> cases h
    rename_i hx
    cases r with | agg h1 => exact .agg (mergeL_left hx h1)
  | .tup _, y, z, v, h, r => by
    cases y <;> simp only [mergeV] at h <;> (try (cases h; done))
    split at h <;> cases h
    rename_i hx
    cases r with | tup h1 => exact .tup (mergeL_left hx h1)
theorem mergeL_left {σ : List (Nat × Nat)} : ∀ {x y z : List AV} {v : List Value}, mergeL true x y = some z → RelL σ x v → RelL σ z v
  | [], y, z, v, h, r => by cases y <;> simp [mergeL] at h; subst h; exact r
  | x :: xs, y, z, v, h, r => by
    cases y <;> simp only [mergeL] at h <;> (try (cases h; done))
    split at h <;> (try (cases h; done))
    split at h <;> cases h
    rename_i hx _ _ hxs
    cases r with | cons h1 h2 => exact .cons (mergeV_left hx h1) (mergeL_left hxs h2)
end
mutual
theorem mergeV_right {σ : List (Nat × Nat)} : ∀ {x y z : AV} {v : Value}, mergeV false x y = some z → Rel σ y v → Rel σ z v
  | .b _ _, y, z, v, h, r => by
    cases y <;> simp only [mergeV] at h <;> (try (cases h; done))
    cases r
    repeat' (split at h)
    all_goals cases h
    all_goals first | exact .b _ | simp_all
  | .i _ _ _, y, z, v, h, r => by
    cases y <;> simp only [mergeV] at h <;> (try (cases h; done))
    split at h <;> (try (cases h; done))
    rename_i hk
    subst hk
    split at h
    · rename_i hl
      simp at hl
      obtain ⟨_, rfl⟩ := hl
      cases h; cases r; exact .i _ _
    · cases h; cases r; exact .i _ _
  | .f _ _ _, y, z, v, h, r => by
    cases y <;> simp only [mergeV] at h <;> (try (cases h; done))
    split at h <;> (try (cases h; done))
    rename_i hk
    subst hk
    split at h
    · rename_i hl
      simp at hl
      obtain ⟨_, rfl⟩ := hl
      cases h; cases r with | f hr => exact .f hr
    · cases h; cases r with | f hr => exact .f hr
  | .c _ _ _ _, y, z, v, h, r => by
    cases y <;> simp only [mergeV] at h <;> (try (cases h; done))
    split at h <;> (try (cases h; done))
    rename_i hk
    subst hk
    split at h <;> cases h
    · rename_i hl
      simp at hl
      obtain ⟨⟨_, rfl⟩, rfl⟩ := hl
      cases r with | c h1 h2 => exact .c h1 h2
    · cases r with | c h1 h2 => exact .c h1 h2
  | .s _ _, y, z, v, h, r => by
    cases y <;> simp [mergeV] at h; subst h; cases r; exact .s _
  | .p _ _ _, y, z, v, h, r => by
    cases y <;> simp only [mergeV] at h <;> (try (cases h; done))
    split at h <;> (try (cases h; done))
    rename_i hk
    subst hk
    split at h
    · rename_i hl
      simp at hl
      obtain ⟨_, rfl⟩ := hl
      cases h; cases r with | p hr => exact .p hr
    · cases h; cases r with | p hr => exact .p hr
  | .pnil, y, z, v, h, r => by cases y <;> simp [mergeV] at h; subst h; exact r
  | .sl _ _ _ _ _, y, z, v, h, r => by
    cases y <;> simp only [mergeV] at h <;> (try (cases h; done))
    split at h
    · cases h
      rename_i hl
      simp at hl
      obtain ⟨⟨⟨⟨⟨rfl, rfl⟩, _⟩, _⟩, rfl⟩, rfl⟩ := hl
      cases r with | sl h1 h2 h3 => exact .sl h1 h2 h3 | slz => exact .slz
    · split at h <;> cases h
      rename_i hl
      obtain ⟨rfl, rfl⟩ := hl
      cases r with | sl h1 h2 h3 => exact .sl h1 h2 h3 | slz => exact .slz
  | .slnil, y, z, v, h, r => by cases y <;> simp [mergeV] at h; subst h; exact r
  | .sle, y, z, v, h, r => by cases y <;> simp [mergeV] at h; subst h; exact r
  | .fn _ _ _, y, z, v, h, r => by
    cases y <;> simp only [mergeV] at h <;> (try (cases h; done))
    split at h <;> (try (cases h; done))
    rename_i hg
    subst hg
    split at h <;> cases h
    rename_i hx hy
    cases r with | fn h1 h2 => exact .fn (mergeL_right hx h1) (mergeL_right hy h2)
  | .fnil, y, z, v, h, r => by cases y <;> simp [mergeV] at h; subst h; exact r
  | .ifc _ _, y, z, v, h, r => by
    cases y <;> simp only [mergeV] at h <;> (try (cases h; done))
    split at h <;> (try (cases h; done))
    rename_i hg
    subst hg
    split at h <;> cases h
    rename_i hx
    cases r with | ifc h1 => exact .ifc (mergeV_right hx h1)
  | .inil, y, z, v, h, r => by cases y <;> simp [mergeV] at h; subst h; exact r
  | .agg _, y, z, v, h, r => by
    cases y <;> simp only [mergeV] at h <;> (try (cases h; done))
    split at h <;> cases h
    rename_i hx
    cases r with | agg h1 => exact .agg (mergeL_right hx h1)
  | .tup _, y, z, v, h, r => by
    cases y <;> simp only [mergeV] at h <;> (try (cases h; done))
    split at h <;> cases h
    rename_i hx
    cases r with | tup h1 => exact .tup (mergeL_right hx h1)
theorem mergeL_right {σ : List (Nat × Nat)} : ∀ {x y z : List AV} {v : List Value}, mergeL false x y = some z → RelL σ y v → RelL σ z v
  | [], y, z, v, h, r => by cases y <;> simp [mergeL] at h; subst h; exact r
  | x :: xs, y, z, v, h, r => by
    cases y <;> simp only [mergeL] at h <;> (try (cases h; done))
    split at h <;> (try (cases h; done))
    split at h <;> cases h
    rename_i hx _ _ hxs
    cases r with | cons h1 h2 => exact .cons (mergeV_right hx h1) (mergeL_right hxs h2)
end

end Go.Ax

/- Code run on abstract values. -/
namespace Go.Ax
open Go

/-- What a function's evaluation comes to: an answer, or two ways by a test that is not decided. -/
inductive Res where
  | ret (v : AV) (H : List AB) (nd : List Bool)
  | ite (b : Bool) (x y : Res)
  | stop (todo : List Item) (t : List AV) (H : List AB) (nd : List Bool)
  | fail
/-- The way that is gone. -/
def Res.sel : Res → Res
  | .ret v H nd => .ret v H nd
  | .ite b x y => if b then x.sel else y.sel
  | .stop todo t H nd => .stop todo t H nd
  | .fail => .fail
/-- A way through the tests. -/
def Res.at : Res → List Bool → Res
  | .ite _ x y, b :: l => match b with
    | true => x.at l
    | false => y.at l
  | r, _ => r
def Res.todo : Res → List Item
  | .stop todo _ _ _ => todo
  | _ => []

abbrev KF := AV → List AB → List Bool → Res
abbrev KT := List AV → List AB → List Bool → Res
/-- What is known of each function: how its calls are evaluated. -/
abbrev Table := FuncId → List AV → List AB → List Bool → KF → Res

def evA (t : List AV) : Operand → AV
  | .tmp n => getL t n
  | .const v => (ofV v).getD (.tup [])
  | .global _ => .tup []
  | .func f => .fn f [] []
def okOpd : Operand → Bool
  | .tmp _ => true
  | .const v => (ofV v).isSome
  | .global _ => false
  | .func _ => true
def putT (t : List AV) (d : Option Nat) (v : AV) : List AV :=
  match d with
  | some n => setL t n v
  | none => t

/-! ### Operations that make or write memory -/
def asF32 : List AV → Option (List Nat)
  | [] => some []
  | .f _ .f32 x :: l => match asF32 l with
    | some r => some (x :: r)
    | none => none
  | _ => none
def asC64 : List AV → Option (List (Nat × Nat))
  | [] => some []
  | .c _ .f32 x y :: l => match asC64 l with
    | some r => some ((x, y) :: r)
    | none => none
  | _ => none
def asInts (k : IntKind) : List AV → Option (List Int)
  | [] => some []
  | .i _ k' x :: l => if k = k' then (match asInts k l with
    | some r => some (x :: r)
    | none => none) else none
  | _ => none
def asStrs : List AV → Option (List (List UInt8))
  | [] => some []
  | .s _ x :: l => match asStrs l with
    | some r => some (x :: r)
    | none => none
  | _ => none
/-- Cells in the form that suits an element type. -/
def mkCells (P : Program) (e : TypeId) (l : List AV) : Cells :=
  match P.underlying e with
  | some (.float .f32) => match asF32 l with
    | some r => .f32 r
    | none => .lit l
  | some (.complex .f32) => match asC64 l with
    | some r => .c64 r
    | none => .lit l
  | some (.int k) => match asInts k l with
    | some r => .ints k r
    | none => .lit l
  | some .string => match asStrs l with
    | some r => .strs r
    | none => .lit l
  | _ => .lit l
/-- Cells of a literal; of none, in the form that suits what is put behind them. -/
def litCells (P : Program) (e : TypeId) (len : Nat) (l : List AV) : Cells :=
  match len with
  | 0 => mkCells P e l
  | _ => .lit l
/-- n cells of one value. -/
def repCells (P : Program) (e : TypeId) (z : AV) (n : Nat) : Cells :=
  match P.underlying e, z with
  | some (.float .f32), .f _ .f32 x => .f32 (List.replicate n x)
  | some (.complex .f32), .c _ .f32 x y => .c64 (List.replicate n (x, y))
  | some (.int _), .i _ k x => .ints k (List.replicate n x)
  | some .string, .s _ x => .strs (List.replicate n x)
  | _, z => .lit (List.replicate n z)
def Cells.app : Cells → Cells → Cells
  | .f32 x, .f32 y => .f32 (x ++ y)
  | .c64 x, .c64 y => .c64 (x ++ y)
  | .ints k x, .ints k' y => if k = k' then .ints k (x ++ y) else .lit ((Cells.ints k x).toL ++ (Cells.ints k' y).toL)
  | .strs x, .strs y => .strs (x ++ y)
  | A, B => .lit (A.toL ++ B.toL)
/-- A part of a row of cells. -/
def Cells.sub : Cells → Nat → Nat → Cells
  | .lit l, off, n => .lit ((l.drop off).take n)
  | .f32 x, off, n => .f32 ((x.drop off).take n)
  | .c64 x, off, n => .c64 ((x.drop off).take n)
  | .ints k x, off, n => .ints k ((x.drop off).take n)
  | .strs x, off, n => .strs ((x.drop off).take n)
/-- Cells written from a place on. -/
def Cells.put (A : Cells) (off : Nat) (vs : List AV) : Option Cells :=
  match vs with
  | [v] => A.set off v
  | vs => match A with
    | .lit l => some (.lit (l.take off ++ (vs ++ l.drop (off + vs.length))))
    | _ => none
def allCell : List AV → Bool
  | [] => true
  | v :: l => okCell v && allCell l

/-- The cells that an appended slice holds: tag, cells, number, what is to be shown. -/
def sliceCells (H : List AB) (size : Nat) : AV → Option (Bool × Cells × Nat × List Bool)
  | .sl l id off n _ => match getB H id with
    | .cells _ A => match chk (l && A.isLit) (decide (off + n * size ≤ A.len)) with
      | some nd => some (l, A.sub off (n * size), n, nd)
      | none => none
    | _ => none
  | .slnil => some (true, .lit [], 0, [])
  | .sle => some (true, .lit [], 0, [])
  | _ => none
def Cells.okAll : Cells → Bool
  | .lit l => allCell l
  | _ => true
def slId : AV → Option Nat
  | .sl _ id _ _ _ => some id
  | _ => none

/-- What is put behind a row, in the row's form. -/
def fitB (P : Program) (e : TypeId) (A B : Cells) : Cells :=
  match A with
  | .lit _ => B
  | _ => match B with
    | .lit l => mkCells P e l
    | B => B
def zeroFits (P : Program) (e : TypeId) (n : Nat) : Bool :=
  match zeroA P e with
  | some z => (cellsA z).length == n
  | none => false
def consN (v : AV) (H : List AB) (nd : List Bool) : Option (List Bool) → Option (AV × List AB × List Bool)
  | some n => some (v, H, n ++ nd)
  | none => none
def aAppend (P : Program) (ts : Array TypeId) (args : List AV) (H : List AB) : Option (AV × List AB × List Bool) :=
  match ts[0]?, ts[1]?, args with
  | some t, some t', [s, x] =>
    match P.underlying t, P.underlying t' with
    | some (.slice e), some (.slice _) =>
      match P.info? e with
      | some i =>
        match zeroFits P e i.size && decide (0 < i.bytes) && decide (0 < i.size), sliceCells H i.size x with
        | true, some (lx, B, n, nb) =>
          match B.okAll with
          | false => none
          | true =>
          match s with
          | .slnil => match lx, n with
            | true, 0 => some (.slnil, H, nb)
            | _, _ => consN (.sl lx H.length 0 n i.size) (H ++ [.cells true (mkCells P e B.toL)]) nb (chk lx (decide (0 < n) && decide ((2 * n + 1024) * i.bytes ≤ 2 ^ 48)))
          | .sle => match lx, n with
            | true, 0 => some (.sle, H, nb)
            | _, _ => consN (.sl lx H.length 0 n i.size) (H ++ [.cells true B]) nb (chk lx (decide (0 < n) && decide ((2 * n + 1024) * i.bytes ≤ 2 ^ 48)))
          | .sl l id off m z =>
            match getB H id with
            | .cells true A =>
              if slId x = some id then none else
              consN (.sl (l && lx) H.length 0 (m + n) i.size) (setB H id .dead ++ [.cells true ((A.sub off (m * i.size)).app (fitB P e A B))]) nb
                (chk (l && lx && A.isLit) (decide (off = 0) && decide (z = i.size) && decide (m * i.size = A.len) && decide ((2 * (m + n) + 1024) * i.bytes ≤ 2 ^ 48)))
            | _ => none
          | _ => none
        | _, _ => none
      | none => none
    | _, _ => none
  | _, _, _ => none

def aMake (P : Program) (t : TypeId) (l c : AV) (H : List AB) : Option (AV × List AB × List Bool) :=
  match P.underlying t, l, c with
  | some (.slice e), .i ll _ l, .i lc _ c =>
    match P.info? e, zeroA P e with
    | some i, some z =>
      if i.size = 1 then
        match cellsA z with
        | [z] => consN (.sl ll H.length 0 l.toNat 1) (H ++ [.cells true (repCells P e z c.toNat)]) []
            (chk (ll && lc) (decide (0 ≤ l) && decide (l ≤ c) && decide (i.bytes * c ≤ 2 ^ 48) && decide (0 < i.bytes)))
        | _ => none
      else
        consN (.sl ll H.length 0 l.toNat i.size) (H ++ [.cells true (.lit ((List.range (c.toNat * i.size)).map fun j => getL (cellsA z) (j % i.size)))]) []
            (chk (ll && lc) (decide (0 ≤ l) && decide (l ≤ c) && decide (i.bytes * c ≤ 2 ^ 48) && decide (0 < i.bytes) && decide ((cellsA z).length = i.size) && decide (0 < i.size)))
    | _, _ => none
  | _, _, _ => none

def aBuildSlice (P : Program) (t : TypeId) (len : Nat) (parts : List (Nat × AV)) (H : List AB) : Option (AV × List AB × List Bool) :=
  match P.underlying t with
  | some (.slice e) =>
    match szA P e, zeroA P e with
    | some n, some z =>
      match fillA (fun i => some (i * n, n)) ((List.range (len * n)).map fun j => getL (cellsA z) (j % n)) parts with
      | some l => consN (.sl true H.length 0 len n) (H ++ [.cells true (litCells P e len l)]) [] (chk true (decide (len * n ≤ 2 ^ 24) && decide ((cellsA z).length = n) && decide (0 < n)))
      | none => none
    | _, _ => none
  | _ => none

def symSet (off : Nat) (v : AV) : Nat → List AV → List AV
  | _, [] => []
  | j, a :: l => (match mergeV (decide (off = j)) v a with
    | some z => z
    | none => a) :: symSet off v (j + 1) l
def symOb (off : Nat) (v : AV) : Nat → List AV → List Bool
  | _, [] => []
  | j, a :: l => match mergeV (decide (off = j)) v a with
    | some _ => symOb off v (j + 1) l
    | none => (!decide (off = j)) :: symOb off v (j + 1) l
/-- A cell written at a place that is not a closed term, in a row of literal length. -/
def symPut (off : Nat) (A : Cells) (x : List AV) (H : List AB) (id : Nat) : Option (AV × List AB × List Bool) :=
  match A, x with
  | .lit L, [v] => match okCell v with
    | true => some (.tup [], setB H id (.cells true (.lit (symSet off v 0 L))), decide (off < L.length) :: symOb off v 0 L)
    | false => none
  | _, _ => none
def aStore (P : Program) (t : TypeId) (a x : AV) (H : List AB) : Option (AV × List AB × List Bool) :=
  match a with
  | .p l id off => match getB H id with
    | .cells true A => match szA P t with
      | some n => match l || !A.isLit with
        | true => match A.put off (cellsA x) with
          | some B => if allCell (cellsA x) then
              consN (.tup []) (setB H id (.cells true B)) [] (chk (l && A.isLit) (decide ((cellsA x).length = n) && decide (off + n ≤ A.len)))
            else none
          | none => none
        | false => match decide (n = 1) with
          | true => symPut off A (cellsA x) H id
          | false => none
      | none => none
    | _ => none
  | _ => none
/-- The operations that make or write memory. -/
def eop (P : Program) (op : Op) (ρ : Operand → AV) (H : List AB) : Option (AV × List AB × List Bool) :=
  match op with
  | .alloc e => match zeroA P e with
    | some z => some (.p true H.length 0, H ++ [.cells true (.lit (cellsA z))], [])
    | none => none
  | .box _ x => match isAny (ρ x) with
    | true => none
    | false => some (.p true H.length 0, H ++ [.cells true (.lit (cellsA (ρ x)))], [])
  | .store t a x => aStore P t (ρ a) (ρ x) H
  | .buildSlice t len parts => aBuildSlice P t len (parts.toList.map fun x => (x.1, ρ x.2)) H
  | .makeSlice t l c => aMake P t (ρ l) (ρ c) H
  | .call { callee := .builtin .append, args, argTypes } => aAppend P argTypes (args.toList.map ρ) H
  | _ => none

/-! ### Calls -/
/-- The function that is called, and its arguments. -/
def aCall (c : Call) (ρ : Operand → AV) : Option (FuncId × List AV) :=
  match c.callee with
  | .value f => match ρ f with
    | .fn g first cap => some (g, first ++ c.args.toList.map ρ ++ cap)
    | _ => none
  | _ => none
def fsqrt (x : Nat) : Nat := (FloatKind.f64.format.sqrt x).getD (qnan .f64)
/-- A function of the library without a Go body. -/
def aExtern (fn : Func) (args : List AV) : Option AV :=
  if fn.name == "math.sqrt" && fn.origin == "" then
    match args with
    | [.f l .f64 x] => some (.f l .f64 (fsqrt x))
    | _ => none
  else none

mutual
/-- No block beyond the first n is named. -/
def below (n : Nat) : AV → Bool
  | .p _ id _ => decide (id < n)
  | .sl _ id _ _ _ => decide (id < n)
  | .fn _ f c => belowL n f && belowL n c
  | .ifc _ v => below n v
  | .agg l => belowL n l
  | .tup l => belowL n l
  | _ => true
def belowL (n : Nat) : List AV → Bool
  | [] => true
  | a :: l => below n a && belowL n l
end
def roB : AB → AB
  | .dead => .dead
  | .cells _ A => .cells false A
  | .code o xs => .code o xs
def roH : List AB → List AB
  | [] => []
  | a :: l => roB a :: roH l

section
variable (P : Program) (T : Table)
def stepA (op : Op) (d : Option Nat) (t : List AV) (H : List AB) (nd : List Bool) (K : KT) : Res :=
  match aop P op (evA t) H with
  | some (v, n) => K (putT t d v) H (n ++ nd)
  | none => match eop P op (evA t) H with
    | some (v, H', n) => K (putT t d v) H' (n ++ nd)
    | none => .fail
/-- One operation. -/
def stepOp (o : Oper) (t : List AV) (H : List AB) (nd : List Bool) (K : KT) : Res :=
  if o.op.operands.all okOpd then
    match o.op with
    | .call c =>
      match aCall c (evA t) with
      | some (g, args) =>
        match P.funcs[g]? with
        | some fn =>
          match fn.body with
          | some _ =>
            match fn.name == "runtime.NumGoroutine" with
            | true => .fail
            | false => T g args H nd fun v H' nd' => K (putT t o.dst v) H' nd'
          | none => match aExtern fn args with
            | some v => K (putT t o.dst v) H nd
            | none => .fail
        | none => .fail
      | none => stepA P o.op o.dst t H nd K
    | op => stepA P op o.dst t H nd K
  else .fail
def stepAQ (op : Op) (d : Option Nat) (t : List AV) (H : List AB) (nd : List Bool) (K : List AV → List Bool → Res) : Res :=
  match aop P op (evA t) H with
  | some (v, n) => K (putT t d v) (n ++ nd)
  | none => .fail
/-- One operation that must leave memory alone. -/
def stepQ (o : Oper) (t : List AV) (H : List AB) (nd : List Bool) (K : List AV → List Bool → Res) : Res :=
  if o.op.operands.all okOpd then
    match o.op with
    | .call c =>
      match aCall c (evA t) with
      | some (g, args) =>
        match P.funcs[g]? with
        | some fn =>
          match fn.body with
          | some _ =>
            match fn.name == "runtime.NumGoroutine" with
            | true => .fail
            | false => T g args (roH H) nd fun v _ nd' => match below H.length v with
              | true => K (putT t o.dst v) nd'
              | false => .fail
          | none => match aExtern fn args with
            | some v => K (putT t o.dst v) nd
            | none => .fail
        | none => .fail
      | none => stepAQ P o.op o.dst t H nd K
    | op => stepAQ P op o.dst t H nd K
  else .fail

def gDst (ops : Array Oper) (j : Nat) : Option Nat :=
  match ops[j]? with
  | some o => o.dst
  | none => none
/-- A test that guards an operation: its temporary, and the two ways. -/
def guarded (ops : Array Oper) (o : Oper) (t : List AV) (yes no : List AV → Res) : Res :=
  match o.guard with
  | none => yes t
  | some (j, want) =>
    match gDst ops j with
    | none => .fail
    | some d =>
      match getL t d with
      | .b l x =>
        match l with
        | true => match x with
          | true => match want with
            | true => yes t
            | false => no t
          | false => match want with
            | true => no t
            | false => yes t
        | false => match want with
          | true => .ite x (yes (setL t d (.b true true))) (no (setL t d (.b true false)))
          | false => .ite x (no (setL t d (.b true true))) (yes (setL t d (.b true false)))
      | .tup [] => no t
      | _ => .fail

def runOps (ops : Array Oper) : List Oper → List AV → List AB → List Bool → KT → Res
  | [], t, H, nd, K => K t H nd
  | o :: rest, t, H, nd, K =>
    guarded ops o t
      (fun t => stepOp P T o t H nd fun t H nd => runOps ops rest t H nd K)
      (fun t => runOps ops rest (putT t o.dst (.tup [])) H nd K)
def runQ (ops : Array Oper) : List Oper → List AV → List AB → List Bool → (List AV → List Bool → Res) → Res
  | [], t, _, nd, K => K t nd
  | o :: rest, t, H, nd, K =>
    guarded ops o t
      (fun t => stepQ P T o t H nd fun t nd => runQ ops rest t H nd K)
      (fun t => runQ ops rest (putT t o.dst (.tup [])) H nd K)

/-! ### Regions whose order is open -/
def aheadOf (ops : Array Oper) : Nat → Nat → Nat → Bool
  | 0, _, _ => false
  | n + 1, j, k =>
    match ops[j]? with
    | some o => (o.after.any fun e => Region.binds .any e && e.on == k) || (o.after.any fun e => Region.binds .any e && aheadOf ops n e.on k)
    | none => false
def looks (ops : Array Oper) (o : Oper) : List Nat :=
  (o.op.operands.toList.filterMap fun | .tmp t => some t | _ => none) ++
  (match o.guard with
   | some (g, _) => (gDst ops g).toList
   | none => [])
def isEff : Op → Bool
  | .assign _ | .store .. | .alloc _ | .box .. | .buildSlice .. | .makeSlice .. => true
  | .call { callee := .builtin .append, .. } => true
  | _ => false
/-- How many operations come ahead of the first that writes. -/
def quietN : List Oper → Nat
  | [] => 0
  | o :: l => if isEff o.op then 0 else quietN l + 1
/-- The first m operations may come in any order that their edges allow, the others come one behind the other. -/
def drawOK (ops : Array Oper) (m : Nat) : Bool :=
  let n := ops.size
  ((List.range n).all fun j => match ops[j]? with
    | some o => (o.after.all fun e => !Region.binds .any e || decide (e.on < j)) &&
      (match o.op with | .select .. => false | _ => true) &&
      (if j < m then
        ((looks ops o).all fun t => (List.range m).all fun i => !(gDst ops i == some t) || aheadOf ops 10 j i) &&
        ((List.range m).all fun i => i == j || match o.dst with | some d => !(gDst ops i == some d) | none => true)
      else (List.range j).all fun k => aheadOf ops 10 j k)
    | none => false)
/-- Those that write memory. -/
def isEffA : Op → Bool
  | .store .. | .alloc _ | .box .. | .buildSlice .. | .makeSlice .. => true
  | .call { callee := .builtin .append, .. } => true
  | _ => false
def quietA : List Oper → Nat
  | [] => 0
  | o :: l => if isEffA o.op then 0 else quietA l + 1
/-- How many operations come first, in any order: those ahead of the first that writes, or, where that fits no order, those ahead of the first that writes memory. -/
def qN (ops : Array Oper) : Nat := match drawOK ops (quietN ops.toList) with
  | true => quietN ops.toList
  | false => quietA ops.toList
def qM (draw : Bool) (ops : Array Oper) : Nat := match draw with
  | true => qN ops
  | false => quietN ops.toList
def runRegion (ops : Array Oper) (draw : Bool) (t : List AV) (H : List AB) (nd : List Bool) (K : KT) : Res :=
  match draw with
  | false => runOps P T ops ops.toList t H nd K
  | true =>
    match P.follows .mixedOrders && drawOK ops (qN ops) with
    | true => runQ P T ops (ops.toList.take (qN ops)) t H nd fun t nd => runOps P T ops (ops.toList.drop (qN ops)) t H nd K
    | false => .fail

def run : Nat → List Item → List AV → List AB → List Bool → KT → Res
  | 0, _, _, _, _, _ => .fail
  | n + 1, todo, t, H, nd, K =>
    match todo with
    | [] => K t H nd
    | .inBlock _ :: k => run n k t H nd K
    | .inLoop c :: k => run n (.code c :: .inLoop c :: k) t H nd K
    | .code c :: k =>
      match c with
      | .skip => run n k t H nd K
      | .label _ => run n k t H nd K
      | .ret => K t H nd
      | .seq a b => run n (.code a :: .code b :: k) t H nd K
      | .cond c a b =>
        match okOpd c, evA t c with
        | true, .b l x => match l with
          | true => match x with
            | true => run n (.code a :: k) t H nd K
            | false => run n (.code b :: k) t H nd K
          | false => .ite x (run n (.code a :: k) t H nd K) (run n (.code b :: k) t H nd K)
        | _, _ => .fail
      | .block id c => run n (.code c :: .inBlock id :: k) t H nd K
      | .loop c => run n (.code c :: .inLoop c :: k) t H nd K
      | .exit id => match exitTo id k with
        | some k' => run n k' t H nd K
        | none => .fail
      | .region _ ops draw => runRegion P T ops draw t H nd fun t H nd => run n k t H nd K
      | _ => .fail
    | _ => .fail

def resV (P : Program) (t : List AV) (H : List AB) : List ResultVar → Option (List AV × List Bool)
  | [] => some ([], [])
  | .tmp d :: l => match resV P t H l with
    | some (vs, n) => some (getL t d :: vs, n)
    | none => none
  | .cell a ty :: l => match aLoad P ty (getL t a) H, resV P t H l with
    | some (v, m), some (vs, n) => some (v :: vs, m ++ n)
    | _, _ => none
def tupV : List AV → AV
  | [v] => v
  | l => .tup l
def retK (fn : Func) (K : KF) : KT := fun t H nd =>
  match resV P t H fn.results.toList with
  | some (vs, n) => K (tupV vs) H (n ++ nd)
  | none => .fail
def undefs : Nat → List AV
  | 0 => []
  | n + 1 => .tup [] :: undefs n
/-- A function's own text run. -/
def runF (n : Nat) : Table := fun f args H nd K =>
  match P.funcs[f]? with
  | some fn => match fn.body with
    | some c => run P T n [.code c] (args ++ undefs (fn.ntmps - args.length)) H nd (retK P fn K)
    | none => .fail
  | none => .fail
end
end Go.Ax

/- The operations that make or write memory: the model does the same. -/
namespace Go.Ax
open Go

/-- What a step has come to. -/
def Out (σ : List (Nat × Nat)) (H : List AB) (w : World) (v : AV) (H' : List AB) (rv : Value) (w' : World) : Prop :=
  ∃ σ', Rel σ' v rv ∧ Sim σ' H' w' ∧ Fr σ H w σ' H' w'

section
variable {P : Program} {w : World} {σ : List (Nat × Nat)} {H : List AB}

theorem relA_of {l : List AV} {c : Array Value} (h : RelL σ l c.toList) : RelA σ l c := fun j a ha => by
  obtain ⟨x, hx, hr⟩ := h.get ha
  exact ⟨x, by simpa using hx, hr⟩
/-- The same cells without tags. -/
def Alike (l m : List AV) : Prop := l.length = m.length ∧ ∀ (j : Nat) (a b : AV), l[j]? = some a → m[j]? = some b → a = b ∨ b = a.bare
theorem Alike.rfl' (l : List AV) : Alike l l := ⟨rfl, fun j a b h h' => by rw [h] at h'; cases h'; exact .inl rfl⟩
theorem relA_alike {l m : List AV} {c : Array Value} (h : RelA σ l c) (ha : Alike l m) : RelA σ m c := fun j b hb => by
  have hj : j < m.length := by
    rcases Nat.lt_or_ge j m.length with h' | h'
    · exact h'
    · rw [List.getElem?_eq_none h'] at hb; cases hb
  have hj' : j < l.length := by rw [ha.1]; exact hj
  have hl : l[j]? = some l[j] := List.getElem?_eq_getElem hj'
  obtain ⟨v, hv, hr⟩ := h j _ hl
  rcases ha.2 j _ b hl hb with rfl | rfl
  · exact ⟨v, hv, hr⟩
  · exact ⟨v, hv, hr.bare⟩

theorem asF32_alike : ∀ {l : List AV} {r : List Nat}, asF32 l = some r → Alike l (r.map (.f false .f32))
  | [], r, h => by cases h; exact Alike.rfl' _
  | a :: l, r, h => by
    unfold asF32 at h
    split at h <;> try (cases h; done)
    · rename_i heq; cases heq
    rename_i t x l' heq
    cases heq
    split at h <;> cases h
    rename_i r hr
    have ih := asF32_alike hr
    refine ⟨by simp [ih.1], fun j a b ha hb => ?_⟩
    cases j with
    | zero => simp at ha hb; subst ha; subst hb; exact .inr rfl
    | succ j => exact ih.2 j a b (by simpa using ha) (by simpa using hb)
theorem asC64_alike : ∀ {l : List AV} {r : List (Nat × Nat)}, asC64 l = some r → Alike l (r.map fun z => .c false .f32 z.1 z.2)
  | [], r, h => by cases h; exact Alike.rfl' _
  | a :: l, r, h => by
    unfold asC64 at h
    split at h <;> try (cases h; done)
    · rename_i heq; cases heq
    rename_i t x y l' heq
    cases heq
    split at h <;> cases h
    rename_i r hr
    have ih := asC64_alike hr
    refine ⟨by simp [ih.1], fun j a b ha hb => ?_⟩
    cases j with
    | zero => simp at ha hb; subst ha; subst hb; exact .inr rfl
    | succ j => exact ih.2 j a b (by simpa using ha) (by simpa using hb)
theorem asInts_alike {k : IntKind} : ∀ {l : List AV} {r : List Int}, asInts k l = some r → Alike l (r.map (.i false k))
  | [], r, h => by cases h; exact Alike.rfl' _
  | a :: l, r, h => by
    cases a <;> simp only [asInts] at h <;> try (cases h; done)
    rename_i t k' x
    split at h <;> try (cases h; done)
    rename_i hk; subst hk
    split at h <;> cases h
    rename_i r hr
    have ih := asInts_alike hr
    refine ⟨by simp [ih.1], fun j a b ha hb => ?_⟩
    cases j with
    | zero => simp at ha hb; subst ha; subst hb; exact .inr rfl
    | succ j => exact ih.2 j a b (by simpa using ha) (by simpa using hb)
theorem asStrs_alike : ∀ {l : List AV} {r : List (List UInt8)}, asStrs l = some r → Alike l (r.map (.s false))
  | [], r, h => by cases h; exact Alike.rfl' _
  | a :: l, r, h => by
    cases a <;> simp only [asStrs] at h <;> try (cases h; done)
    rename_i t x
    split at h <;> cases h
    rename_i r hr
    have ih := asStrs_alike hr
    refine ⟨by simp [ih.1], fun j a b ha hb => ?_⟩
    cases j with
    | zero => simp at ha hb; subst ha; subst hb; exact .inr rfl
    | succ j => exact ih.2 j a b (by simpa using ha) (by simpa using hb)
theorem mkCells_alike (e : TypeId) (l : List AV) : Alike l (mkCells P e l).toL := by
  unfold mkCells
  split
  · split
    · rename_i r hr; exact asF32_alike hr
    · exact Alike.rfl' _
  · split
    · rename_i r hr; exact asC64_alike hr
    · exact Alike.rfl' _
  · split
    · rename_i r hr; exact asInts_alike hr
    · exact Alike.rfl' _
  · split
    · rename_i r hr; exact asStrs_alike hr
    · exact Alike.rfl' _
  · exact Alike.rfl' _

theorem litCells_alike (e : TypeId) (n : Nat) (l : List AV) : Alike l (litCells P e n l).toL := by
  unfold litCells
  split
  · exact mkCells_alike e l
  · exact Alike.rfl' _

/-- A new block of cells, and a pointer to it. -/
theorem alloc_out {A : Cells} {c : Array Value} {t : TypeId} (s : Sim σ H w) (h : RelA σ A.toL c) :
    Sim (σ ++ [(w.heap.size, c.size)]) (H ++ [.cells true A]) (w.alloc (.cells c t)) ∧ Fr σ H w (σ ++ [(w.heap.size, c.size)]) (H ++ [.cells true A]) (w.alloc (.cells c t)) ∧
      (σ ++ [(w.heap.size, c.size)])[H.length]? = some (w.heap.size, c.size) :=
  ⟨s.alloc h, Fr.alloc σ H w _ _ _ s.len, by rw [← s.len]; simp⟩

/-! ### Stores -/
theorem storeCells_out {id b z : Nat} : ∀ {vs : List AV} {rvs : List Value} (off i : Nat) {w : World} {H : List AB} {L : List AV}, σ[id]? = some (b, z) → getB H id = .cells true (.lit L) → Sim σ H w →
    RelL σ vs rvs → allCell vs = true → off + i + vs.length ≤ L.length →
    ∃ w', (storeCells ⟨b, off, none⟩ rvs i).run P w = .ok () w' ∧ Sim σ (setB H id (.cells true (.lit (setAll L (off + i) vs)))) w' ∧ Fr σ H w σ (setB H id (.cells true (.lit (setAll L (off + i) vs)))) w'
  | _, _, off, i, w, H, L, hid, hg, s, .nil, _, _ => by
    have hidl : id < H.length := by rw [← s.len]; exact isSome_lt hid
    have hsame : setB H id (.cells true (.lit L)) = H := by
      rw [← hg]
      have : ∀ (H : List AB) (id : Nat), setB H id (getB H id) = H := by
        intro H
        induction H with
        | nil => intro id; rfl
        | cons a H ih => intro id; cases id with
          | zero => rfl
          | succ n => simp [setB, getB, ih n]
      exact this H id
    refine ⟨w, by simp [storeCells], ?_, ?_⟩
    · simp only [setAll]; rw [hsame]; exact s
    · simp only [setAll]; rw [hsame]; exact Fr.refl _ _ _
  | _, _, off, i, w, H, L, hid, hg, s, .cons (a := a) (v := v) (as := as) (vs := rvs) hv hs, hc, hb => by
    simp only [allCell, Bool.and_eq_true] at hc
    simp only [List.length_cons] at hb
    have hidl : id < H.length := by rw [← s.len]; exact isSome_lt hid
    obtain ⟨⟨u, hu⟩, hf, s1⟩ := s.store (off := off + i) (B := .lit (setL L (off + i) a)) hid hg (by simp [Cells.len]; omega) (by simp [Cells.toL, setL_eq]) hv
    have f1 : Fr σ H w σ (setB H id (.cells true (.lit (setL L (off + i) a)))) (w.setCell ⟨b, off + i, none⟩ v) := Fr.store σ H w hid hg
    have hg1 : getB (setB H id (.cells true (.lit (setL L (off + i) a)))) id = .cells true (.lit (setL L (off + i) a)) := getB_setB_same hidl
    obtain ⟨w', h1, h2, h3⟩ := storeCells_out off (i + 1) hid hg1 s1 hs hc.2 (by rw [setL_eq]; simp; omega)
    have hss : ∀ (H : List AB) (id : Nat) (x y : AB), setB (setB H id x) id y = setB H id y := by
      intro H
      induction H with
      | nil => intros; rfl
      | cons c H ih => intro id x y; cases id with
        | zero => rfl
        | succ n => simp [setB, ih n]
    rw [hss] at h2 h3
    refine ⟨w', ?_, ?_, ?_⟩
    · have hst : (store ((⟨b, off, none⟩ : Addr).add i) v).run P w = .ok () (w.setCell ⟨b, off + i, none⟩ v) := by
        rw [addr_add, run_store P w _ v .plain (okCell_one hv hc.1), hu]
        simp [hf]
      simp only [storeCells, Sem.run_bind, hst, Result.andThen_ok]
      exact h1
    · simpa [setAll, Nat.add_assoc] using h2
    · simpa [setAll, Nat.add_assoc] using f1.trans h3

theorem setB_self (H : List AB) (id : Nat) : setB H id (getB H id) = H := by
  induction H generalizing id with
  | nil => rfl
  | cons a H ih => cases id with
    | zero => rfl
    | succ n => simp [setB, getB, ih n]
theorem setB_setB (H : List AB) (id : Nat) (x y : AB) : setB (setB H id x) id y = setB H id y := by
  induction H generalizing id with
  | nil => rfl
  | cons c H ih => cases id with
    | zero => rfl
    | succ n => simp [setB, ih n]

theorem setAll_eq : ∀ (vs L : List AV) (n : Nat), n + vs.length ≤ L.length → setAll L n vs = L.take n ++ (vs ++ L.drop (n + vs.length))
  | [], L, n, _ => by simp [setAll]
  | v :: vs, L, n, h => by
    simp only [List.length_cons] at h
    simp only [setAll]
    rw [setAll_eq vs _ _ (by rw [setL_eq]; simp; omega), setL_eq]
    have h1 : (L.set n v).take (n + 1) = L.take n ++ [v] := by
      rw [List.take_succ_eq_append_getElem (by simp; omega)]
      simp [List.take_set_of_le]
    have h2 : (L.set n v).drop (n + 1 + vs.length) = L.drop (n + 1 + vs.length) := by
      rw [List.drop_set_of_lt (by omega)]
    rw [h1, h2]
    simp [Nat.add_assoc, Nat.add_comm 1]

theorem Sim.alike {id : Nat} {r : Bool} {A B : Cells} (h : Alike A.toL B.toL) (hid : id < H.length) (s : Sim σ (setB H id (.cells r A)) w) : Sim σ (setB H id (.cells r B)) w := by
  refine ⟨by rw [setB_length]; have := s.len; rwa [setB_length] at this, fun i b z hb => ?_, fun i j b z z' hi hj hr hl => ?_⟩
  · have := s.blk i b z hb
    by_cases hib : id = i
    · subst hib
      rw [getB_setB_same hid] at this ⊢
      obtain ⟨c, e, fr, h1, h2, h3⟩ := this
      exact ⟨c, e, fr, h1, relA_alike h2 h, h3⟩
    · rwa [getB_setB_ne hib] at this ⊢
  · refine s.inj i j b z z' hi hj ?_ ?_
    · by_cases hib : id = i
      · subst hib; rw [getB_setB_same hid] at hr ⊢; exact hr
      · rwa [getB_setB_ne hib] at hr ⊢
    · by_cases hib : id = j
      · subst hib; rw [getB_setB_same hid]; rfl
      · rwa [getB_setB_ne hib] at hl ⊢
theorem Fr.other {σ' : List (Nat × Nat)} {H' : List AB} {w' : World} {id : Nat} {r : Bool} {A B : Cells} (h : Fr σ H w σ' (setB H' id (.cells r A)) w') : Fr σ H w σ' (setB H' id (.cells r B)) w' := by
  refine ⟨h.os, h.tape, h.output, h.size, h.old, h.ext, h.new, fun i hi hr => h.mono i hi ?_⟩
  by_cases hid : id < H'.length
  · by_cases hib : id = i
    · subst hib; rw [getB_setB_same hid] at hr ⊢; exact hr
    · rwa [getB_setB_ne hib] at hr ⊢
  · have : ∀ x, getB (setB H' id x) i = getB H' i := by
      intro x
      by_cases hib : id = i
      · subst hib
        rw [getB_none (by rw [setB_length]; omega), getB_none (by omega)]
      · exact getB_setB_ne hib
    rw [this] at hr ⊢; exact hr

theorem put_alike {A B : Cells} {off : Nat} {vs : List AV} (h : A.put off vs = some B) (hb : off + vs.length ≤ A.len) : Alike (setAll A.toL off vs) B.toL := by
  have hlen : off + vs.length ≤ A.toL.length := by rw [Cells.len_eq]; exact hb
  have hone : ∀ {v : AV}, vs = [v] → A.set off v = some B → Alike (setAll A.toL off vs) B.toL := by
    intro v hv hs
    subst hv
    rcases Cells.set_toL hs with e | e
    · rw [e]; simp only [setAll, setL_eq]; exact Alike.rfl' _
    · rw [e]; simp only [setAll, setL_eq]
      refine ⟨by simp, fun j a b ha hb' => ?_⟩
      by_cases hj : off = j
      · subst hj
        simp only [List.length_cons, List.length_nil] at hlen
        rw [List.getElem?_set_self (by omega)] at ha hb'
        cases ha; cases hb'; exact .inr rfl
      · rw [List.getElem?_set_ne hj] at ha hb'
        rw [ha] at hb'; cases hb'; exact .inl rfl
  unfold Cells.put at h
  split at h
  · exact hone rfl h
  · split at h <;> cases h
    rename_i l
    simp only [Cells.toL] at hlen ⊢
    rw [setAll_eq _ _ _ hlen]
    exact Alike.rfl' _

theorem consN_some {v v' : AV} {H H' : List AB} {nd n : List Bool} {o : Option (List Bool)} (h : consN v H nd o = some (v', H', n)) (hn : allT n = true) :
    v = v' ∧ H = H' ∧ allT nd = true ∧ ∃ m, o = some m ∧ allT m = true := by
  cases o <;> simp [consN] at h
  rename_i m
  obtain ⟨rfl, rfl, rfl⟩ := h
  rw [allT_append, Bool.and_eq_true] at hn
  exact ⟨rfl, rfl, hn.2, m, rfl, hn.1⟩

theorem not_any {a : AV} (h : allCell (cellsA a) = true) : isAny a = false := by
  cases a <;> first | rfl | (simp [cellsA, allCell, okCell] at h)
theorem sym_weak {off : Nat} {v : AV} {c : Array Value} : ∀ (L : List AV) (j : Nat), allT (symOb off v j L) = true → ∀ (i : Nat) (a b : AV) (x : Value), L[i]? = some a → (symSet off v j L)[i]? = some b →
    Rel σ (if off = j + i then v else a) x → Rel σ b x
  | [], j, _, i, a, b, x, ha, _, _ => by simp at ha
  | y :: L, j, hob, 0, a, b, x, ha, hb, r => by
    simp only [List.getElem?_cons_zero, Option.some.injEq] at ha
    subst ha
    simp only [symSet, List.getElem?_cons_zero, Option.some.injEq] at hb
    simp only [Nat.add_zero] at r
    simp only [symOb] at hob
    by_cases ho : off = j
    · rw [if_pos ho] at r
      have hd : decide (off = j) = true := by simpa using ho
      rw [hd] at hb hob
      cases hm : mergeV true v y with
      | none => rw [hm] at hob; simp [allT] at hob
      | some z =>
        rw [hm] at hb
        cases hb
        exact mergeV_left hm r
    · rw [if_neg ho] at r
      have hd : decide (off = j) = false := by simpa using ho
      rw [hd] at hb hob
      cases hm : mergeV false v y with
      | none => rw [hm] at hb; cases hb; exact r
      | some z =>
        rw [hm] at hb
        cases hb
        exact mergeV_right hm r
  | y :: L, j, hob, i + 1, a, b, x, ha, hb, r => by
    simp only [List.getElem?_cons_succ] at ha
    simp only [symSet, List.getElem?_cons_succ] at hb
    have hob' : allT (symOb off v (j + 1) L) = true := by
      simp only [symOb] at hob
      split at hob
      · exact hob
      · simp only [allT, Bool.and_eq_true] at hob; exact hob.2
    refine sym_weak (c := c) L (j + 1) hob' i a b x ha hb ?_
    rw [show j + 1 + i = j + (i + 1) by omega]; exact r
theorem symSet_length (off : Nat) (v : AV) : ∀ (L : List AV) (j : Nat), (symSet off v j L).length = L.length
  | [], _ => rfl
  | _ :: L, j => by simp [symSet, symSet_length off v L (j + 1)]

theorem symPut_out {t : TypeId} {l : Bool} {id off : Nat} {A : Cells} {x v : AV} {ra rx : Value} {H' : List AB} {nd : List Bool} (h : symPut off A (cellsA x) H id = some (v, H', nd)) (hnd : allT nd = true) (s : Sim σ H w)
    (ha : Rel σ (.p l id off) ra) (hx : Rel σ x rx) (hg : getB H id = .cells true A) (hn : szA P t = some 1) :
    v = .tup [] ∧ ∃ w', (Instr.storeAt t ra rx).run P w = .ok () w' ∧ Sim σ H' w' ∧ Fr σ H w σ H' w' := by
  unfold symPut at h
  split at h <;> try (cases h; done)
  rename_i L a hcx
  split at h <;> try (cases h; done)
  rename_i hok
  cases h
  simp only [allT, Bool.and_eq_true, decide_eq_true_eq] at hnd
  obtain ⟨hlt, hob⟩ := hnd
  cases ha with | p hid =>
  rename_i b z
  have hidl : id < H.length := by rw [← s.len]; exact isSome_lt hid
  have hcr := cellsA_rel hx (not_any (by rw [hcx]; simp [allCell, hok]))
  rw [hcx] at hcr
  have hcl := hcr.length
  simp only [Array.length_toList, List.length_cons, List.length_nil] at hcl
  obtain ⟨w', h1, h2, h3⟩ := storeCells_out (P := P) off 0 hid hg s hcr (by simp [allCell, hok]) (by simp; omega)
  refine ⟨rfl, w', ?_, ?_, h3.other⟩
  · have hsz : rx.cells.size = 1 := by omega
    simp only [Instr.storeAt, Instr.sureAddr, Sem.run_bind, Sem.run_pure, Result.andThen_ok, storeVar, run_sizeOfA hn, hsz, ne_eq, not_true_eq_false, if_false]
    exact h1
  · refine ⟨by rw [setB_length]; exact s.len, fun i b' z' hb' => ?_, fun i j b' z' z2 hi hj hri hlj => ?_⟩
    · have h0 := h2.blk i b' z' hb'
      by_cases hib : id = i
      · subst hib
        rw [getB_setB_same hidl] at h0 ⊢
        obtain ⟨c, e, fr, e1, e2, e3⟩ := h0
        refine ⟨c, e, fr, e1, fun k y hk => ?_, e3⟩
        simp only [Cells.toL] at hk
        have hkl : k < L.length := by
          rcases Nat.lt_or_ge k L.length with h' | h'
          · exact h'
          · rw [List.getElem?_eq_none (by rw [symSet_length]; exact h')] at hk; cases hk
        obtain ⟨y0, hy0, hr0⟩ := e2 k (if off = k then a else L[k]) (by
          simp only [Cells.toL, setAll, setL_eq, Nat.add_zero]
          by_cases ho : off = k
          · subst ho; rw [List.getElem?_set_self hlt, if_pos rfl]
          · rw [List.getElem?_set_ne ho, if_neg ho]; exact List.getElem?_eq_getElem hkl)
        exact ⟨y0, hy0, sym_weak (c := c) L 0 hob k L[k] y y0 (List.getElem?_eq_getElem hkl) hk (by rw [Nat.zero_add]; exact hr0)⟩
      · rw [getB_setB_ne hib] at h0 ⊢; exact h0
    · have key : ∀ k, (getB (setB H id (.cells true (.lit (symSet off a 0 L)))) k).rw = (getB H k).rw ∧ (getB (setB H id (.cells true (.lit (symSet off a 0 L)))) k).live = (getB H k).live := fun k => by
        by_cases hib : id = k
        · subst hib; rw [getB_setB_same hidl, hg]; exact ⟨rfl, rfl⟩
        · rw [getB_setB_ne hib]; exact ⟨rfl, rfl⟩
      rw [(key i).1] at hri
      rw [(key j).2] at hlj
      exact s.inj i j b' z' z2 hi hj hri hlj

theorem store_out {t : TypeId} {a x v : AV} {ra rx : Value} {H' : List AB} {nd : List Bool} (h : aStore P t a x H = some (v, H', nd)) (hnd : allT nd = true) (s : Sim σ H w) (ha : Rel σ a ra) (hx : Rel σ x rx) :
    v = .tup [] ∧ ∃ w', (Instr.storeAt t ra rx).run P w = .ok () w' ∧ Sim σ H' w' ∧ Fr σ H w σ H' w' := by
  unfold aStore at h
  split at h <;> try (cases h; done)
  rename_i l id off
  split at h <;> try (cases h; done)
  rename_i A hg
  split at h <;> try (cases h; done)
  rename_i n hn
  split at h
  case h_2 =>
    split at h <;> try (cases h; done)
    rename_i hn1
    have hn1 : n = 1 := by simpa using hn1
    subst hn1
    exact symPut_out h hnd s ha hx hg hn
  split at h <;> try (cases h; done)
  rename_i B hB
  split at h <;> try (cases h; done)
  rename_i hcell
  obtain ⟨rfl, rfl, _, m, hc, hm⟩ := consN_some h hnd
  have hc := chk_spec hc hm
  simp only [Bool.and_eq_true, decide_eq_true_eq] at hc
  cases ha with | p hid =>
  rename_i b z
  have hidl : id < H.length := by rw [← s.len]; exact isSome_lt hid
  have hcx := cellsA_rel hx (not_any hcell)
  have hcl := hcx.length
  simp only [Array.length_toList] at hcl
  have s0 : Sim σ (setB H id (.cells true (.lit A.toL))) w := by
    refine Sim.alike (A := A) (Alike.rfl' _) hidl ?_
    rw [← hg, setB_self]; exact s
  have hg0 : getB (setB H id (.cells true (.lit A.toL))) id = .cells true (.lit A.toL) := getB_setB_same hidl
  have hlen : off + (cellsA x).length ≤ A.toL.length := by rw [Cells.len_eq]; omega
  obtain ⟨w', h1, h2, h3⟩ := storeCells_out (P := P) off 0 hid hg0 s0 hcx hcell (by simpa using hlen)
  rw [Nat.add_zero, setB_setB] at h2 h3
  refine ⟨rfl, w', ?_, Sim.alike (A := .lit (setAll A.toL off (cellsA x))) (put_alike hB (by omega)) hidl h2, ?_⟩
  · have hsz : rx.cells.size = n := by omega
    simp only [Instr.storeAt, Instr.sureAddr, Sem.run_bind, Sem.run_pure, Result.andThen_ok, storeVar, run_sizeOfA hn, hsz, ne_eq, not_true_eq_false, if_false]
    exact h1
  · have f0 : Fr σ H w σ (setB H id (.cells true (.lit A.toL))) w := by
      refine ⟨rfl, rfl, rfl, Nat.le_refl _, fun _ _ _ => rfl, Ext.refl _, fun i b z h h' => (by rw [h'] at h; cases h), fun i hi hr => ?_⟩
      by_cases hib : id = i
      · subst hib; rw [hg]; rfl
      · rwa [getB_setB_ne hib] at hr
    exact (f0.trans h3).other

/-! ### New blocks -/
theorem new_out {A : Cells} {c : Array Value} {e : TypeId} (s : Sim σ H w) (h : RelA σ A.toL c) {l : Bool} {len cap z : Nat} (hl : len ≤ cap) (hz : cap * z ≤ c.size) :
    Out σ H w (.sl l H.length 0 len z) (H ++ [.cells true A]) (.slice (some ⟨w.heap.size, 0, none⟩) len cap) (w.alloc (.cells c e)) := by
  obtain ⟨h1, h2, h3⟩ := alloc_out (t := e) s h
  exact ⟨_, .sl h3 hl (by omega), h1, h2⟩

theorem zero_list {z : AV} {zv : Value} {n : Nat} (hz : Rel σ z zv) (na : isAny z = false) (hn : (cellsA z).length = n) (h0 : 0 < n) (m : Nat) :
    RelL σ ((List.range m).map fun j => getL (cellsA z) (j % n)) ((Array.range m).map (fun i => zv.cells[i % zv.cells.size]!)).toList := by
  have hc := cellsA_rel hz na
  have hcl := hc.length
  simp only [Array.length_toList] at hcl
  rw [Array.toList_map, Array.toList_range]
  refine RelL.map _ _ _ fun j _ => ?_
  have hlt : j % n < (cellsA z).length := by rw [hn]; exact Nat.mod_lt _ h0
  obtain ⟨x, hx, hr⟩ := hc.get (getL_some hlt)
  rw [← hcl, hn]
  have hx' : zv.cells[j % n]? = some x := by simpa using hx
  rw [getElem!_def, hx']
  exact hr

theorem buildSlice_out {t : TypeId} {len : Nat} {parts : List (Nat × AV)} {rparts : Array (Nat × Value)} {v : AV} {H' : List AB} {nd : List Bool} (h : aBuildSlice P t len parts H = some (v, H', nd)) (hnd : allT nd = true) (s : Sim σ H w)
    (hp : parts.length = rparts.toList.length ∧ ∀ (j : Nat) (p : Nat × AV) (q : Nat × Value), parts[j]? = some p → rparts.toList[j]? = some q → p.1 = q.1 ∧ Rel σ p.2 q.2) :
    ∃ rv w', (Instr.buildSlice t len rparts).run P w = .ok rv w' ∧ Out σ H w v H' rv w' := by
  unfold aBuildSlice at h
  split at h <;> try (cases h; done)
  rename_i e hu
  split at h <;> try (cases h; done)
  rename_i n z hn hz
  split at h <;> try (cases h; done)
  rename_i l hl
  obtain ⟨rfl, rfl, _, m, hc, hm⟩ := consN_some h hnd
  have hc := chk_spec hc hm
  simp only [Bool.and_eq_true, decide_eq_true_eq] at hc
  obtain ⟨⟨h1, h2⟩, h3⟩ := hc
  obtain ⟨zv, hzr, hzrel, _⟩ := zeroA_run (w := w) (σ := σ) hz
  have hzl := zero_list hzrel (zeroA_not hz) h2 h3 (len * n)
  obtain ⟨c', hc', hr'⟩ := fill_rel hl hp hzl
  have hcs : c'.size = len * n := by
    have e1 := hr'.length
    have e2 : ∀ {place : Nat → Option (Nat × Nat)} {parts : List (Nat × AV)} {l l' : List AV}, fillA place l parts = some l' → l'.length = l.length := by
      intro place parts
      induction parts with
      | nil => intro l l' h; cases h; rfl
      | cons p parts ih =>
        intro l l' h
        obtain ⟨i, v⟩ := p
        simp only [fillA] at h
        split at h <;> try (cases h; done)
        split at h <;> try (cases h; done)
        rw [ih h, setAll_length]
    have := e2 hl
    simp at this e1
    omega
  refine ⟨_, _, ?_, new_out (A := litCells P e len l) (c := c') (e := e) s (relA_alike (relA_of hr') (litCells_alike e len l)) (Nat.le_refl len) (by rw [hcs]; exact Nat.le_refl _)⟩
  simp only [Instr.buildSlice, Sem.run_bind, run_underlyingA hu, Result.andThen_ok, run_sizeOfA hn]
  rw [if_neg (by omega)]
  by_cases h0 : len * n = 0
  · rw [if_pos h0]
    have hf : Instr.fill (fun i => some (i * n, n)) ((Array.range (len * n)).map (fun x => (#[] : Array Value)[x % (#[] : Array Value).size]!)) rparts.toList = some c' := by
      have e1 : ∀ g : Nat → Value, (Array.range (len * n)).map g = #[] := fun g => by rw [h0]; simp
      rw [e1]; rw [e1] at hc'; exact hc'
    simp only [Sem.run_bind, Sem.run_pure, Result.andThen_ok, hf, newRow, run_newObj]
    rfl
  · rw [if_neg h0]
    simp only [Sem.run_bind, hzr, Sem.run_pure, Result.andThen_ok, hc', newRow, run_newObj]
    rfl

theorem wrap64_id {n : Int} (h0 : -9223372036854775808 ≤ n) (h1 : n ≤ 9223372036854775807) : IntKind.i64.wrap n = n := by
  have e : IntKind.i64.wrap n = if 9223372036854775808 ≤ n % 18446744073709551616 then n % 18446744073709551616 - 18446744073709551616 else n % 18446744073709551616 := by
    simp [IntKind.wrap, IntKind.bits, IntKind.signed]
  rw [e]; split <;> omega
theorem rep_alike {e : TypeId} {z : AV} (n : Nat) : Alike (List.replicate n z) (repCells P e z n).toL := by
  have key : ∀ (y : AV), (z = y ∨ y = z.bare) → Alike (List.replicate n z) (List.replicate n y) := by
    intro y hy
    refine ⟨by simp, fun j a b ha hb => ?_⟩
    simp only [List.getElem?_replicate] at ha hb
    split at ha <;> cases ha
    split at hb <;> cases hb
    · exact hy
    · omega
  unfold repCells
  split
  · simp only [Cells.toL, List.map_replicate]; exact key _ (.inr rfl)
  · simp only [Cells.toL, List.map_replicate]; exact key _ (.inr rfl)
  · simp only [Cells.toL, List.map_replicate]; exact key _ (.inr rfl)
  · simp only [Cells.toL, List.map_replicate]; exact key _ (.inr rfl)
  · exact Alike.rfl' _

theorem make_out {t : TypeId} {l c v : AV} {rl rc : Value} {H' : List AB} {nd : List Bool} (h : aMake P t l c H = some (v, H', nd)) (hnd : allT nd = true) (s : Sim σ H w) (hl : Rel σ l rl) (hc : Rel σ c rc) :
    ∃ rv w', (Instr.makeSlice t rl rc).run P w = .ok rv w' ∧ Out σ H w v H' rv w' := by
  unfold aMake at h
  split at h <;> try (cases h; done)
  rename_i e ll kl l lc kc c hu
  cases hl; cases hc
  split at h <;> try (cases h; done)
  rename_i i z hi hz
  obtain ⟨zv, hzr, hzrel, i', hi', hiz⟩ := zeroA_run (w := w) (σ := σ) hz
  rw [hi] at hi'; cases hi'
  have hszr : (sizeOf e).run P w = .ok i.size w := by simp [sizeOf, run_typeInfoA hi]
  have main : ∀ (cells : Array Value), 0 ≤ l → l ≤ c → (i.bytes : Int) * c ≤ 2 ^ 48 → 0 < i.bytes →
      (∀ zc : Array Value, (c.toNat * i.size = 0 → zc = #[]) → (c.toNat * i.size ≠ 0 → zc = zv.cells) → (Array.range (c.toNat * i.size)).map (zc[· % zc.size]!) = cells) →
      (Instr.makeSlice t (.int kl l) (.int kc c)).run P w = .ok (.slice (some ⟨w.heap.size, 0, none⟩) l.toNat c.toNat) (w.alloc (.cells cells e)) := by
    intro cells h0 h1 h2 h3 hcells
    have hcb : c ≤ 2 ^ 48 := by
      have : c ≤ (i.bytes : Int) * c := by
        have : (1 : Int) * c ≤ (i.bytes : Int) * c := Int.mul_le_mul_of_nonneg_right (by omega) (by omega)
        omega
      omega
    have wl : IntKind.i64.wrap l = l := wrap64_id (by omega) (by omega)
    have wc : IntKind.i64.wrap c = c := wrap64_id (by omega) (by omega)
    have hcond : ¬ ((c < 0 || (i.bytes : Int) * c > 2 ^ 48) || l < 0 || l > c) = true := by
      simp; omega
    simp only [Instr.makeSlice, Sem.run_bind, run_underlyingA hu, Result.andThen_ok, asInt, asIntOf, Sem.run_pure, run_typeInfoA hi, wl, wc]
    rw [if_neg (by simpa using hcond)]
    simp only [Sem.run_bind, run_askRoom, Result.andThen_ok, hszr]
    by_cases hz0 : c.toNat * i.size = 0
    · rw [if_pos hz0]
      have := hcells #[] (fun _ => rfl) (fun h => absurd hz0 h)
      simp only [Sem.run_bind, Sem.run_pure, Result.andThen_ok, this, newRow, run_newObj]
      rfl
    · rw [if_neg hz0]
      have := hcells zv.cells (fun h => absurd h hz0) (fun _ => rfl)
      simp only [Sem.run_bind, Sem.run_pure, Result.andThen_ok, hzr, this, newRow, run_newObj]
      rfl
  split at h
  · rename_i hone
    split at h <;> try (cases h; done)
    rename_i z0 hz0
    obtain ⟨rfl, rfl, _, m, hc, hm⟩ := consN_some h hnd
    have hc := chk_spec hc hm
    simp only [Bool.and_eq_true, decide_eq_true_eq] at hc
    obtain ⟨⟨⟨h1, h2⟩, h3⟩, h4⟩ := hc
    have hzl := zero_list hzrel (zeroA_not hz) (by rw [hz0]; rfl) (Nat.zero_lt_one) c.toNat
    have hzl' : RelL σ (List.replicate c.toNat z0) ((Array.range c.toNat).map (fun i => zv.cells[i % zv.cells.size]!)).toList := by
      have : ((List.range c.toNat).map fun j => getL (cellsA z) (j % 1)) = List.replicate c.toNat z0 := by
        rw [hz0]
        apply List.ext_getElem?
        intro j
        by_cases hj : j < c.toNat
        · simp [hj, Nat.mod_one, getL]
        · simp [hj]
      rw [← this]; exact hzl
    refine ⟨_, _, main _ h1 h2 h3 h4 (fun zc hz1 hz2 => ?_), new_out (A := repCells P e z0 c.toNat) (c := (Array.range c.toNat).map (fun i => zv.cells[i % zv.cells.size]!)) (e := e) s
      (relA_alike (relA_of hzl') (rep_alike _)) (by omega) (by simp)⟩
    rw [hone, Nat.mul_one] at hz1 hz2 ⊢
    by_cases h0 : c.toNat = 0
    · rw [h0]; simp
    · rw [hz2 h0]
  · obtain ⟨rfl, rfl, _, m, hc, hm⟩ := consN_some h hnd
    have hc := chk_spec hc hm
    simp only [Bool.and_eq_true, decide_eq_true_eq] at hc
    obtain ⟨⟨⟨⟨⟨h1, h2⟩, h3⟩, h4⟩, h5⟩, h6⟩ := hc
    have hzl := zero_list hzrel (zeroA_not hz) h5 h6 (c.toNat * i.size)
    refine ⟨_, _, main _ h1 h2 h3 h4 (fun zc hz1 hz2 => ?_), new_out (A := .lit ((List.range (c.toNat * i.size)).map fun j => getL (cellsA z) (j % i.size))) (c := (Array.range (c.toNat * i.size)).map (fun i => zv.cells[i % zv.cells.size]!)) (e := e) s
      (relA_of hzl) (by omega) (by simp)⟩
    by_cases h0 : c.toNat * i.size = 0
    · rw [h0]; simp
    · rw [hz2 h0]
end
end Go.Ax

/- append: the model does the same. -/
namespace Go.Ax
open Go

section
variable {P : Program} {w : World} {σ : List (Nat × Nat)} {H : List AB}

theorem sub_toL (A : Cells) (off n : Nat) : (A.sub off n).toL = (A.toL.drop off).take n := by
  cases A <;> simp [Cells.sub, Cells.toL, List.map_take, List.map_drop]
theorem relL_alike {σ : List (Nat × Nat)} {l m : List AV} {c : List Value} (h : RelL σ l c) (ha : Alike l m) : RelL σ m c := by
  refine RelL.of_get (by rw [← ha.1]; exact h.length) fun j a x hj hx => ?_
  have hl : j < l.length := by
    rw [ha.1]
    rcases Nat.lt_or_ge j m.length with h' | h'
    · exact h'
    · rw [List.getElem?_eq_none h'] at hj; cases hj
  obtain ⟨y, hy, hr⟩ := h.get (List.getElem?_eq_getElem hl)
  rw [hy] at hx; cases hx
  rcases ha.2 j _ a (List.getElem?_eq_getElem hl) hj with e | e
  · rw [← e]; exact hr
  · rw [e]; exact hr.bare
theorem fitB_rel {P : Program} {e : TypeId} {σ : List (Nat × Nat)} {A B : Cells} {c : List Value} (h : RelL σ B.toL c) : RelL σ (fitB P e A B).toL c := by
  unfold fitB
  split
  · exact h
  · split
    · exact relL_alike h (mkCells_alike _ _)
    · exact h
theorem app_toL (A B : Cells) : (A.app B).toL = A.toL ++ B.toL := by
  cases A <;> cases B <;> simp only [Cells.app] <;> (try split) <;> (try rfl) <;> (try (rename_i h; subst h)) <;> simp [Cells.toL]

theorem grow_le (newLen : Nat) : ∀ (r c : Nat), c ≤ newLen + (newLen + 768) / 4 → Builtin.growBy newLen r c ≤ newLen + (newLen + 768) / 4
  | 0, c, h => h
  | r + 1, c, h => by
    simp only [Builtin.growBy]
    split
    · exact h
    · exact grow_le newLen r _ (by omega)
theorem next_le {newLen oldCap : Nat} (h : oldCap < newLen) : Builtin.nextslicecap newLen oldCap ≤ 2 * newLen + 1024 := by
  unfold Builtin.nextslicecap
  split
  · omega
  · split
    · omega
    · have := grow_le newLen 4 oldCap (by omega); omega

/-- What is read of the appended slice. -/
theorem slice_read {size n : Nat} {l : Bool} {x : AV} {rx : Value} {B : Cells} {nb : List Bool} (h : sliceCells H size x = some (l, B, n, nb)) (hnb : allT nb = true) (s : Sim σ H w) (hx : Rel σ x rx) :
    ∃ cs : List Value, (∀ w', w'.heap = w.heap → (Builtin.firstCells size n rx).run P w' = .ok cs.toArray w') ∧ RelL σ B.toL cs ∧ cs.length = n * size ∧ (Builtin.lenOf rx).run P w = .ok n w := by
  unfold sliceCells at h
  split at h <;> try (cases h; done)
  · rename_i l id off n z
    split at h <;> try (cases h; done)
    rename_i r A hg
    split at h <;> cases h
    rename_i hc
    have hc := of_decide_eq_true (chk_spec hc hnb)
    cases hx with
    | @slz _ _ _ ad _ =>
      refine ⟨[], fun w' _ => by cases ad <;> simp [Builtin.firstCells, loadCells, loadCellsFrom], ?_, by simp, by simp [Builtin.lenOf]⟩
      rw [Nat.zero_mul] at hc ⊢
      rw [sub_toL]
      simpa using RelL.nil
    | sl hid hcap hz =>
    rename_i cap b c
    have key : ∀ w', w'.heap = w.heap → Sim σ H w' := fun w' hw => ⟨s.len, fun i b z hb => by rw [hw]; exact s.blk i b z hb, s.inj⟩
    obtain ⟨cs, h1, h2, h3⟩ := s.cellsList (P := P) hid hg hc
    refine ⟨cs, fun w' hw => ?_, ?_, h3, by simp [Builtin.lenOf]⟩
    · obtain ⟨cs', h1', h2', h3'⟩ := (key w' hw).cellsList (P := P) hid hg hc
      have hcell : ∀ a, w'.cell? a = w.cell? a := fun a => by simp [World.cell?, hw]
      have : cs' = cs := by
        have e : ∀ (k : Nat) (acc : Array Value) (i : Nat) (r : Array Value), (loadCellsFrom ⟨b, off, none⟩ i k acc).run P w = .ok r w → (∀ j, j < k → ∃ v, w.cell? ⟨b, off + (i + j), none⟩ = some v) → (loadCellsFrom ⟨b, off, none⟩ i k acc).run P w' = .ok r w' := by
          intro k
          induction k with
          | zero => intro acc i r h _; simp [loadCellsFrom] at h ⊢; exact h
          | succ k ih =>
            intro acc i r h hj
            obtain ⟨v, hv⟩ := hj 0 (by omega)
            simp only [Nat.add_zero] at hv
            simp only [loadCellsFrom, Sem.run_bind, run_load, addr_add, hv, Result.andThen_ok] at h
            simp only [loadCellsFrom, Sem.run_bind, run_load, addr_add, hcell, hv, Result.andThen_ok]
            exact ih _ _ _ h (fun j hj' => by have := hj (j + 1) (by omega); rwa [show i + (j + 1) = i + 1 + j by omega] at this)
        have := e (n * size) #[] 0 cs.toArray h1 (fun j hj => by
          obtain ⟨v, hv, _⟩ := s.cell hid hg (Cells.get_some (show off + j < A.len by omega))
          exact ⟨v, by simpa using hv⟩)
        rw [show loadCellsFrom ⟨b, off, none⟩ 0 (n * size) #[] = loadCells ⟨b, off, none⟩ (n * size) from rfl, h1'] at this
        cases this
        rfl
      subst this
      simpa [Builtin.firstCells] using h1'
    · rw [sub_toL, ← Cells.range_eq hc]; exact h2
  · cases h; cases hx
    exact ⟨[], fun w' _ => by simp [Builtin.firstCells], .nil, by simp, by simp [Builtin.lenOf]⟩
  · cases h; cases hx
    exact ⟨[], fun w' _ => by simp [Builtin.firstCells, loadCells, loadCellsFrom], .nil, by simp, by simp [Builtin.lenOf]⟩

theorem relA_more {l : List AV} {cs : List Value} {rest : Array Value} (h : RelL σ l cs) : RelA σ l (cs.toArray ++ rest) := fun j a ha => by
  obtain ⟨x, hx, hr⟩ := h.get ha
  have hj : j < cs.length := by
    rcases Nat.lt_or_ge j cs.length with h' | h'
    · exact h'
    · rw [List.getElem?_eq_none h'] at hx; cases hx
  exact ⟨x, by rw [Array.getElem?_append_left (by simpa using hj)]; simpa using hx, hr⟩

/-- A block that is looked at no more. -/
theorem Sim.kill (s : Sim σ H w) (id : Nat) : Sim σ (setB H id .dead) w := by
  have hg : ∀ i, getB (setB H id .dead) i = .dead ∨ (i ≠ id ∧ getB (setB H id .dead) i = getB H i) := fun i => by
    by_cases h : id = i
    · subst h
      rcases Nat.lt_or_ge id H.length with h' | h'
      · exact .inl (getB_setB_same h')
      · exact .inl (getB_none (by rw [setB_length]; exact h'))
    · exact .inr ⟨Ne.symm h, getB_setB_ne h⟩
  refine ⟨by rw [setB_length]; exact s.len, fun i b z hb => ?_, fun i j b z z' hi hj hr hl => ?_⟩
  · rcases hg i with h | ⟨_, h⟩
    · rw [h]; trivial
    · rw [h]; exact s.blk i b z hb
  · rcases hg i with h | ⟨_, h⟩
    · rw [h] at hr; cases hr
    · rcases hg j with h' | ⟨_, h'⟩
      · rw [h'] at hl; cases hl
      · rw [h] at hr; rw [h'] at hl
        exact s.inj i j b z z' hi hj hr hl
theorem Fr.kill (σ : List (Nat × Nat)) (H : List AB) (w : World) (id : Nat) : Fr σ H w σ (setB H id .dead) w := by
  refine ⟨rfl, rfl, rfl, Nat.le_refl _, fun _ _ _ => rfl, Ext.refl _, fun i b z h h' => (by rw [h'] at h; cases h), fun i _ h => ?_⟩
  by_cases hi : id = i
  · subst hi
    rcases Nat.lt_or_ge id H.length with h' | h'
    · rw [getB_setB_same h'] at h; cases h
    · rw [getB_none (by rw [setB_length]; exact h')] at h; cases h
  · rwa [getB_setB_ne hi] at h

/-- Cells stored one behind the other into a block that is told whole. -/
theorem storeCells_raw {b : Nat} {e : TypeId} {fr : Nat × Nat} (hfr : ∀ j, ¬ (fr.1 ≤ j ∧ j < fr.2)) : ∀ {vs : List Value} (off i : Nat) {w : World} {c : Array Value}, w.heap[b]? = some (.cells c e fr) →
    (∀ v ∈ vs, v.oneCell' = true) → off + i + vs.length ≤ c.size →
    ∃ w' c', (storeCells ⟨b, off, none⟩ vs i).run P w = .ok () w' ∧ w'.heap[b]? = some (.cells c' e fr) ∧ c'.size = c.size ∧ w'.os = w.os ∧ w'.tape = w.tape ∧ w'.output = w.output ∧ w'.heap.size = w.heap.size ∧
      (∀ b', b' ≠ b → w'.heap[b']? = w.heap[b']?) ∧ (∀ j, j < off + i → c'[j]? = c[j]?) ∧ (∀ j, j < vs.length → c'[off + i + j]? = vs[j]?)
  | [], off, i, w, c, hw, _, _ => ⟨w, c, by simp [storeCells], hw, rfl, rfl, rfl, rfl, rfl, fun _ _ => rfl, fun _ _ => rfl, fun j hj => by simp at hj⟩
  | v :: vs, off, i, w, c, hw, hv, hb => by
    simp only [List.length_cons] at hb
    have hlt : off + i < c.size := by omega
    have hcell : w.cell? ⟨b, off + i, none⟩ = some c[off + i] := by simp [World.cell?, hw, hlt]
    have hnf : w.frozen? ⟨b, off + i, none⟩ = false := by
      simp only [World.frozen?, hw]
      rw [Bool.eq_false_iff]; intro hh; exact hfr (off + i) (by simpa using hh)
    have hst : (store ((⟨b, off, none⟩ : Addr).add i) v).run P w = .ok () (w.setCell ⟨b, off + i, none⟩ v) := by
      rw [addr_add, run_store P w _ v .plain (hv v (by simp)), hcell]
      simp [hnf]
    have hw1 : (w.setCell ⟨b, off + i, none⟩ v).heap[b]? = some (.cells (c.setIfInBounds (off + i) v) e fr) := by
      simp only [World.setCell, Array.getElem?_modify, if_true, hw, Option.map_some]; rfl
    obtain ⟨w', c', h1, h2, h3, h4, h5, h6, h7, h8, h9, h10⟩ := storeCells_raw hfr (vs := vs) off (i + 1) hw1 (fun x hx => hv x (by simp [hx])) (by simp; omega)
    refine ⟨w', c', by simp only [storeCells, Sem.run_bind, hst, Result.andThen_ok]; exact h1, h2, by simpa using h3, h4, h5, h6, by simpa using h7, fun b' hb' => ?_, fun j hj => ?_, fun j hj => ?_⟩
    · rw [h8 b' hb', heap_setCell_other w ⟨b, off + i, none⟩ b' v hb']
    · rw [h9 j (by omega)]; simp [show off + i ≠ j by omega]
    · cases j with
      | zero => rw [h9 (off + i + 0) (by omega)]; simp [hlt]
      | succ j =>
        have := h10 j (by simpa using hj)
        rw [show off + i + (j + 1) = off + (i + 1) + j by omega, this]
        simp

theorem allCell_spec {l : List AV} {cs : List Value} (h : allCell l = true) (hr : RelL σ l cs) : ∀ v ∈ cs, v.oneCell' = true := by
  induction l generalizing cs with
  | nil => cases hr; simp
  | cons a l ih =>
    cases hr with | cons h1 h2 =>
    simp only [allCell, Bool.and_eq_true] at h
    intro v hv
    simp at hv
    rcases hv with rfl | hv
    · exact okCell_one h1 h.1
    · exact ih h.2 h2 v hv
theorem allCell_map {α : Type} (g : α → AV) (hg : ∀ x, okCell (g x) = true) : ∀ (l : List α), allCell (l.map g) = true
  | [] => rfl
  | x :: l => by simp [allCell, hg x, allCell_map g hg l]
theorem okAll_spec {B : Cells} {cs : List Value} (h : B.okAll = true) (hr : RelL σ B.toL cs) : ∀ v ∈ cs, v.oneCell' = true := by
  have key : allCell B.toL = true := by
    cases B with
    | lit l => exact h
    | f32 xs => exact allCell_map _ (fun _ => rfl) _
    | c64 xs => exact allCell_map _ (fun _ => rfl) _
    | ints k xs => exact allCell_map _ (fun _ => rfl) _
    | strs xs => exact allCell_map _ (fun _ => rfl) _
  exact allCell_spec key hr

/-- append that makes a new array. -/
theorem append_grow {ts : Array TypeId} {ty t t' e e' : TypeId} {i : TypeInfo} {z : AV} {rx : Value} {base : Option Addr} {m cap n : Nat} {olds news : List Value}
    (ht : ts[0]? = some t) (ht' : ts[1]? = some t') (hu : P.underlying t = some (.slice e)) (hu' : P.underlying t' = some (.slice e')) (hi : P.info? e = some i) (hz : zeroA P e = some z) (hzs : (cellsA z).length = i.size) (hb : 0 < i.bytes)
    (hlen : (Builtin.lenOf rx).run P w = .ok n w) (hnew : ∀ w', w'.heap = w.heap → (Builtin.firstCells i.size n rx).run P w' = .ok news.toArray w')
    (hold : ∀ w', w'.heap = w.heap → (Builtin.firstCells i.size m (.slice base m cap)).run P w' = .ok olds.toArray w') (hol : olds.length = m * i.size) (hnl : news.length = n * i.size)
    (hgt : cap < m + n) (hroom : (2 * (m + n) + 1024) * i.bytes ≤ 2 ^ 48) :
    ∃ newCap rest, m + n ≤ newCap ∧ (olds.toArray ++ news.toArray ++ rest : Array Value).size = newCap * i.size ∧
      (Builtin.append_ ts ty #[.slice base m cap, rx]).run P w = .ok (.slice (some ⟨w.heap.size, 0, none⟩) (m + n) newCap) ({ w with drawn := w.drawn + 1 }.alloc (.cells (olds.toArray ++ news.toArray ++ rest) e)) := by
  obtain ⟨zv, hzr, hzrel, i', hi', hiz⟩ := zeroA_run (w := { w with drawn := w.drawn + 1 }) (σ := []) hz
  have hzl : zv.cells.size = i.size := by
    have := (cellsA_rel hzrel (zeroA_not hz)).length
    simp only [Array.length_toList] at this
    omega
  have hle := next_le hgt
  have hb1 : Builtin.nextslicecap (m + n) cap * i.bytes ≤ 2 ^ 48 := Nat.le_trans (Nat.mul_le_mul_right _ hle) hroom
  have hn1 : m + n ≤ 2 ^ 48 := by
    have : (2 * (m + n) + 1024) * 1 ≤ (2 * (m + n) + 1024) * i.bytes := Nat.mul_le_mul_left _ hb
    omega
  refine ⟨(m + n) + (w.tape w.drawn (.appendCap (m + n) cap e)) % (2 ^ 63 - (m + n)), Builtin.zeroCells zv.cells ((m + n) + (w.tape w.drawn (.appendCap (m + n) cap e)) % (2 ^ 63 - (m + n)) - (m + n)), Nat.le_add_right _ _, ?_, ?_⟩
  rotate_left
  · unfold Builtin.append_
    simp only [List.getElem?_toArray, List.getElem?_cons_zero, List.getElem?_cons_succ, ht, ht', Sem.run_bind, run_underlyingA hu, run_underlyingA hu', Result.andThen_ok, Sem.run_pure]
    simp only [show (sizeOf e).run P w = .ok i.size w by simp [sizeOf, run_typeInfoA hi], Result.andThen_ok, Bool.false_eq_true, if_false]
    rw [Sem.run_bind, hlen]
    simp only [Result.andThen_ok]
    rw [if_neg (by omega)]
    rw [Sem.run_bind, run_typeInfoA hi]
    simp only [Result.andThen_ok]
    rw [if_neg (by simp; omega)]
    rw [Sem.run_bind, run_typeInfoA hi]
    simp only [Result.andThen_ok]
    rw [if_neg (by omega)]
    have hnf : (Question.appendCap (m + n) cap e).forced = false := rfl
    rw [Sem.run_bind, run_choose, hnf]
    simp only [Bool.false_eq_true, if_false, Result.andThen_ok, Sem.run_bind, run_typeInfoA hi, run_askRoom, hold { w with drawn := w.drawn + 1 } rfl, Bool.not_false, if_true, hnew { w with drawn := w.drawn + 1 } rfl, hzr, newRow, run_newObj, Sem.run_pure]
    rfl
  · simp only [Array.size_append, List.size_toArray, hol, hnl, Builtin.zeroCells, Array.size_map, Array.size_range, hzl]
    generalize (w.tape w.drawn (.appendCap (m + n) cap e)) % (2 ^ 63 - (m + n)) = r
    rw [show m + n + r - (m + n) = r by omega, ← Nat.add_mul, ← Nat.add_mul]

/-- append in place. -/
theorem append_place {ts : Array TypeId} {ty t t' e e' : TypeId} {i : TypeInfo} {rx : Value} {b off m cap n : Nat} {news : List Value} {w' : World}
    (ht : ts[0]? = some t) (ht' : ts[1]? = some t') (hu : P.underlying t = some (.slice e)) (hu' : P.underlying t' = some (.slice e')) (hi : P.info? e = some i)
    (hlen : (Builtin.lenOf rx).run P w = .ok n w) (hnew : (Builtin.firstCells i.size n rx).run P w = .ok news.toArray w) (hle : m + n ≤ cap)
    (hst : (storeCells ⟨b, off + m * i.size, none⟩ news 0).run P w = .ok () w') :
    (Builtin.append_ ts ty #[.slice (some ⟨b, off, none⟩) m cap, rx]).run P w = .ok (.slice (some ⟨b, off, none⟩) (m + n) cap) w' := by
  unfold Builtin.append_
  simp only [List.getElem?_toArray, List.getElem?_cons_zero, List.getElem?_cons_succ, ht, ht', Sem.run_bind, run_underlyingA hu, run_underlyingA hu', Result.andThen_ok, Sem.run_pure]
  simp only [show (sizeOf e).run P w = .ok i.size w by simp [sizeOf, run_typeInfoA hi], Result.andThen_ok, Bool.false_eq_true, if_false]
  rw [Sem.run_bind, hlen]
  simp only [Result.andThen_ok]
  rw [if_pos hle]
  simp only [Bool.not_false, if_true, Sem.run_bind, hnew, Result.andThen_ok, addr_add, hst, Sem.run_pure]

theorem append_out {ts : Array TypeId} {ty : TypeId} {args : List AV} {rargs : Array Value} {v : AV} {H' : List AB} {nd : List Bool} (h : aAppend P ts args H = some (v, H', nd)) (hnd : allT nd = true) (s : Sim σ H w) (hr : RelL σ args rargs.toList) :
    ∃ rv w', (Builtin.append_ ts ty rargs).run P w = .ok rv w' ∧ Out σ H w v H' rv w' := by
  unfold aAppend at h
  split at h <;> try (cases h; done)
  rename_i t t' sv x ht ht'
  obtain ⟨rs, rx, hra, hs, hx⟩ := relL_two hr
  have hra' : rargs = #[rs, rx] := by rw [← Array.toArray_toList (xs := rargs), hra]
  subst hra'
  split at h <;> try (cases h; done)
  rename_i e e' hu hu'
  split at h <;> try (cases h; done)
  rename_i i hi
  split at h <;> try (cases h; done)
  rename_i lx B n nb hfit hsc
  split at h <;> try (cases h; done)
  rename_i hokall
  simp only [Bool.and_eq_true, decide_eq_true_eq] at hfit
  obtain ⟨⟨hfit, hbytes⟩, hsize0⟩ := hfit
  obtain ⟨z, hz, hzs⟩ : ∃ z, zeroA P e = some z ∧ (cellsA z).length = i.size := by
    unfold zeroFits at hfit
    cases hz : zeroA P e with
    | none => rw [hz] at hfit; cases hfit
    | some z => rw [hz] at hfit; exact ⟨z, rfl, by simpa using hfit⟩
  have growN : ∀ {v : AV} {H' : List AB} {A : Cells} {nb0 : List Bool}, (v, H') = (.sl lx H.length 0 n i.size, H ++ [.cells true A]) → Alike B.toL A.toL → rs = .slice none 0 0 ∨ (∃ a, rs = .slice (some a) 0 0) →
      0 < n → (2 * n + 1024) * i.bytes ≤ 2 ^ 48 → allT nb = true → ∃ rv w', (Builtin.append_ ts ty #[rs, rx]).run P w = .ok rv w' ∧ Out σ H w v H' rv w' := by
    intro v H' A _ hv hal hrs hn0 hroom hnb
    cases hv
    obtain ⟨cs, hc1, hc2, hc3, hc4⟩ := slice_read (P := P) hsc hnb s hx
    obtain ⟨base, rfl, hb0⟩ : ∃ base, rs = .slice base 0 0 ∧ ∀ w', (Builtin.firstCells i.size 0 (.slice base 0 0)).run P w' = .ok ([] : List Value).toArray w' := by
      rcases hrs with rfl | ⟨a, rfl⟩
      · exact ⟨none, rfl, fun w' => by simp [Builtin.firstCells]⟩
      · exact ⟨some a, rfl, fun w' => by simp [Builtin.firstCells, loadCells, loadCellsFrom]⟩
    obtain ⟨nc, rest, g1, g2, g3⟩ := append_grow (ty := ty) (m := 0) (cap := 0) ht ht' hu hu' hi hz hzs hbytes hc4 hc1 (fun w' _ => hb0 w') (by simp) hc3 (by omega) (by simpa using hroom)
    have sd : Sim σ H { w with drawn := w.drawn + 1 } := (Same.drew w).sim s
    have fd : Fr σ H w σ H { w with drawn := w.drawn + 1 } := (Same.drew w).fr
    have hrel : RelA σ A.toL (([] : List Value).toArray ++ cs.toArray ++ rest) := by
      have : RelA σ B.toL (([] : List Value).toArray ++ cs.toArray ++ rest) := by
        have := relA_more (rest := rest) hc2
        simpa using this
      exact relA_alike this hal
    obtain ⟨σ', o1, o2, o3⟩ := new_out (l := lx) (len := 0 + n) (cap := nc) (z := i.size) (e := e) sd hrel g1 (by rw [g2]; exact Nat.le_refl _)
    rw [Nat.zero_add] at o1 g3
    exact ⟨_, _, g3, σ', o1, o2, fd.trans o3⟩
  split at h <;> try (cases h; done)
  · -- onto nil
    cases hs
    split at h
    · rename_i hlx
      cases h
      obtain ⟨cs, hc1, hc2, hc3, hc4⟩ := slice_read (P := P) hsc hnd s hx
      refine ⟨.slice none 0 0, w, ?_, σ, .slnil, s, Fr.refl _ _ _⟩
      have hcs : cs = [] := List.length_eq_zero_iff.1 (by simpa using hc3)
      unfold Builtin.append_
      simp only [List.getElem?_toArray, List.getElem?_cons_zero, List.getElem?_cons_succ, ht, ht', Sem.run_bind, run_underlyingA hu, run_underlyingA hu', Result.andThen_ok, Sem.run_pure]
      simp only [show (sizeOf e).run P w = .ok i.size w by simp [sizeOf, run_typeInfoA hi], Result.andThen_ok, Bool.false_eq_true, if_false]
      rw [Sem.run_bind, hc4]
      simp only [Result.andThen_ok]
      rw [if_pos (by omega)]
      simp only [Bool.not_false, if_true, Sem.run_bind, hc1 w rfl, Result.andThen_ok, Sem.run_pure]
    · obtain ⟨rfl, rfl, hnb, k, hc, hm⟩ := consN_some h hnd
      have hc := chk_spec hc hm
      simp only [Bool.and_eq_true, decide_eq_true_eq] at hc
      exact growN (nb0 := []) rfl (mkCells_alike e _) (.inl rfl) hc.1 hc.2 hnb
  · cases hs
    rename_i a
    split at h
    · cases h
      obtain ⟨cs, hc1, hc2, hc3, hc4⟩ := slice_read (P := P) hsc hnd s hx
      have hcs : cs = [] := List.length_eq_zero_iff.1 (by simpa using hc3)
      subst hcs
      have ha := append_place (P := P) (ty := ty) (b := a.block) (off := a.off) (m := 0) (cap := 0) (n := 0) (news := []) (w := w) (w' := w) ht ht' hu hu' hi hc4 (hc1 w rfl) (by omega) (by simp [storeCells])
      refine ⟨.slice (some a) 0 0, w, ?_, σ, .sle, s, Fr.refl _ _ _⟩
      unfold Builtin.append_
      simp only [List.getElem?_toArray, List.getElem?_cons_zero, List.getElem?_cons_succ, ht, ht', Sem.run_bind, run_underlyingA hu, run_underlyingA hu', Result.andThen_ok, Sem.run_pure]
      simp only [show (sizeOf e).run P w = .ok i.size w by simp [sizeOf, run_typeInfoA hi], Result.andThen_ok, Bool.false_eq_true, if_false]
      rw [Sem.run_bind, hc4]
      simp only [Result.andThen_ok]
      rw [if_pos (by omega)]
      simp only [Bool.not_false, if_true, Sem.run_bind, hc1 w rfl, Result.andThen_ok, Sem.run_pure, storeCells]
    · obtain ⟨rfl, rfl, hnb, k, hc, hm⟩ := consN_some h hnd
      have hc := chk_spec hc hm
      simp only [Bool.and_eq_true, decide_eq_true_eq] at hc
      exact growN (nb0 := []) rfl (Alike.rfl' _) (.inr ⟨a, rfl⟩) hc.1 hc.2 hnb
  · rename_i l id off m zz
    split at h <;> try (cases h; done)
    rename_i A hg
    split at h <;> try (cases h; done)
    rename_i hne
    obtain ⟨rfl, rfl, hnb, k, hc, hm⟩ := consN_some h hnd
    have hc := chk_spec hc hm
    simp only [Bool.and_eq_true, decide_eq_true_eq] at hc
    obtain ⟨⟨⟨rfl, hzz⟩, hmA⟩, hroom⟩ := hc
    cases hs with
    | slz => omega
    | sl hid hcap hz' =>
    subst hzz
    rename_i cap b c
    have hidl : id < H.length := by rw [← s.len]; exact isSome_lt hid
    obtain ⟨cs, hc1, hc2, hc3, hc4⟩ := slice_read (P := P) hsc hnb s hx
    have hf : RelL σ (fitB P e A B).toL cs := fitB_rel hc2
    generalize fitB P e A B = B1 at hf ⊢
    have htoL : ((A.sub 0 (m * i.size)).app B1).toL = A.toL ++ B1.toL := by
      rw [app_toL, sub_toL, List.drop_zero, List.take_of_length_le (by rw [Cells.len_eq]; omega)]
    by_cases hle : m + n ≤ cap
    · -- in place
      have h0 := s.blk id b c hid
      rw [hg] at h0
      obtain ⟨cc, e0, fr, hw, hA, hcs, hfr⟩ := h0
      have hroom2 : m * i.size + n * i.size ≤ cc.size := by
        rw [hcs, ← Nat.add_mul]
        have : (m + n) * i.size ≤ cap * i.size := Nat.mul_le_mul_right _ hle
        omega
      obtain ⟨w', c', k1, k2, k3, k4, k5, k6, k7, k8, k9, k10⟩ := storeCells_raw (P := P) (hfr rfl) (vs := cs) (m * i.size) 0 hw (okAll_spec hokall hc2) (by omega)
      have hrun := append_place (P := P) (ty := ty) (off := 0) (m := m) (cap := cap) ht ht' hu hu' hi hc4 (hc1 w rfl) hle (by rw [Nat.zero_add]; exact k1)
      have hrelA : RelA σ ((A.sub 0 (m * i.size)).app B1).toL c' := by
        rw [htoL]
        intro j a ha
        rcases Nat.lt_or_ge j A.toL.length with hj | hj
        · rw [List.getElem?_append_left hj] at ha
          obtain ⟨y, hy, hry⟩ := hA j a ha
          rw [Cells.len_eq] at hj
          exact ⟨y, by rw [k9 j (by omega)]; exact hy, hry⟩
        · rw [List.getElem?_append_right hj] at ha
          obtain ⟨y, hy, hry⟩ := hf.get ha
          rw [Cells.len_eq] at hj hy
          have hjl : j - A.len < cs.length := by
            rcases Nat.lt_or_ge (j - A.len) cs.length with h' | h'
            · exact h'
            · rw [List.getElem?_eq_none h'] at hy; cases hy
          have := k10 (j - A.len) hjl
          rw [show m * i.size + 0 + (j - A.len) = j by omega] at this
          exact ⟨y, by rw [this]; exact hy, hry⟩
      have hgN : ∀ q, getB (setB H id .dead ++ [.cells true ((A.sub 0 (m * i.size)).app B1)]) q = if q = H.length then .cells true ((A.sub 0 (m * i.size)).app B1) else if q = id then .dead else getB H q := by
        intro q
        by_cases hq : q = H.length
        · rw [if_pos hq, hq, getB_append_right (by rw [setB_length]; exact Nat.le_refl _), setB_length, Nat.sub_self]; rfl
        · rw [if_neg hq]
          rcases Nat.lt_or_ge q H.length with h' | h'
          · rw [getB_append_left (by rw [setB_length]; exact h')]
            by_cases hqi : q = id
            · rw [if_pos hqi, hqi]; exact getB_setB_same hidl
            · rw [if_neg hqi]; exact getB_setB_ne (Ne.symm hqi)
          · rw [getB_none (by simp [setB_length]; omega), if_neg (by omega), getB_none h']
      refine ⟨_, w', hrun, σ ++ [(b, c)], ?_, ⟨by simp [setB_length, s.len], fun q bq zq hq => ?_, fun p q bq z1 z2 hp hq hrw hlive => ?_⟩, ⟨k4, k5, k6, by omega, fun b' hb' hno => ?_, Ext.append _ _, fun q bq zq hq hn => ?_, fun q hq hrw => ?_⟩⟩
      · refine .sl (b := b) (c := c) (by rw [← s.len]; simp) hle ?_
        exact hz'
      · rw [hgN]
        rcases snoc_cases hq with ⟨hql, hq'⟩ | ⟨rfl, hq'⟩
        · rw [s.len] at hql
          rw [if_neg (by omega)]
          by_cases hqi : q = id
          · rw [if_pos hqi]; trivial
          · rw [if_neg hqi]
            have hb2 := (s.blk q bq zq hq').mono (Ext.append σ [(b, c)])
            cases hgq : getB H q with
            | dead => trivial
            | cells r C =>
              have hne' : bq ≠ b := fun e => hqi (s.inj id q b c zq hid (by rw [← e]; exact hq') (by rw [hg]; rfl) (by rw [hgq]; rfl)).symm
              rw [k8 bq hne', ← hgq]; exact hb2
            | code o0 xs0 =>
              have hne' : bq ≠ b := fun e => hqi (s.inj id q b c zq hid (by rw [← e]; exact hq') (by rw [hg]; rfl) (by rw [hgq]; rfl)).symm
              rw [k8 bq hne', ← hgq]; exact hb2
        · cases hq'
          rw [if_pos s.len]
          exact ⟨c', e0, fr, k2, hrelA.mono (Ext.append _ _), by omega, hfr⟩
      · rw [hgN] at hrw hlive
        rcases snoc_cases hp with ⟨hpl, hp'⟩ | ⟨rfl, hp'⟩ <;> rcases snoc_cases hq with ⟨hql, hq'⟩ | ⟨rfl, hq'⟩
        · rw [s.len] at hpl hql
          rw [if_neg (by omega)] at hrw hlive
          by_cases hpi : p = id
          · rw [if_pos hpi] at hrw; cases hrw
          · by_cases hqi : q = id
            · rw [if_pos hqi] at hlive; cases hlive
            · rw [if_neg hpi] at hrw; rw [if_neg hqi] at hlive
              exact s.inj p q bq z1 z2 hp' hq' hrw hlive
        · cases hq'
          rw [s.len] at hpl
          rw [if_neg (by omega)] at hrw
          by_cases hpi : p = id
          · rw [if_pos hpi] at hrw; cases hrw
          · rw [if_neg hpi] at hrw
            exact absurd (s.inj p id b z1 c hp' hid hrw (by rw [hg]; rfl)) hpi
        · cases hp'
          rw [s.len] at hql
          rw [if_neg (by omega)] at hlive
          by_cases hqi : q = id
          · rw [if_pos hqi] at hlive; cases hlive
          · rw [if_neg hqi] at hlive
            exact absurd (s.inj id q b c z2 hid hq' (by rw [hg]; rfl) hlive).symm hqi
        · rfl
      · exact k8 b' (fun e => hno id c (by rw [hg]; rfl) (by rw [hid, e]))
      · rcases snoc_cases hq with ⟨hql, hq'⟩ | ⟨rfl, hq'⟩
        · rw [hn] at hq'; cases hq'
        · cases hq'; exact .inr ⟨id, c, by rw [hg]; rfl, hid⟩
      · rw [hgN, if_neg (by rw [← s.len]; omega)] at hrw
        by_cases hqi : q = id
        · rw [if_pos hqi] at hrw; cases hrw
        · rwa [if_neg hqi] at hrw
    · -- a new array
      have hch : ∃ nd, chk (l && A.isLit) (decide (0 + m * i.size ≤ A.len)) = some nd ∧ allT nd = true := by
        rw [decide_eq_true (by omega)]
        cases (l && A.isLit)
        · exact ⟨_, rfl, rfl⟩
        · exact ⟨_, rfl, rfl⟩
      obtain ⟨nd0, hch1, hch2⟩ := hch
      have hsc0 : sliceCells H i.size (.sl l id 0 m i.size) = some (l, A.sub 0 (m * i.size), m, nd0) := by
        simp only [sliceCells, hg, hch1]
      obtain ⟨olds, hold, hol, holn, _⟩ := slice_read (P := P) hsc0 hch2 s (Rel.sl hid hcap hz')
      obtain ⟨nc, rest, g1, g2, g3⟩ := append_grow (ty := ty) (m := m) (cap := cap) ht ht' hu hu' hi hz hzs hbytes hc4 hc1 hold holn hc3 (by omega) hroom
      have sd : Sim σ (setB H id .dead) { w with drawn := w.drawn + 1 } := ((Same.drew w).sim s).kill id
      have fd : Fr σ H w σ (setB H id .dead) { w with drawn := w.drawn + 1 } := (Same.drew w).fr.trans (Fr.kill σ H _ id)
      have hrel : RelA σ ((A.sub 0 (m * i.size)).app B1).toL (olds.toArray ++ cs.toArray ++ rest) := by
        rw [app_toL]
        have := relA_more (rest := rest) (hol.append hf)
        simpa using this
      obtain ⟨σ', o1, o2, o3⟩ := new_out (l := l && lx) (len := m + n) (cap := nc) (z := i.size) (e := e) sd hrel g1 (by rw [g2]; exact Nat.le_refl _)
      rw [setB_length] at o1
      exact ⟨_, _, g3, σ', o1, o2, fd.trans o3⟩
end
end Go.Ax
