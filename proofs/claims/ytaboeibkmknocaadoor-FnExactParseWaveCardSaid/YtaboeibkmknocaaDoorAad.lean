/- Code run up to a place, and what a call comes to out of such parts. -/
import Derived.Test.YtaboeibkmknocaaDoorAac
namespace Go.Ax
open Go

section
variable (P : Program) (T : Table) (stop : List Item → Bool)
/-- Like 'run', but it stops where 'stop' says so (not at its start): what is still to be done is told. -/
def runS : Nat → List Item → List AV → List AB → List Bool → KT → (List Item → KT) → Res
  | 0, _, _, _, _, _, _ => .fail
  | n + 1, todo, t, H, nd, KE, KS =>
    let next : List Item → List AV → List AB → List Bool → Res := fun k t H nd => match stop k with
      | true => KS k t H nd
      | false => runS n k t H nd KE KS
    match todo with
    | [] => KE t H nd
    | .inBlock _ :: k => next k t H nd
    | .inLoop c :: k => next (.code c :: .inLoop c :: k) t H nd
    | .code c :: k =>
      match c with
      | .skip => next k t H nd
      | .label _ => next k t H nd
      | .ret => KE t H nd
      | .seq a b => next (.code a :: .code b :: k) t H nd
      | .cond c a b =>
        match okOpd c, evA t c with
        | true, .b l x => match l with
          | true => match x with
            | true => next (.code a :: k) t H nd
            | false => next (.code b :: k) t H nd
          | false => .ite x (next (.code a :: k) t H nd) (next (.code b :: k) t H nd)
        | _, _ => .fail
      | .block id c => next (.code c :: .inBlock id :: k) t H nd
      | .loop c => next (.code c :: .inLoop c :: k) t H nd
      | .exit id => match exitTo id k with
        | some k' => next k' t H nd
        | none => .fail
      | .region _ ops draw => runRegion P T ops draw t H nd fun t H nd => next k t H nd
      | _ => .fail
    | _ => .fail
end

section
variable {P : Program} {T : Table} {stop : List Item → Bool}

/-- From a place to a place. -/
def Reach (P : Program) (todo : List Item) (t : List AV) (H : List AB) (todo' : List Item) (t' : List AV) (H' : List AB) : Prop :=
  ∀ (σ : List (Nat × Nat)) (w : World) (a : Act) (b : Frame) (cs : List Frame), Sim σ H w → RelL σ t a.tmps.toList → ∃ a' w' σ', Steps P (lone (b.at a todo) cs w) (lone (b.at a' todo') cs w') ∧
    RelL σ' t' a'.tmps.toList ∧ a'.defers = a.defers ∧ Sim σ' H' w' ∧ Fr σ H w σ' H' w'
theorem Reach.refl (todo : List Item) (t : List AV) (H : List AB) : Reach P todo t H todo t H := fun σ w a _ _ s r =>
  ⟨a, w, σ, .refl _ _, r, rfl, s, Fr.refl _ _ _⟩
theorem Reach.trans {todo todo1 todo' : List Item} {t t1 t' : List AV} {H H1 H' : List AB} (h : Reach P todo t H todo1 t1 H1) (k : Reach P todo1 t1 H1 todo' t' H') : Reach P todo t H todo' t' H' := fun σ w a b cs s r =>
  let ⟨a1, w1, σ1, e1, r1, d1, s1, f1⟩ := h σ w a b cs s r
  let ⟨a', w', σ', e', r', d', s', f'⟩ := k σ1 w1 a1 b cs s1 r1
  ⟨a', w', σ', e1.trans e', r', d'.trans d1, s', f1.trans f'⟩
theorem Reach.ends {todo todo1 : List Item} {t t1 t' : List AV} {H H1 H' : List AB} (h : Reach P todo t H todo1 t1 H1) (k : Ends P todo1 t1 H1 t' H') : Ends P todo t H t' H' := fun σ w a b cs s r =>
  let ⟨a1, w1, σ1, e1, r1, d1, s1, f1⟩ := h σ w a b cs s r
  let ⟨a', w', σ', todo', e', r', d', s', f'⟩ := k σ1 w1 a1 b cs s1 r1
  ⟨a', w', σ', todo', e1.trans e', r', d'.trans d1, s', f1.trans f'⟩
theorem Reach.head {todo todo1 todo' : List Item} {t t' : List AV} {H H' : List AB} (h : Reach P todo1 t H todo' t' H')
    (hs : ∀ (w : World) (a : Act) (b : Frame) (cs : List Frame), step P (lone (b.at a todo) cs w) = .next (lone (b.at a todo1) cs w)) : Reach P todo t H todo' t' H' := fun σ w a b cs s r =>
  let ⟨a', w', σ', h1, h2⟩ := h σ w a b cs s r; ⟨a', w', σ', .head (hs w a b cs) h1, h2⟩
theorem Reach.weak {todo todo' : List Item} {t t1 t' : List AV} {H H' : List AB} (h : Reach P todo t H todo' t1 H') (e : Eqv t1 t') : Reach P todo t H todo' t' H' := fun σ w a b cs s r =>
  let ⟨a', w', σ', h1, h2, h3⟩ := h σ w a b cs s r; ⟨a', w', σ', h1, e.relL h2, h3⟩
theorem Ends.strong {todo : List Item} {t t1 t' : List AV} {H H' : List AB} (h : Ends P todo t1 H t' H') (e : Eqv t t1) : Ends P todo t H t' H' := fun σ w a b cs s r => h σ w a b cs s (e.relL r)
theorem Reach.strong {todo todo' : List Item} {t t1 t' : List AV} {H H' : List AB} (h : Reach P todo t1 H todo' t' H') (e : Eqv t t1) : Reach P todo t H todo' t' H' := fun σ w a b cs s r => h σ w a b cs s (e.relL r)

theorem runS_sound (hT : SoundT P T) (KE : KT) (KS : List Item → KT) : ∀ (n : Nat) (todo : List Item) (t : List AV) (H : List AB) (nd : List Bool), (runS P T stop n todo t H nd KE KS).sel = .fail ∨
    (∃ t' H' nd', (runS P T stop n todo t H nd KE KS).sel = (KE t' H' nd').sel ∧ (allT nd' = true → allT nd = true ∧ Ends P todo t H t' H')) ∨
    (∃ todo' t' H' nd', (runS P T stop n todo t H nd KE KS).sel = (KS todo' t' H' nd').sel ∧ (allT nd' = true → allT nd = true ∧ Reach P todo t H todo' t' H'))
  | 0, _, _, _, _ => .inl rfl
  | n + 1, todo, t, H, nd => by
    have nxt : ∀ (k : List Item) (t : List AV) (H : List AB) (nd : List Bool),
        ((match stop k with
          | true => KS k t H nd
          | false => runS P T stop n k t H nd KE KS).sel = .fail ∨
        (∃ t' H' nd', (match stop k with
          | true => KS k t H nd
          | false => runS P T stop n k t H nd KE KS).sel = (KE t' H' nd').sel ∧ (allT nd' = true → allT nd = true ∧ Ends P k t H t' H')) ∨
        (∃ todo' t' H' nd', (match stop k with
          | true => KS k t H nd
          | false => runS P T stop n k t H nd KE KS).sel = (KS todo' t' H' nd').sel ∧ (allT nd' = true → allT nd = true ∧ Reach P k t H todo' t' H'))) := fun k t H nd => by
      cases stop k with
      | true => exact .inr (.inr ⟨k, t, H, nd, rfl, fun h => ⟨h, .refl k t H⟩⟩)
      | false => exact runS_sound hT KE KS n k t H nd
    have one : ∀ (k : List Item), (∀ (w : World) (a : Act) (b : Frame) (cs : List Frame), RelL [] [] [] → step P (lone (b.at a todo) cs w) = .next (lone (b.at a k) cs w)) →
        ((match stop k with
          | true => KS k t H nd
          | false => runS P T stop n k t H nd KE KS).sel = .fail ∨
        (∃ t' H' nd', (match stop k with
          | true => KS k t H nd
          | false => runS P T stop n k t H nd KE KS).sel = (KE t' H' nd').sel ∧ (allT nd' = true → allT nd = true ∧ Ends P todo t H t' H')) ∨
        (∃ todo' t' H' nd', (match stop k with
          | true => KS k t H nd
          | false => runS P T stop n k t H nd KE KS).sel = (KS todo' t' H' nd').sel ∧ (allT nd' = true → allT nd = true ∧ Reach P todo t H todo' t' H'))) := fun k hs => by
      rcases nxt k t H nd with h | ⟨t', H', nd', h1, h2⟩ | ⟨todo', t', H', nd', h1, h2⟩
      · exact .inl h
      · exact .inr (.inl ⟨t', H', nd', h1, fun hn => ⟨(h2 hn).1, (h2 hn).2.head fun w a b cs => hs w a b cs .nil⟩⟩)
      · exact .inr (.inr ⟨todo', t', H', nd', h1, fun hn => ⟨(h2 hn).1, (h2 hn).2.head fun w a b cs => hs w a b cs .nil⟩⟩)
    unfold runS
    split
    · exact .inr (.inl ⟨t, H, nd, rfl, fun hn => ⟨hn, fun σ w a b cs s r => ⟨a, w, σ, [], .one step_end, r, rfl, s, Fr.refl _ _ _⟩⟩⟩)
    · exact one _ fun _ _ _ _ _ => step_inBlock
    · exact one _ fun _ _ _ _ _ => step_inLoop
    · split
      · exact one _ fun _ _ _ _ _ => step_skip
      · exact one _ fun _ _ _ _ _ => step_label
      · exact .inr (.inl ⟨t, H, nd, rfl, fun hn => ⟨hn, fun σ w a b cs s r => ⟨a, w, σ, _, .one step_ret, r, rfl, s, Fr.refl _ _ _⟩⟩⟩)
      · exact one _ fun _ _ _ _ _ => step_seq
      · rename_i k _ c x y
        split
        · rename_i l v hok hv
          have hc : ∀ {σ : List (Nat × Nat)} {a : Act}, RelL σ t a.tmps.toList → a.eval c = .bool v := fun {σ a} r => by
            have := evA_rel r hok
            rw [hv] at this
            cases hx : a.eval c <;> rw [hx] at this <;> cases this
            rfl
          have two : ∀ z : Code, z = (if v then x else y) → ((match stop (.code z :: k) with
              | true => KS (.code z :: k) t H nd
              | false => runS P T stop n (.code z :: k) t H nd KE KS).sel = .fail ∨
            (∃ t' H' nd', (match stop (.code z :: k) with
              | true => KS (.code z :: k) t H nd
              | false => runS P T stop n (.code z :: k) t H nd KE KS).sel = (KE t' H' nd').sel ∧ (allT nd' = true → allT nd = true ∧ Ends P (.code (.cond c x y) :: k) t H t' H')) ∨
            (∃ todo' t' H' nd', (match stop (.code z :: k) with
              | true => KS (.code z :: k) t H nd
              | false => runS P T stop n (.code z :: k) t H nd KE KS).sel = (KS todo' t' H' nd').sel ∧ (allT nd' = true → allT nd = true ∧ Reach P (.code (.cond c x y) :: k) t H todo' t' H'))) := fun z hz => by
            subst hz
            rcases nxt (.code (if v then x else y) :: k) t H nd with h | ⟨t', H', nd', h1, h2⟩ | ⟨todo', t', H', nd', h1, h2⟩
            · exact .inl h
            · refine .inr (.inl ⟨t', H', nd', h1, fun hn => ⟨(h2 hn).1, fun σ w a b cs s r => ?_⟩⟩)
              obtain ⟨a', w', σ', todo', h3, h4⟩ := (h2 hn).2 σ w a b cs s r
              exact ⟨a', w', σ', todo', .head (step_cond (hc r)) h3, h4⟩
            · refine .inr (.inr ⟨todo', t', H', nd', h1, fun hn => ⟨(h2 hn).1, fun σ w a b cs s r => ?_⟩⟩)
              obtain ⟨a', w', σ', h3, h4⟩ := (h2 hn).2 σ w a b cs s r
              exact ⟨a', w', σ', .head (step_cond (hc r)) h3, h4⟩
          cases l with
          | true => cases v with
            | true => exact two _ rfl
            | false => exact two _ rfl
          | false => cases v with
            | true => exact two _ rfl
            | false => exact two _ rfl
        · exact .inl rfl
      · exact one _ fun _ _ _ _ _ => step_block
      · exact one _ fun _ _ _ _ _ => step_loop
      · split
        · rename_i k' hk
          exact one _ fun _ _ _ _ _ => step_exit hk
        · exact .inl rfl
      · rename_i k _ id ops draw
        rcases runRegion_sound (ops := ops) (H := H) hT id draw t nd (fun t H nd => match stop k with
          | true => KS k t H nd
          | false => runS P T stop n k t H nd KE KS) with h | ⟨t1, H1, nd1, h1, h2⟩
        · exact .inl h
        have reg : ∀ (hn : allT nd1 = true), allT nd = true ∧ Reach P (.code (.region id ops draw) :: k) t H k t1 H1 := fun hn => by
          obtain ⟨h7, h8⟩ := h2 hn
          refine ⟨h7, fun σ w a b cs s r => ?_⟩
          obtain ⟨e, a1, w1, ⟨he, σ1, r1, d1, s1, f1⟩, harr⟩ := h8 σ w a (fun e a1 w1 => e = .normal ∧ ∃ σ1, RelL σ1 t1 a1.tmps.toList ∧ a1.defers = a.defers ∧ Sim σ1 H1 w1 ∧ Fr σ H w σ1 H1 w1) s r
            (fun a1 w1 σ1 r1 d1 s1 f1 => ⟨rfl, σ1, r1, d1, s1, f1⟩) b k cs
          subst he
          exact ⟨a1, w1, σ1, harr, r1, d1, s1, f1⟩
        rw [h1]
        rcases nxt k t1 H1 nd1 with h | ⟨t', H', nd', h3, h4⟩ | ⟨todo', t', H', nd', h3, h4⟩
        · exact .inl h
        · refine .inr (.inl ⟨t', H', nd', h3, fun hn => ?_⟩)
          obtain ⟨h5, h6⟩ := h4 hn
          exact ⟨(reg h5).1, (reg h5).2.ends h6⟩
        · refine .inr (.inr ⟨todo', t', H', nd', h3, fun hn => ?_⟩)
          obtain ⟨h5, h6⟩ := h4 hn
          exact ⟨(reg h5).1, (reg h5).2.trans h6⟩
      · exact .inl rfl
    · exact .inl rfl

/-- A call out of its ends. -/
theorem call_of_ends {f : FuncId} {fn : Func} {c : Code} {args vs t' : List AV} {H H' : List AB} {m : List Bool} (hf : P.funcs[f]? = some fn) (hb : fn.body = some c)
    (h : Ends P [.code c] (args ++ undefs (fn.ntmps - args.length)) H t' H') (hres : resV P t' H' fn.results.toList = some (vs, m)) (hm : allT m = true) : CallOK P f args H (tupV vs) H' := fun σ w rargs s hra cs => by
  let b : Frame := { (default : Frame) with fn := f, kind := .normal }
  have henter : Frame.enter P f rargs .normal =
      b.at { tmps := rargs ++ Array.replicate (fn.ntmps - rargs.size) undef, defers := [] } [.code c] := by
    simp [Frame.enter, Frame.at, hf, hb, b]
  have hlen : args.length = rargs.size := by have := hra.length; simpa using this
  obtain ⟨a', w', σ', todo', h3, h4, h5, h6, h7⟩ := h σ w { tmps := rargs ++ Array.replicate (fn.ntmps - rargs.size) undef, defers := [] } b cs s (by
    simp only [Array.toList_append, Array.toList_replicate]
    rw [hlen]
    exact hra.append (undefs_rel σ _))
  obtain ⟨rvs, h8, h9⟩ := resV_run (P := P) h6 h4 _ _ _ hres hm
  have hr : (results fn a'.tmps).run P w' = .ok (if h : rvs.toArray.size = 1 then rvs.toArray[0] else .tuple rvs.toArray) w' := by
    rw [results_eq, Array.mapM_eq_mapM_toList]
    simp only [Sem.run_bind, Sem.run_map, h8, Result.andThen_ok, Sem.run_pure]
  refine ⟨.returned _, w', _, ⟨_, rfl, σ', ?_, h6, h7⟩, by rw [henter]; exact h3, rfl, rfl, h5, rfl, fn, hf, hr⟩
  cases h9 with
  | nil => exact .tup .nil
  | cons h hs => cases hs with
    | nil => exact h
    | cons h' hs' => exact .tup (.cons h (.cons h' hs'))

/-! ### Calls without memory -/
theorem CallOK.lift {f : FuncId} {args : List AV} {v : AV} {H0 H' : List AB} (h : CallOK P f args [] v H0) (hv : below 0 v = true) (ha : belowL 0 args = true) (H : List AB) (hH : H' = H) : CallOK P f args H v H' := fun σ w rargs s hra => by
  subst hH
  have e0 : Ext [] σ := fun i b hb => by simp at hb
  have s0 : Sim [] [] w := ⟨rfl, fun i b z hb => by simp at hb, fun i j b z z' hi => (by simp at hi), fun g hg => ⟨(s.base g hg).1, fun i z h => by simp at h⟩⟩
  refine (h [] w rargs s0 (belowL_rel e0 rfl ha hra)).mono ?_
  rintro e w' ⟨rv, rfl, σ', r1, s1, f1⟩
  refine ⟨rv, rfl, σ, (below_rel f1.ext rfl hv r1).mono e0, ?_⟩
  have f2 : Fr σ (roH H') w (σ ++ []) (roH H') w' := ⟨f1.os, f1.tape, f1.output, f1.size, fun b hb _ => f1.old b hb fun i z hr => by simp [getB, AB.rw] at hr, by rw [List.append_nil]; exact Ext.refl σ,
    fun i b z h h' => (by rw [List.append_nil, h'] at h; cases h), fun i _ h => h⟩
  exact s.ro_back f2

/-- A call by one evaluation without memory. -/
theorem call_of_join {f : FuncId} {args : List AV} {v : AV} {nd : List Bool} (hT : SoundT P T) (h : joinR 0 (T f args [] [] fun v H nd => .ret v H nd) = some (v, nd)) (hn : allT nd = true) (ha : belowL 0 args = true) (H : List AB) :
    CallOK P f args H v H := by
  obtain ⟨v1, H1, nd1, e1, e2, e3, e4⟩ := joinR_spec h hn
  rcases hT f args [] [] (fun v H nd => .ret v H nd) with h | ⟨v2, H2, nd2, h1, h2⟩
  · rw [h] at e1; cases e1
  · rw [e1] at h1
    cases h1
    refine fun σ w rargs s hra => ?_
    refine (((h2 e2).2.lift e3 ha H rfl) σ w rargs s hra).mono ?_
    rintro e w' ⟨rv, rfl, σ', r1, s1, f1⟩
    exact ⟨rv, rfl, σ', e4 σ' rv r1, s1, f1⟩

/-- A table of what is known of one function: the value out of the arguments, and what is asked. -/
def pureT (g : List AV → Option (AV × List Bool)) : Table := fun _ args H nd K =>
  match g args with
  | some (v, n) => K v H (n ++ nd)
  | none => .fail
theorem pureT_sound {g : List AV → Option (AV × List Bool)} {f : FuncId} (h : ∀ args v n, g args = some (v, n) → allT n = true → ∀ H, CallOK P f args H v H) (args : List AV) (H : List AB) (nd : List Bool) (K : KF) :
    (pureT g f args H nd K).sel = .fail ∨ ∃ v H' nd', (pureT g f args H nd K).sel = (K v H' nd').sel ∧ (allT nd' = true → allT nd = true ∧ CallOK P f args H v H') := by
  unfold pureT
  cases hg : g args with
  | none => exact .inl rfl
  | some x =>
    obtain ⟨v, n⟩ := x
    refine .inr ⟨v, H, n ++ nd, rfl, fun hn => ?_⟩
    rw [allT_append, Bool.and_eq_true] at hn
    exact ⟨hn.2, h args v n hg hn.1 H⟩
end

/-! ### Tags mean nothing -/
theorem Rel.unbare {σ : List (Nat × Nat)} {a : AV} {v : Value} (h : Rel σ a.bare v) : Rel σ a v := by
  cases a <;> simp only [AV.bare] at h <;> cases h <;> first | exact .b _ | exact .i _ _ | (refine .f ?_; assumption) | (refine .c ?_ ?_ <;> assumption) | exact .s _ | (refine .p ?_; assumption) | (refine .sl ?_ ?_ ?_ <;> assumption) | exact .slz | (constructor <;> assumption)
theorem eqv_of_bare {t t' : List AV} (h : t.map AV.bare = t'.map AV.bare) : Eqv t t' := by
  have hl : t.length = t'.length := by have := congrArg List.length h; simpa using this
  refine ⟨hl, fun σ n v r => ?_⟩
  rcases Nat.lt_or_ge n t.length with hn | hn
  · have h1 := getL_some hn
    have h2 := getL_some (l := t') (n := n) (by omega)
    have h3 : (getL t n).bare = (getL t' n).bare := by
      have := congrArg (·[n]?) h
      simpa [h1, h2] using this
    exact Rel.unbare (h3 ▸ r.bare)
  · rw [getL_none hn] at r
    rw [getL_none (by omega)]; exact r
theorem CallOK.bare {P : Program} {f : FuncId} {args args' : List AV} {v : AV} {H H' : List AB} (h : CallOK P f args H v H') (hb : args'.map AV.bare = args.map AV.bare) : CallOK P f args' H v H' := fun σ w rargs s hra =>
  h σ w rargs s ((eqv_of_bare hb).relL hra)

/-! ### Loops -/
def atLoop : List Item → Bool
  | .code (.loop _) :: _ => true
  | .inLoop _ :: _ => true
  | _ => false
/-- Up to the next loop's head. -/
def toLoop (P : Program) (T : Table) (n : Nat) (todo : List Item) (t : List AV) (H : List AB) : Res :=
  runS P T atLoop n todo t H [] (fun t H nd => .ret (.tup t) H nd) (fun todo t H nd => .stop todo t H nd)
theorem toLoop_reach {P : Program} {T : Table} {n : Nat} {todo todo' : List Item} {t t' : List AV} {H H' : List AB} {nd : List Bool} (hT : SoundT P T) (h : (toLoop P T n todo t H).sel = .stop todo' t' H' nd) (hn : allT nd = true) : Reach P todo t H todo' t' H' := by
  rcases runS_sound (stop := atLoop) hT (fun t H nd => .ret (.tup t) H nd) (fun todo t H nd => .stop todo t H nd) n todo t H [] with h1 | ⟨t1, H1, nd1, h1, h2⟩ | ⟨todo1, t1, H1, nd1, h1, h2⟩
  · unfold toLoop at h; rw [h] at h1; cases h1
  · unfold toLoop at h; rw [h] at h1; cases h1
  · unfold toLoop at h; rw [h] at h1; cases h1
    exact (h2 hn).2
theorem toLoop_ends {P : Program} {T : Table} {n : Nat} {todo : List Item} {t t' : List AV} {H H' : List AB} {nd : List Bool} (hT : SoundT P T) (h : (toLoop P T n todo t H).sel = .ret (.tup t') H' nd) (hn : allT nd = true) : Ends P todo t H t' H' := by
  rcases runS_sound (stop := atLoop) hT (fun t H nd => .ret (.tup t) H nd) (fun todo t H nd => .stop todo t H nd) n todo t H [] with h1 | ⟨t1, H1, nd1, h1, h2⟩ | ⟨todo1, t1, H1, nd1, h1, h2⟩
  · unfold toLoop at h; rw [h] at h1; cases h1
  · unfold toLoop at h; rw [h] at h1; cases h1
    exact (h2 hn).2
  · unfold toLoop at h; rw [h] at h1; cases h1
end Go.Ax

/- Functions that hand out numbers from a source of numbers. -/
namespace Go.Ax
open Go

/-- The text of bytes that numbers follow from: a block's bytes, where the slice begins, how long it is. -/
structure Cd where
  bytes : List Int
  off : Nat
  len : Nat
def goodB (c : Cd) : Bool := decide (c.len ≤ c.bytes.length) && decide (c.len ≤ 4096) && c.bytes.all fun b => decide (0 ≤ b) && decide (b < 256)
def okB (c : Cd) (o n : Nat) : Bool := goodB c && decide (o = c.off) && decide (n = c.len)
def codeB (c : Cd) (_ : Bool) : AB := .code c.off c.bytes
def srcR (o n : Nat) (a : Nat) (h : Int) : AB := .cells true (.lit [.sl false 0 o n 0, .i false .i64 (Int.ofNat a), .i false .u64 h])
def srcB (c : Cd) (a : Nat) (h : Int) : AB := .cells true (.lit [.sl false 0 c.off c.len 0, .i false .i64 (Int.ofNat a), .i false .u64 h])

def readI64 : AV → Option Nat
  | .i _ .i64 (Int.ofNat a) => some a
  | _ => none
def readU64 : AV → Option Int
  | .i _ .u64 h => some h
  | _ => none
def readSl : AV → Option (Nat × Nat)
  | .sl _ id off len z => match decide (id = 0) && decide (z = 0) with
    | true => some (off, len)
    | false => none
  | _ => none
def readSrc3 : List AV → Option (Nat × Nat × Nat × Int)
  | [s, a, h] => match readSl s, readI64 a, readU64 h with
    | some (off, len), some a, some h => some (off, len, a, h)
    | _, _, _ => none
  | _ => none
def readSrc : AB → Option (Nat × Nat × Nat × Int)
  | .cells true (.lit l) => readSrc3 l
  | _ => none
def readCode : AB → Option (Nat × List Int)
  | .code o b => some (o, b)
  | _ => none

theorem readSrc_spec {B : AB} {off len a : Nat} {h : Int} (e : readSrc B = some (off, len, a, h)) : ∃ l1 l2 l3, B = .cells true (.lit [.sl l1 0 off len 0, .i l2 .i64 (Int.ofNat a), .i l3 .u64 h]) := by
  unfold readSrc at e
  split at e <;> (try (cases e; done))
  rename_i l
  unfold readSrc3 at e
  split at e <;> (try (cases e; done))
  rename_i s a' h'
  split at e <;> (try (cases e; done))
  rename_i off' len' a'' h'' h1 h2 h3
  cases e
  have e1 : ∃ l1, s = .sl l1 0 off len 0 := by
    unfold readSl at h1
    split at h1 <;> (try (cases h1; done))
    split at h1 <;> cases h1
    rename_i hh
    simp at hh
    obtain ⟨rfl, rfl⟩ := hh
    exact ⟨_, rfl⟩
  have e2 : ∃ l2, a' = .i l2 .i64 (Int.ofNat a) := by
    unfold readI64 at h2
    split at h2 <;> cases h2
    exact ⟨_, rfl⟩
  have e3 : ∃ l3, h' = .i l3 .u64 h := by
    unfold readU64 at h3
    split at h3 <;> cases h3
    exact ⟨_, rfl⟩
  obtain ⟨l1, rfl⟩ := e1
  obtain ⟨l2, rfl⟩ := e2
  obtain ⟨l3, rfl⟩ := e3
  exact ⟨l1, l2, l3, rfl⟩
theorem readCode_spec {B : AB} {o : Nat} {b : List Int} (e : readCode B = some (o, b)) : B = .code o b := by
  unfold readCode at e
  split at e <;> cases e
  rfl

section
variable {P : Program} {T : Table}
theorem sl_cases {σ : List (Nat × Nat)} {l : Bool} {id off len z : Nat} {v : Value} (h : Rel σ (.sl l id off len z) v) : (len = 0 ∧ z = 0 ∧ ∃ a cap, v = .slice a 0 cap) ∨ ∃ b c cap, σ[id]? = some (b, c) ∧ len ≤ cap ∧ off + cap * z ≤ c ∧ v = .slice (some ⟨b, off, none⟩) len cap := by
  cases h with
  | slz => exact .inl ⟨rfl, rfl, _, _, rfl⟩
  | sl h1 h2 h3 => exact .inr ⟨_, _, _, h1, h2, h3, rfl⟩
theorem slz_of {σ : List (Nat × Nat)} {l : Bool} {id off len z cap : Nat} {a : Option Addr} (h0 : len = 0) (h1 : z = 0) : Rel σ (.sl l id off len z) (.slice a 0 cap) := by
  subst h0; subst h1; exact .slz
theorem src_rel {σ : List (Nat × Nat)} {off len a : Nat} {h : Int} {l1 l2 l3 m1 m2 m3 : Bool} {cs : Array Value} (r : RelA σ [.sl l1 0 off len 0, .i l2 .i64 (Int.ofNat a), .i l3 .u64 h] cs) : RelA σ [.sl m1 0 off len 0, .i m2 .i64 (Int.ofNat a), .i m3 .u64 h] cs := fun j x hx => by
  match j, hx with
  | 0, hx => obtain ⟨v, hv, hr⟩ := r 0 _ rfl; cases hx; cases hr with | sl h1 h2 h3 => exact ⟨_, hv, .sl h1 h2 h3⟩ | slz => exact ⟨_, hv, .slz⟩
  | 1, hx => obtain ⟨v, hv, hr⟩ := r 1 _ rfl; cases hx; cases hr; exact ⟨_, hv, .i _ _⟩
  | 2, hx => obtain ⟨v, hv, hr⟩ := r 2 _ rfl; cases hx; cases hr; exact ⟨_, hv, .i _ _⟩
  | j + 3, hx => simp at hx

/-- What is known of a call with a source, seen from any memory. -/
theorem CallOK.src {f : FuncId} {sc : List AV} {v : AV} {c : Cd} {a a' : Nat} {h h' : Int} {H2 : List AB} (k : CallOK P f (.p true 1 0 :: sc) [codeB c false, srcB c a h] v H2) (hs : readSrc (getB H2 1) = some (c.off, c.len, a', h'))
    (hv : below 0 v = true) (hsc : belowL 0 sc = true) {l : Bool} {id : Nat} {H : List AB} (hc : readCode (getB H 0) = some (c.off, c.bytes)) (h0 : id ≠ 0) (hid : readSrc (getB H id) = some (c.off, c.len, a, h)) :
    CallOK P f (.p l id 0 :: sc) H v (setB H id (srcB c a' h')) := fun σ w rargs s hra => by
  have hc := readCode_spec hc
  obtain ⟨l1, l2, l3, hid⟩ := readSrc_spec hid
  obtain ⟨m1, m2, m3, hs⟩ := readSrc_spec hs
  have hl0 : 0 < H.length := by
    rcases Nat.eq_zero_or_pos H.length with h | h
    · rw [getB_none (by omega)] at hc; cases hc
    · exact h
  have hlid : id < H.length := by
    rcases Nat.lt_or_ge id H.length with h | h
    · exact h
    · rw [getB_none h] at hid; cases hid
  obtain ⟨⟨b0, z0⟩, hσ0⟩ : ∃ b, σ[0]? = some b := ⟨_, List.getElem?_eq_getElem (by rw [s.len]; exact hl0)⟩
  obtain ⟨⟨b1, z1⟩, hσ1⟩ : ∃ b, σ[id]? = some b := ⟨_, List.getElem?_eq_getElem (by rw [s.len]; exact hlid)⟩
  have hne : b1 ≠ b0 := fun e => h0 (s.inj id 0 b0 z1 z0 (by rw [← e]; exact hσ1) hσ0 (by rw [hid]; rfl) (by rw [hc]; rfl))
  have hb0 := s.blk 0 b0 z0 hσ0
  have hb1 := s.blk id b1 z1 hσ1
  rw [hc] at hb0
  rw [hid] at hb1
  obtain ⟨c1, e1, f1, q1, q2, q3, q4⟩ := hb1
  have hx0 : ∀ v', Rel σ (.sl l1 0 c.off c.len 0) v' → Rel [(b0, z0), (b1, z1)] (.sl false 0 c.off c.len 0) v' := fun v' hr => by
    rcases sl_cases hr with ⟨g1, g2, _, _, rfl⟩ | ⟨_, _, _, g1, g2, g3, rfl⟩
    · exact slz_of g1 g2
    rw [hσ0] at g1; cases g1
    exact .sl (by rfl) g2 g3
  have s2 : Sim [(b0, z0), (b1, z1)] [codeB c false, srcB c a h] w := by
    refine ⟨rfl, fun i b z hb => ?_, fun i j b z z' hi hj hr hl => ?_, fun g hg => ⟨(s.base g hg).1, fun i z h => by
      match i, h with
      | 0, _ => rfl
      | 1, h => cases h; have h9 := (s.base _ hg).2 id _ hσ1; rw [hid] at h9; cases h9
      | i + 2, h => simp at h⟩⟩
    · match i, hb with
      | 0, hb =>
        cases hb
        exact hb0
      | 1, hb =>
        cases hb
        refine ⟨c1, e1, f1, q1, fun j x hx => ?_, q3, q4⟩
        match j, hx with
        | 0, hx => obtain ⟨v', hv', hr'⟩ := q2 0 _ rfl; cases hx; exact ⟨v', hv', hx0 v' hr'⟩
        | 1, hx => obtain ⟨v', hv', hr'⟩ := q2 1 _ rfl; cases hx; cases hr'; exact ⟨_, hv', .i _ _⟩
        | 2, hx => obtain ⟨v', hv', hr'⟩ := q2 2 _ rfl; cases hx; cases hr'; exact ⟨_, hv', .i _ _⟩
        | j + 3, hx => simp [Cells.toL] at hx
      | i + 2, hb => simp at hb
    · match i, j, hi, hj with
      | 0, 0, hi, hj => rfl
      | 1, 1, hi, hj => rfl
      | 0, 1, hi, hj => cases hi; cases hj; exact absurd rfl hne
      | 1, 0, hi, hj => cases hi; cases hj; exact absurd rfl hne
      | i + 2, _, hi, _ => simp at hi
      | _, j + 2, _, hj => simp at hj
  have hσe : ∀ {x : AV} {y : Value}, below 0 x = true → Rel σ x y → Rel [] x y := fun {x y} hx hr => below_rel (τ := σ) (fun i b hb => by simp at hb) rfl hx hr
  have hσL : ∀ {x : List AV} {y : List Value}, belowL 0 x = true → RelL σ x y → RelL [] x y := fun {x y} hx hr => belowL_rel (τ := σ) (fun i b hb => by simp at hb) rfl hx hr
  generalize hal : rargs.toList = ral at hra
  cases hra with | @cons _ pv _ rsc hp hrs =>
  cases hp with | @p _ _ _ bb cc hpp =>
  rw [hσ1] at hpp
  cases hpp
  have hE : ∀ τ : List (Nat × Nat), Ext [] τ := fun τ i b hb => by simp at hb
  have hra2 : RelL [(b0, z0), (b1, z1)] (.p true 1 0 :: sc) rargs.toList := by
    rw [hal]
    exact .cons (.p (by rfl)) (RelL.mono (hE _) (hσL hsc hrs))
  refine (k _ w rargs s2 hra2).mono ?_
  rintro e w' ⟨rv, rfl, σ', r1, s1, F⟩
  have hold : ∀ b, b < w.heap.size → b ≠ b1 → w'.heap[b]? = w.heap[b]? := fun b hb hbn => F.old b hb fun i z hrw hi => by
    match i, hi with
    | 0, _ => simp [getB, codeB, AB.rw] at hrw
    | 1, hi => cases hi; exact hbn rfl
    | i + 2, hi => simp at hi
  have hσ'0 : σ'[0]? = some (b0, z0) := F.ext 0 _ rfl
  have hσ'1 : σ'[1]? = some (b1, z1) := F.ext 1 _ rfl
  have hn1 := s1.blk 1 b1 z1 hσ'1
  rw [hs] at hn1
  obtain ⟨c2, e2, f2, t1, t2, t3, t4⟩ := hn1
  refine ⟨rv, rfl, σ, ?_, ?_, ?_⟩
  · exact (below_rel (σ := []) (τ := σ') (hE _) rfl hv r1).mono (hE _)
  · refine ⟨by rw [setB_length]; exact s.len, fun i b z hb => ?_, fun i j b z z' hi hj hr hl => ?_, fun g hg => ⟨(s1.base g hg).1, fun i z h => by
      have h1 := (s.base g hg).2 i z h
      by_cases e : id = i
      · subst e; rw [hid] at h1; cases h1
      · rw [getB_setB_ne e]; exact h1⟩⟩
    · by_cases hii : id = i
      · subst hii
        rw [hσ1] at hb; cases hb
        rw [getB_setB_same hlid]
        refine ⟨c2, e2, f2, t1, fun j x hx => ?_, t3, t4⟩
        match j, hx with
        | 0, hx =>
          obtain ⟨v', hv', hr'⟩ := t2 0 _ rfl
          cases hx
          rcases sl_cases hr' with ⟨g1, g2, _, _, rfl⟩ | ⟨_, _, _, g1, g2, g3, rfl⟩
          · exact ⟨_, hv', slz_of g1 g2⟩
          rw [hσ'0] at g1; cases g1
          exact ⟨_, hv', .sl hσ0 g2 g3⟩
        | 1, hx => obtain ⟨v', hv', hr'⟩ := t2 1 _ rfl; cases hx; cases hr'; exact ⟨_, hv', .i _ _⟩
        | 2, hx => obtain ⟨v', hv', hr'⟩ := t2 2 _ rfl; cases hx; cases hr'; exact ⟨_, hv', .i _ _⟩
        | j + 3, hx => simp [Cells.toL] at hx
      · rw [getB_setB_ne hii]
        have hbi := s.blk i b z hb
        cases hg : getB H i with
        | dead => trivial
        | cells r2 A =>
          rw [hg] at hbi
          have hlt := s.lt hb (by rw [hg]; rfl)
          have hbn : b ≠ b1 := fun e => hii (s.inj id i b z1 z (by rw [e]; exact hσ1) hb (by rw [hid]; rfl) (by rw [hg]; rfl))
          rw [hold b hlt hbn]; exact hbi
        | code o0 xs0 =>
          rw [hg] at hbi
          have hlt := s.lt hb (by rw [hg]; rfl)
          have hbn : b ≠ b1 := fun e => hii (s.inj id i b z1 z (by rw [e]; exact hσ1) hb (by rw [hid]; rfl) (by rw [hg]; rfl))
          rw [hold b hlt hbn]; exact hbi
    · have key : ∀ k, (getB (setB H id (srcB c a' h')) k).rw = (getB H k).rw ∧ (getB (setB H id (srcB c a' h')) k).live = (getB H k).live := fun k => by
        by_cases hik : id = k
        · subst hik; rw [getB_setB_same hlid, hid]; exact ⟨rfl, rfl⟩
        · rw [getB_setB_ne hik]; exact ⟨rfl, rfl⟩
      rw [(key i).1] at hr
      rw [(key j).2] at hl
      exact s.inj i j b z z' hi hj hr hl
  · refine ⟨F.os, F.tape, F.output, F.size, fun b hb hno => hold b hb fun e => hno id z1 (by rw [hid]; rfl) (by rw [e]; exact hσ1), Ext.refl σ, fun i b z h h' => (by rw [h'] at h; cases h), fun i hi hr => ?_⟩
    by_cases hii : id = i
    · subst hii; rw [hid]; rfl
    · rwa [getB_setB_ne hii] at hr

/-- A table of one function with a source: value and next state out of code, state and the other arguments; 'q' is what is asked of the other arguments. -/
def srcT (g : Cd → Nat → Int → List AV → Option (AV × Nat × Int × List Bool)) : Table := fun _ args H nd K =>
  match args with
  | .p _ id off :: sc =>
    match readCode (getB H 0), readSrc (getB H id), decide (off = 0) && !decide (id = 0) with
    | some (o', b), some (o, n, a, h), true => match g ⟨b, o', n⟩ a h sc with
      | some (v, a', h', q) => K v (setB H id (srcR o n a' h')) (okB ⟨b, o', n⟩ o n :: (q ++ nd))
      | none => .fail
    | _, _, _ => .fail
  | _ => .fail
/-- What a call with a source must be. -/
def SrcOK (P : Program) (f : FuncId) (sc : List AV) (c : Cd) (a : Nat) (h : Int) (v : AV) (a' : Nat) (h' : Int) : Prop :=
  ∃ H2, CallOK P f (.p true 1 0 :: sc) [codeB c false, srcB c a h] v H2 ∧ readSrc (getB H2 1) = some (c.off, c.len, a', h') ∧ below 0 v = true ∧ belowL 0 sc = true
theorem srcT_sound {g : Cd → Nat → Int → List AV → Option (AV × Nat × Int × List Bool)} {f : FuncId} (hg : ∀ c a h sc v a' h' q, goodB c = true → g c a h sc = some (v, a', h', q) → allT q = true → SrcOK P f sc c a h v a' h')
    (args : List AV) (H : List AB) (nd : List Bool) (K : KF) : (srcT g f args H nd K).sel = .fail ∨ ∃ v H' nd', (srcT g f args H nd K).sel = (K v H' nd').sel ∧ (allT nd' = true → allT nd = true ∧ CallOK P f args H v H') := by
  unfold srcT
  split
  case h_2 => exact .inl rfl
  rename_i l id off sc
  split
  case h_2 => exact .inl rfl
  rename_i o' b o n a h hc hs h0
  cases hgc : g ⟨b, o', n⟩ a h sc with
  | none => exact .inl rfl
  | some x =>
    obtain ⟨v, a', h', q⟩ := x
    refine .inr ⟨_, _, _, rfl, fun hn => ?_⟩
    simp only [allT, allT_append, Bool.and_eq_true, okB] at hn
    obtain ⟨⟨⟨hgood, ho⟩, _⟩, hq, hnd⟩ := hn
    have ho : o = o' := of_decide_eq_true ho
    subst ho
    simp only [Bool.and_eq_true, decide_eq_true_eq, Bool.not_eq_true', decide_eq_false_iff_not] at h0
    obtain ⟨rfl, h0⟩ := h0
    obtain ⟨H2, k, e1, e2, e3⟩ := hg _ _ _ _ _ _ _ _ hgood hgc hq
    exact ⟨hnd, k.src e1 e2 e3 hc h0 hs⟩

/-! ### Joined -/
theorem call_of_sel {f : FuncId} {args : List AV} {H H' : List AB} {v : AV} {nd : List Bool} (hT : SoundT P T) (h : (T f args H [] fun v H nd => .ret v H nd).sel = .ret v H' nd) (hn : allT nd = true) : CallOK P f args H v H' := by
  rcases hT f args H [] (fun v H nd => .ret v H nd) with h' | ⟨v2, H2, nd2, h1, h2⟩
  · rw [h] at h'; cases h'
  · rw [h] at h1
    cases h1
    exact (h2 hn).2

/-- The ways of a result joined: value and next state. What is asked is asked on all ways. -/
def srcJoin (c : Cd) : Res → Option (AV × Nat × Int × List Bool)
  | .ret v H nd => match below 0 v, readSrc (getB H 1) with
    | true, some (o, n, a, h) => some (v, a, h, okB c o n :: nd)
    | _, _ => none
  | .fail => none
  | .stop _ _ _ _ => none
  | .ite b x y => match srcJoin c x, srcJoin c y with
    | some (v, a, h, nd), some (v', a', h', nd') => match mergeV b v v' with
      | some z => some (z, cond b a a', cond b h h', nd ++ nd')
      | none => none
    | _, _ => none
theorem srcJoin_spec {c : Cd} : ∀ {r : Res} {v : AV} {a : Nat} {h : Int} {nd : List Bool}, srcJoin c r = some (v, a, h, nd) → allT nd = true →
    ∃ v' H' nd', r.sel = .ret v' H' nd' ∧ allT nd' = true ∧ readSrc (getB H' 1) = some (c.off, c.len, a, h) ∧ below 0 v' = true ∧ ∀ (σ : List (Nat × Nat)) (x : Value), Rel σ v' x → Rel σ v x
  | .ret v0 H0 nd0, v, a, h, nd, hj, hn => by
    simp only [srcJoin] at hj
    split at hj <;> cases hj
    rename_i o n hb hr
    simp only [allT, Bool.and_eq_true, okB, decide_eq_true_eq] at hn
    obtain ⟨⟨⟨_, rfl⟩, rfl⟩, hn⟩ := hn
    exact ⟨_, H0, _, rfl, hn, hr, hb, fun _ _ r => r⟩
  | .fail, v, a, h, nd, hj, hn => by simp [srcJoin] at hj
  | .stop _ _ _ _, v, a, h, nd, hj, hn => by simp [srcJoin] at hj
  | .ite b x y, v, a, h, nd, hj, hn => by
    simp only [srcJoin] at hj
    split at hj <;> (try (cases hj; done))
    rename_i v1 a1 h1 nd1 v2 a2 h2 nd2 e1 e2
    split at hj <;> cases hj
    rename_i hz
    rw [allT_append, Bool.and_eq_true] at hn
    cases b with
    | true =>
      obtain ⟨v', H', nd', g1, g2, g3, g4, g5⟩ := srcJoin_spec e1 hn.1
      exact ⟨v', H', nd', g1, g2, g3, g4, fun σ x r => mergeV_left hz (g5 σ x r)⟩
    | false =>
      obtain ⟨v', H', nd', g1, g2, g3, g4, g5⟩ := srcJoin_spec e2 hn.2
      exact ⟨v', H', nd', g1, g2, g3, g4, fun σ x r => mergeV_right hz (g5 σ x r)⟩

theorem CallOK.weaken {f : FuncId} {args : List AV} {H H' : List AB} {v v' : AV} (h : CallOK P f args H v H') (hv : ∀ (σ : List (Nat × Nat)) (x : Value), Rel σ v x → Rel σ v' x) : CallOK P f args H v' H' := fun σ w rargs s hra => by
  refine (h σ w rargs s hra).mono ?_
  rintro e w' ⟨rv, rfl, σ', r1, s1, F⟩
  exact ⟨rv, rfl, σ', hv σ' rv r1, s1, F⟩

/-- A form of values: what it holds, and the value of what it holds. -/
structure Form (α : Type) where
  get : AV → Option α
  val : α → AV
  rel : ∀ {v : AV} {x : α}, get v = some x → ∀ (σ : List (Nat × Nat)) (y : Value), Rel σ v y → Rel σ (val x) y
  low : ∀ (x : α), below 0 (val x) = true

def srcEx {α : Type} (F : Form α) (c : Cd) (r : Res) : Option (α × Nat × Int × List Bool) :=
  match srcJoin c r with
  | some (v, a, h, nd) => match F.get v with
    | some x => some (x, a, h, nd)
    | none => none
  | none => none
theorem srcOK_of_ex {α : Type} {F : Form α} {f : FuncId} {sc : List AV} {c : Cd} {a a' : Nat} {h h' : Int} {x : α} {nd : List Bool} (hT : SoundT P T)
    (he : srcEx F c (T f (.p true 1 0 :: sc) [codeB c false, srcB c a h] [] fun v H nd => .ret v H nd) = some (x, a', h', nd)) (hn : allT nd = true) (hsc : belowL 0 sc = true) : SrcOK P f sc c a h (F.val x) a' h' := by
  unfold srcEx at he
  split at he <;> (try (cases he; done))
  rename_i v a1 h1 nd1 hj
  split at he <;> cases he
  rename_i hx
  obtain ⟨v', H', nd', g1, g2, g3, g4, g5⟩ := srcJoin_spec hj hn
  exact ⟨H', (call_of_sel hT g1 g2).weaken fun σ y r => F.rel hx σ y (g5 σ y r), g3, F.low x, hsc⟩
/-- Some value of the form: when only that is of interest. -/
theorem srcOK_some {α : Type} {F : Form α} {f : FuncId} {sc : List AV} {c : Cd} {a : Nat} {h : Int} {m : Nat} (hT : SoundT P T)
    (he : (srcEx F c (T f (.p true 1 0 :: sc) [codeB c false, srcB c a h] [] fun v H nd => .ret v H nd)).isSome = true)
    (hn : ((srcEx F c (T f (.p true 1 0 :: sc) [codeB c false, srcB c a h] [] fun v H nd => .ret v H nd)).map fun r => r.2.2.2) = some (List.replicate m (okB c c.off c.len)))
    (hc : goodB c = true) (hsc : belowL 0 sc = true) : ∃ x a' h', SrcOK P f sc c a h (F.val x) a' h' := by
  cases hr : srcEx F c (T f (.p true 1 0 :: sc) [codeB c false, srcB c a h] [] fun v H nd => .ret v H nd) with
  | none => rw [hr] at he; cases he
  | some r =>
    obtain ⟨x, a', h', nd⟩ := r
    rw [hr] at hn
    simp only [Option.map_some, Option.some.injEq] at hn
    refine ⟨x, a', h', srcOK_of_ex hT hr ?_ hsc⟩
    rw [hn]
    have hok : okB c c.off c.len = true := by simp [okB, hc]
    rw [hok]
    have : ∀ m, allT (List.replicate m true) = true := fun m => by
      induction m with
      | zero => rfl
      | succ m ih => simpa [List.replicate_succ, allT] using ih
    exact this m
end
end Go.Ax

/- Tables put together. -/
namespace Go.Ax
open Go

def SoundAt (P : Program) (f : FuncId) (T : Table) : Prop := ∀ (args : List AV) (H : List AB) (nd : List Bool) (K : KF), (T f args H nd K).sel = .fail ∨
  ∃ v H' nd', (T f args H nd K).sel = (K v H' nd').sel ∧ (allT nd' = true → allT nd = true ∧ CallOK P f args H v H')
def look : List (FuncId × Table) → Table → Table
  | [], d => d
  | (g, T) :: l, d => fun f args H nd K => match Nat.beq f g with
    | true => T f args H nd K
    | false => look l d f args H nd K
theorem look_sound {P : Program} {d : Table} (hd : SoundT P d) : ∀ {l : List (FuncId × Table)}, (∀ p ∈ l, SoundAt P p.1 p.2) → SoundT P (look l d)
  | [], _ => hd
  | (g, T) :: l, h => fun f args H nd K => by
    unfold look
    split
    · rename_i hb
      have : f = g := Nat.eq_of_beq_eq_true hb
      subst this
      exact h _ (List.mem_cons_self) args H nd K
    · exact look_sound hd (fun p hp => h p (List.mem_cons_of_mem _ hp)) f args H nd K
theorem SoundT.at {P : Program} {T : Table} (h : SoundT P T) (f : FuncId) : SoundAt P f T := fun args H nd K => h f args H nd K

/-- All functions by their own text, as deep as d; those that write to no memory of the caller's come back joined. -/
def deep (P : Program) (l : List (FuncId × Table)) (inl : List FuncId) (n : Nat) : Nat → Table
  | 0 => noT
  | d + 1 => look l fun f args H nd K => match inl.any (Nat.beq f) with
    | true => runF P (deep P l inl n d) n f args H nd K
    | false => quiet (runF P (deep P l inl n d) n) f args H nd K
theorem deep_sound {P : Program} {l : List (FuncId × Table)} {inl : List FuncId} {n : Nat} (h : ∀ p ∈ l, SoundAt P p.1 p.2) : ∀ d, SoundT P (deep P l inl n d)
  | 0 => noT_sound P
  | d + 1 => look_sound (fun f args H nd K => by
      have ih := runF_sound (deep_sound (inl := inl) (n := n) h d) n
      split
      · exact ih f args H nd K
      · exact quiet_sound ih f args H nd K) h
end Go.Ax

/- The same run with the temporaries in a tree, which the kernel goes through faster. -/
namespace Go.Ax
open Go

inductive Tm where
  | nil
  | node (v : AV) (l r : Tm)

noncomputable def gt (t : Tm) : Nat → AV :=
  Tm.rec (motive := fun _ => Nat → AV) (fun _ => .tup [])
    (fun v _ _ il ir n => Nat.rec (motive := fun _ => AV) v (fun m _ => Nat.rec (motive := fun _ => AV) (il (Nat.div m 2)) (fun _ _ => ir (Nat.div m 2)) (Nat.mod m 2)) n) t
noncomputable def st (t : Tm) : Nat → AV → Tm :=
  Tm.rec (motive := fun _ => Nat → AV → Tm) (fun _ _ => .nil)
    (fun v l r il ir n x => Nat.rec (motive := fun _ => Tm) (.node x l r) (fun m _ => Nat.rec (motive := fun _ => Tm) (.node v (il (Nat.div m 2) x) r) (fun _ _ => .node v l (ir (Nat.div m 2) x)) (Nat.mod m 2)) n) t
noncomputable def hasT (t : Tm) : Nat → Bool :=
  Tm.rec (motive := fun _ => Nat → Bool) (fun _ => false)
    (fun _ _ _ il ir n => Nat.rec (motive := fun _ => Bool) true (fun m _ => Nat.rec (motive := fun _ => Bool) (il (Nat.div m 2)) (fun _ _ => ir (Nat.div m 2)) (Nat.mod m 2)) n) t

theorem mod2 (m : Nat) : Nat.mod m 2 = 0 ∨ Nat.mod m 2 = 1 := by
  have : m % 2 = 0 ∨ m % 2 = 1 := by omega
  exact this
theorem gt_even {v : AV} {l r : Tm} {m : Nat} (h : Nat.mod m 2 = 0) : gt (.node v l r) (m + 1) = gt l (m / 2) := by
  show Nat.rec (motive := fun _ => AV) (gt l (m / 2)) (fun _ _ => gt r (m / 2)) (Nat.mod m 2) = _
  rw [h]; rfl
theorem gt_odd {v : AV} {l r : Tm} {m : Nat} (h : Nat.mod m 2 = 1) : gt (.node v l r) (m + 1) = gt r (m / 2) := by
  show Nat.rec (motive := fun _ => AV) (gt l (m / 2)) (fun _ _ => gt r (m / 2)) (Nat.mod m 2) = _
  rw [h]; rfl
theorem has_even {v : AV} {l r : Tm} {m : Nat} (h : Nat.mod m 2 = 0) : hasT (.node v l r) (m + 1) = hasT l (m / 2) := by
  show Nat.rec (motive := fun _ => Bool) (hasT l (m / 2)) (fun _ _ => hasT r (m / 2)) (Nat.mod m 2) = _
  rw [h]; rfl
theorem has_odd {v : AV} {l r : Tm} {m : Nat} (h : Nat.mod m 2 = 1) : hasT (.node v l r) (m + 1) = hasT r (m / 2) := by
  show Nat.rec (motive := fun _ => Bool) (hasT l (m / 2)) (fun _ _ => hasT r (m / 2)) (Nat.mod m 2) = _
  rw [h]; rfl
theorem st_even {v x : AV} {l r : Tm} {m : Nat} (h : Nat.mod m 2 = 0) : st (.node v l r) (m + 1) x = .node v (st l (m / 2) x) r := by
  show Nat.rec (motive := fun _ => Tm) (.node v (st l (m / 2) x) r) (fun _ _ => .node v l (st r (m / 2) x)) (Nat.mod m 2) = _
  rw [h]; rfl
theorem st_odd {v x : AV} {l r : Tm} {m : Nat} (h : Nat.mod m 2 = 1) : st (.node v l r) (m + 1) x = .node v l (st r (m / 2) x) := by
  show Nat.rec (motive := fun _ => Tm) (.node v (st l (m / 2) x) r) (fun _ _ => .node v l (st r (m / 2) x)) (Nat.mod m 2) = _
  rw [h]; rfl

theorem half_inj {a b : Nat} (h : Nat.mod a 2 = Nat.mod b 2) : (a / 2 = b / 2) ↔ a = b := by
  have h : a % 2 = b % 2 := h
  omega
theorem st_has (x : AV) : ∀ (t : Tm) (n k : Nat), hasT (st t n x) k = hasT t k
  | .nil, _, _ => rfl
  | .node v l r, 0, 0 => rfl
  | .node v l r, 0, k + 1 => by
    show hasT (.node x l r) (k + 1) = _
    rcases mod2 k with h | h
    · rw [has_even h, has_even h]
    · rw [has_odd h, has_odd h]
  | .node v l r, n + 1, 0 => by
    rcases mod2 n with h | h
    · rw [st_even h]; rfl
    · rw [st_odd h]; rfl
  | .node v l r, n + 1, k + 1 => by
    rcases mod2 n with h | h <;> rcases mod2 k with h' | h'
    · rw [st_even h, has_even h', has_even h', st_has x l]
    · rw [st_even h, has_odd h', has_odd h']
    · rw [st_odd h, has_even h', has_even h']
    · rw [st_odd h, has_odd h', has_odd h', st_has x r]
theorem st_get (x : AV) : ∀ (t : Tm) (n k : Nat), gt (st t n x) k = if k = n ∧ hasT t n = true then x else gt t k
  | .nil, n, k => by
    have : hasT .nil n = false := rfl
    simp [this]; rfl
  | .node v l r, 0, 0 => by
    have : hasT (.node v l r) 0 = true := rfl
    simp [this]; rfl
  | .node v l r, 0, k + 1 => by
    rw [if_neg (by omega)]
    show gt (.node x l r) (k + 1) = _
    rcases mod2 k with h | h
    · rw [gt_even h, gt_even h]
    · rw [gt_odd h, gt_odd h]
  | .node v l r, n + 1, 0 => by
    rw [if_neg (by omega)]
    rcases mod2 n with h | h
    · rw [st_even h]; rfl
    · rw [st_odd h]; rfl
  | .node v l r, n + 1, k + 1 => by
    rcases mod2 n with h | h <;> rcases mod2 k with h' | h'
    · rw [st_even h, gt_even h', st_get x l, gt_even h', has_even h]
      have : (k / 2 = n / 2) ↔ k = n := half_inj (h'.trans h.symm)
      simp [this]
    · rw [st_even h, gt_odd h', if_neg, gt_odd h']
      rintro ⟨e, _⟩
      have : k = n := by omega
      subst this; rw [h] at h'; cases h'
    · rw [st_odd h, gt_even h', if_neg, gt_even h']
      rintro ⟨e, _⟩
      have : k = n := by omega
      subst this; rw [h] at h'; cases h'
    · rw [st_odd h, gt_odd h', st_get x r, gt_odd h', has_odd h]
      have : (k / 2 = n / 2) ↔ k = n := half_inj (h'.trans h.symm)
      simp [this]

/-- A tree and a list that say the same. -/
structure R (τ : Tm) (t : List AV) : Prop where
  get : ∀ n, gt τ n = getL t n
  has : ∀ n, hasT τ n = decide (n < t.length)
theorem getL_setL (t : List AV) (d : Nat) (v : AV) (n : Nat) : getL (setL t d v) n = if n = d ∧ d < t.length then v else getL t n := by
  rw [getL_eq, getL_eq, setL_eq, List.getD_eq_getElem?_getD, List.getD_eq_getElem?_getD]
  by_cases h : n = d
  · subst h
    by_cases h2 : n < t.length
    · simp [h2]
    · simp [h2]
  · rw [List.getElem?_set_ne (Ne.symm h), if_neg (fun e => h e.1)]
theorem R.set {τ : Tm} {t : List AV} (h : R τ t) (d : Nat) (v : AV) : R (st τ d v) (setL t d v) :=
  ⟨fun n => by rw [st_get, getL_setL, h.has, h.get]; simp, fun n => by rw [st_has, h.has, setL_eq, List.length_set]⟩
noncomputable def putB (t : Tm) (d : Option Nat) (v : AV) : Tm :=
  match d with
  | some n => st t n v
  | none => t
theorem R.put {τ : Tm} {t : List AV} (h : R τ t) (d : Option Nat) (v : AV) : R (putB τ d v) (putT t d v) := by
  cases d with
  | none => exact h
  | some n => exact h.set n v
noncomputable def evB (t : Tm) : Operand → AV
  | .tmp n => gt t n
  | .const v => (ofV v).getD (.tup [])
  | .global _ => .tup []
  | .func f => .fn f [] []
theorem R.ev {τ : Tm} {t : List AV} (h : R τ t) : evB τ = evA t := funext fun o => by
  cases o with
  | tmp n => exact h.get n
  | _ => rfl

abbrev KB := Tm → List AB → List Bool → Res
def KR (K : KB) (K' : KT) : Prop := ∀ τ t H nd, R τ t → K τ H nd = K' t H nd

section
variable (P : Program) (T : Table)
noncomputable def bStepA (op : Op) (d : Option Nat) (t : Tm) (H : List AB) (nd : List Bool) (K : KB) : Res :=
  match aop P op (evB t) H with
  | some (v, n) => K (putB t d v) H (n ++ nd)
  | none => match eop P op (evB t) H with
    | some (v, H', n) => K (putB t d v) H' (n ++ nd)
    | none => .fail
noncomputable def bStepOp (o : Oper) (t : Tm) (H : List AB) (nd : List Bool) (K : KB) : Res :=
  if o.op.operands.all okOpd then
    match o.op with
    | .call c =>
      match aCall c (evB t) with
      | some (g, args) =>
        match P.funcs[g]? with
        | some fn =>
          match fn.body with
          | some _ =>
            match fn.name == "runtime.NumGoroutine" with
            | true => .fail
            | false => T g args H nd fun v H' nd' => K (putB t o.dst v) H' nd'
          | none => match aExtern fn args with
            | some v => K (putB t o.dst v) H nd
            | none => .fail
        | none => .fail
      | none => bStepA P o.op o.dst t H nd K
    | op => bStepA P op o.dst t H nd K
  else .fail
noncomputable def bStepAQ (op : Op) (d : Option Nat) (t : Tm) (H : List AB) (nd : List Bool) (K : Tm → List Bool → Res) : Res :=
  match aop P op (evB t) H with
  | some (v, n) => K (putB t d v) (n ++ nd)
  | none => .fail
noncomputable def bStepQ (o : Oper) (t : Tm) (H : List AB) (nd : List Bool) (K : Tm → List Bool → Res) : Res :=
  if o.op.operands.all okOpd then
    match o.op with
    | .call c =>
      match aCall c (evB t) with
      | some (g, args) =>
        match P.funcs[g]? with
        | some fn =>
          match fn.body with
          | some _ =>
            match fn.name == "runtime.NumGoroutine" with
            | true => .fail
            | false => T g args (roH H) nd fun v _ nd' => match below H.length v with
              | true => K (putB t o.dst v) nd'
              | false => .fail
          | none => match aExtern fn args with
            | some v => K (putB t o.dst v) nd
            | none => .fail
        | none => .fail
      | none => bStepAQ P o.op o.dst t H nd K
    | op => bStepAQ P op o.dst t H nd K
  else .fail
noncomputable def bGuarded (ops : Array Oper) (o : Oper) (t : Tm) (yes no : Tm → Res) : Res :=
  match o.guard with
  | none => yes t
  | some (j, want) =>
    match gDst ops j with
    | none => .fail
    | some d =>
      match gt t d with
      | .b l x =>
        match l with
        | true => match x with
          | true => match want with
            | true => yes t
            | false => no t
          | false => match want with
            | true => no t
            | false => yes t
        | false => match want with
          | true => .ite x (yes (st t d (.b true true))) (no (st t d (.b true false)))
          | false => .ite x (no (st t d (.b true true))) (yes (st t d (.b true false)))
      | .tup [] => no t
      | _ => .fail
noncomputable def bRunOps (ops : Array Oper) : List Oper → Tm → List AB → List Bool → KB → Res
  | [], t, H, nd, K => K t H nd
  | o :: rest, t, H, nd, K =>
    bGuarded ops o t
      (fun t => bStepOp P T o t H nd fun t H nd => bRunOps ops rest t H nd K)
      (fun t => bRunOps ops rest (putB t o.dst (.tup [])) H nd K)
noncomputable def bRunQ (ops : Array Oper) : List Oper → Tm → List AB → List Bool → (Tm → List Bool → Res) → Res
  | [], t, _, nd, K => K t nd
  | o :: rest, t, H, nd, K =>
    bGuarded ops o t
      (fun t => bStepQ P T o t H nd fun t nd => bRunQ ops rest t H nd K)
      (fun t => bRunQ ops rest (putB t o.dst (.tup [])) H nd K)
noncomputable def bRunRegion (ops : Array Oper) (draw : Bool) (t : Tm) (H : List AB) (nd : List Bool) (K : KB) : Res :=
  match draw with
  | false => bRunOps P T ops ops.toList t H nd K
  | true =>
    match P.follows .mixedOrders && drawOK ops (qN ops) with
    | true => bRunQ P T ops (ops.toList.take (qN ops)) t H nd fun t nd => bRunOps P T ops (ops.toList.drop (qN ops)) t H nd K
    | false => .fail
noncomputable def bRun : Nat → List Item → Tm → List AB → List Bool → KB → Res
  | 0, _, _, _, _, _ => .fail
  | n + 1, todo, t, H, nd, K =>
    match todo with
    | [] => K t H nd
    | .inBlock _ :: k => bRun n k t H nd K
    | .inLoop c :: k => bRun n (.code c :: .inLoop c :: k) t H nd K
    | .code c :: k =>
      match c with
      | .skip => bRun n k t H nd K
      | .label _ => bRun n k t H nd K
      | .ret => K t H nd
      | .seq a b => bRun n (.code a :: .code b :: k) t H nd K
      | .cond c a b =>
        match okOpd c, evB t c with
        | true, .b l x => match l with
          | true => match x with
            | true => bRun n (.code a :: k) t H nd K
            | false => bRun n (.code b :: k) t H nd K
          | false => .ite x (bRun n (.code a :: k) t H nd K) (bRun n (.code b :: k) t H nd K)
        | _, _ => .fail
      | .block id c => bRun n (.code c :: .inBlock id :: k) t H nd K
      | .loop c => bRun n (.code c :: .inLoop c :: k) t H nd K
      | .exit id => match exitTo id k with
        | some k' => bRun n k' t H nd K
        | none => .fail
      | .region _ ops draw => bRunRegion P T ops draw t H nd fun t H nd => bRun n k t H nd K
      | _ => .fail
    | _ => .fail
noncomputable def bRunS (stop : List Item → Bool) : Nat → List Item → Tm → List AB → List Bool → KB → (List Item → KB) → Res
  | 0, _, _, _, _, _, _ => .fail
  | n + 1, todo, t, H, nd, KE, KS =>
    let next : List Item → Tm → List AB → List Bool → Res := fun k t H nd => match stop k with
      | true => KS k t H nd
      | false => bRunS stop n k t H nd KE KS
    match todo with
    | [] => KE t H nd
    | .inBlock _ :: k => next k t H nd
    | .inLoop c :: k => next (.code c :: .inLoop c :: k) t H nd
    | .code c :: k =>
      match c with
      | .skip => next k t H nd
      | .label _ => next k t H nd
      | .ret => KE t H nd
      | .seq a b => next (.code a :: .code b :: k) t H nd
      | .cond c a b =>
        match okOpd c, evB t c with
        | true, .b l x => match l with
          | true => match x with
            | true => next (.code a :: k) t H nd
            | false => next (.code b :: k) t H nd
          | false => .ite x (next (.code a :: k) t H nd) (next (.code b :: k) t H nd)
        | _, _ => .fail
      | .block id c => next (.code c :: .inBlock id :: k) t H nd
      | .loop c => next (.code c :: .inLoop c :: k) t H nd
      | .exit id => match exitTo id k with
        | some k' => next k' t H nd
        | none => .fail
      | .region _ ops draw => bRunRegion P T ops draw t H nd fun t H nd => next k t H nd
      | _ => .fail
    | _ => .fail
end

section
variable {P : Program} {T : Table}
theorem bStepA_eq {op : Op} {d : Option Nat} {τ : Tm} {t : List AV} {H : List AB} {nd : List Bool} {K : KB} {K' : KT} (h : R τ t) (hK : KR K K') : bStepA P op d τ H nd K = stepA P op d t H nd K' := by
  unfold bStepA stepA
  rw [h.ev]
  cases aop P op (evA t) H with
  | some x => exact hK _ _ _ _ (h.put d x.1)
  | none =>
    dsimp only
    cases eop P op (evA t) H with
    | some x => exact hK _ _ _ _ (h.put d x.1)
    | none => rfl
theorem bStepOp_eq {o : Oper} {τ : Tm} {t : List AV} {H : List AB} {nd : List Bool} {K : KB} {K' : KT} (h : R τ t) (hK : KR K K') : bStepOp P T o τ H nd K = stepOp P T o t H nd K' := by
  unfold bStepOp stepOp
  split
  case isFalse => rfl
  cases hop : o.op
  case call c =>
    dsimp only
    rw [h.ev]
    cases aCall c (evA t) with
    | none => exact bStepA_eq h hK
    | some x =>
      obtain ⟨g, args⟩ := x
      dsimp only
      cases P.funcs[g]? with
      | none => rfl
      | some fn =>
        dsimp only
        cases fn.body with
        | none =>
          dsimp only
          cases aExtern fn args with
          | none => rfl
          | some v => exact hK _ _ _ _ (h.put _ _)
        | some c =>
          dsimp only
          cases (fn.name == "runtime.NumGoroutine")
          · show T g args H nd _ = T g args H nd _
            congr 1
            funext v H' nd'
            exact hK _ _ _ _ (h.put _ _)
          · rfl
  all_goals exact bStepA_eq h hK
theorem bStepAQ_eq {op : Op} {d : Option Nat} {τ : Tm} {t : List AV} {H : List AB} {nd : List Bool} {K : Tm → List Bool → Res} {K' : List AV → List Bool → Res} (h : R τ t) (hK : ∀ τ t nd, R τ t → K τ nd = K' t nd) : bStepAQ P op d τ H nd K = stepAQ P op d t H nd K' := by
  unfold bStepAQ stepAQ
  rw [h.ev]
  cases aop P op (evA t) H with
  | some x => exact hK _ _ _ (h.put d x.1)
  | none => rfl
theorem bStepQ_eq {o : Oper} {τ : Tm} {t : List AV} {H : List AB} {nd : List Bool} {K : Tm → List Bool → Res} {K' : List AV → List Bool → Res} (h : R τ t) (hK : ∀ τ t nd, R τ t → K τ nd = K' t nd) : bStepQ P T o τ H nd K = stepQ P T o t H nd K' := by
  unfold bStepQ stepQ
  split
  case isFalse => rfl
  cases hop : o.op
  case call c =>
    dsimp only
    rw [h.ev]
    cases aCall c (evA t) with
    | none => exact bStepAQ_eq h hK
    | some x =>
      obtain ⟨g, args⟩ := x
      dsimp only
      cases P.funcs[g]? with
      | none => rfl
      | some fn =>
        dsimp only
        cases fn.body with
        | none =>
          dsimp only
          cases aExtern fn args with
          | none => rfl
          | some v => exact hK _ _ _ (h.put _ _)
        | some c =>
          dsimp only
          cases (fn.name == "runtime.NumGoroutine")
          · show T g args (roH H) nd _ = T g args (roH H) nd _
            congr 1
            funext v H' nd'
            cases below H.length v
            · rfl
            · exact hK _ _ _ (h.put _ _)
          · rfl
  all_goals exact bStepAQ_eq h hK
theorem bGuarded_eq {ops : Array Oper} {o : Oper} {τ : Tm} {t : List AV} {yes no : Tm → Res} {yes' no' : List AV → Res} (h : R τ t) (hy : ∀ τ t, R τ t → yes τ = yes' t) (hn : ∀ τ t, R τ t → no τ = no' t) : bGuarded ops o τ yes no = guarded ops o t yes' no' := by
  unfold bGuarded guarded
  cases o.guard with
  | none => exact hy _ _ h
  | some g =>
    obtain ⟨j, want⟩ := g
    dsimp only
    cases gDst ops j with
    | none => rfl
    | some d =>
      dsimp only
      rw [h.get]
      have hy2 := fun v => hy _ _ (h.set d v)
      have hn2 := fun v => hn _ _ (h.set d v)
      cases getL t d
      case b l x =>
        cases l <;> cases x <;> cases want <;> dsimp only <;> first | exact hy _ _ h | exact hn _ _ h | (rw [hy2, hn2])
      case tup l =>
        cases l with
        | nil => exact hn _ _ h
        | cons _ _ => rfl
      all_goals rfl
theorem bRunOps_eq {ops : Array Oper} {K : KB} {K' : KT} (hK : KR K K') : ∀ (l : List Oper) (τ : Tm) (t : List AV) (H : List AB) (nd : List Bool), R τ t → bRunOps P T ops l τ H nd K = runOps P T ops l t H nd K'
  | [], τ, t, H, nd, h => hK _ _ _ _ h
  | o :: rest, τ, t, H, nd, h => by
    unfold bRunOps runOps
    exact bGuarded_eq h (fun τ t h => bStepOp_eq h fun τ t H nd h => bRunOps_eq hK rest τ t H nd h) (fun τ t h => bRunOps_eq hK rest _ _ H nd (h.put _ _))
theorem bRunQ_eq {ops : Array Oper} {K : Tm → List Bool → Res} {K' : List AV → List Bool → Res} (hK : ∀ τ t nd, R τ t → K τ nd = K' t nd) : ∀ (l : List Oper) (τ : Tm) (t : List AV) (H : List AB) (nd : List Bool), R τ t → bRunQ P T ops l τ H nd K = runQ P T ops l t H nd K'
  | [], τ, t, H, nd, h => hK _ _ _ h
  | o :: rest, τ, t, H, nd, h => by
    unfold bRunQ runQ
    exact bGuarded_eq h (fun τ t h => bStepQ_eq h fun τ t nd h => bRunQ_eq hK rest τ t H nd h) (fun τ t h => bRunQ_eq hK rest _ _ H nd (h.put _ _))
theorem bRunRegion_eq {ops : Array Oper} {draw : Bool} {τ : Tm} {t : List AV} {H : List AB} {nd : List Bool} {K : KB} {K' : KT} (h : R τ t) (hK : KR K K') : bRunRegion P T ops draw τ H nd K = runRegion P T ops draw t H nd K' := by
  unfold bRunRegion runRegion
  cases draw with
  | false => exact bRunOps_eq hK _ _ _ _ _ h
  | true =>
    dsimp only
    cases (P.follows .mixedOrders && drawOK ops (qN ops)) with
    | true =>
      dsimp only
      refine bRunQ_eq ?_ _ _ _ _ _ h
      intro τ t nd h
      exact bRunOps_eq hK _ _ _ _ _ h
    | false => rfl
theorem bRun_eq {K : KB} {K' : KT} (hK : KR K K') : ∀ (n : Nat) (todo : List Item) (τ : Tm) (t : List AV) (H : List AB) (nd : List Bool), R τ t → bRun P T n todo τ H nd K = run P T n todo t H nd K'
  | 0, _, _, _, _, _, _ => rfl
  | n + 1, todo, τ, t, H, nd, h => by
    have ih := bRun_eq hK n
    unfold bRun run
    cases todo with
    | nil => exact hK _ _ _ _ h
    | cons i k =>
      cases i
      case inBlock => exact ih _ _ _ _ _ h
      case inLoop => exact ih _ _ _ _ _ h
      case code c =>
        cases c
        case skip => exact ih _ _ _ _ _ h
        case label => exact ih _ _ _ _ _ h
        case ret => exact hK _ _ _ _ h
        case seq => exact ih _ _ _ _ _ h
        case block => exact ih _ _ _ _ _ h
        case loop => exact ih _ _ _ _ _ h
        case exit id =>
          dsimp only
          cases exitTo id k with
          | some k' => exact ih _ _ _ _ _ h
          | none => rfl
        case region ops draw => exact bRunRegion_eq h fun τ t H nd h => ih _ _ _ _ _ h
        case cond c a b =>
          dsimp only
          rw [h.ev]
          cases okOpd c with
          | false => cases evA t c <;> rfl
          | true =>
            cases evA t c
            case b l x =>
              cases l with
              | true => cases x <;> exact ih _ _ _ _ _ h
              | false =>
                exact (show Res.ite x _ _ = Res.ite x _ _ from congr (congrArg (Res.ite x) (ih _ _ _ _ _ h)) (ih _ _ _ _ _ h))
            all_goals rfl
        all_goals rfl
      all_goals rfl
theorem bRunS_eq {stop : List Item → Bool} {K : KB} {K' : KT} {S : List Item → KB} {S' : List Item → KT} (hK : KR K K') (hS : ∀ k, KR (S k) (S' k)) : ∀ (n : Nat) (todo : List Item) (τ : Tm) (t : List AV) (H : List AB) (nd : List Bool), R τ t → bRunS P T stop n todo τ H nd K S = runS P T stop n todo t H nd K' S'
  | 0, _, _, _, _, _, _ => rfl
  | n + 1, todo, τ, t, H, nd, h => by
    have ih : ∀ (k : List Item) (τ : Tm) (t : List AV) (H : List AB) (nd : List Bool), R τ t → (match stop k with
        | true => S k τ H nd
        | false => bRunS P T stop n k τ H nd K S) = (match stop k with
        | true => S' k t H nd
        | false => runS P T stop n k t H nd K' S') := fun k τ t H nd h => by
      split
      · exact hS k _ _ _ _ h
      · exact bRunS_eq hK hS n _ _ _ _ _ h
    unfold bRunS runS
    dsimp only
    cases todo with
    | nil => exact hK _ _ _ _ h
    | cons i k =>
      cases i
      case inBlock => exact ih _ _ _ _ _ h
      case inLoop => exact ih _ _ _ _ _ h
      case code c =>
        cases c
        case skip => exact ih _ _ _ _ _ h
        case label => exact ih _ _ _ _ _ h
        case ret => exact hK _ _ _ _ h
        case seq => exact ih _ _ _ _ _ h
        case block => exact ih _ _ _ _ _ h
        case loop => exact ih _ _ _ _ _ h
        case exit id =>
          dsimp only
          cases exitTo id k with
          | some k' => exact ih _ _ _ _ _ h
          | none => rfl
        case region ops draw => exact bRunRegion_eq h fun τ t H nd h => ih _ _ _ _ _ h
        case cond c a b =>
          dsimp only
          rw [h.ev]
          cases okOpd c with
          | false => cases evA t c <;> rfl
          | true =>
            cases evA t c
            case b l x =>
              cases l with
              | true => cases x <;> exact ih _ _ _ _ _ h
              | false =>
                exact (show Res.ite x _ _ = Res.ite x _ _ from congr (congrArg (Res.ite x) (ih _ _ _ _ _ h)) (ih _ _ _ _ _ h))
            all_goals rfl
        all_goals rfl
      all_goals rfl
end

/-! ### Trees out of lists -/
/-- n places. -/
def mkT : Nat → Nat → Tm
  | 0, _ => .nil
  | _ + 1, 0 => .nil
  | f + 1, n + 1 => .node (.tup []) (mkT f (Nat.div (Nat.succ n) 2)) (mkT f (Nat.div n 2))
theorem mkT_has : ∀ (f n k : Nat), n ≤ f → hasT (mkT f n) k = decide (k < n)
  | 0, n, k, h => by
    have : n = 0 := by omega
    subst this; simp; rfl
  | f + 1, 0, k, h => by simp; rfl
  | f + 1, n + 1, 0, h => by simp; rfl
  | f + 1, n + 1, k + 1, h => by
    have e1 : Nat.div (Nat.succ n) 2 = (n + 1) / 2 := rfl
    have e2 : Nat.div n 2 = n / 2 := rfl
    unfold mkT
    rw [e1, e2]
    rcases mod2 k with h' | h'
    · rw [has_even h', mkT_has f _ _ (by omega)]
      have h' : k % 2 = 0 := h'
      have : (k / 2 < (n + 1) / 2) ↔ k + 1 < n + 1 := by omega
      simp [this]
    · rw [has_odd h', mkT_has f _ _ (by omega)]
      have h' : k % 2 = 1 := h'
      have : (k / 2 < n / 2) ↔ k + 1 < n + 1 := by omega
      simp [this]
theorem mkT_get : ∀ (f n k : Nat), gt (mkT f n) k = .tup []
  | 0, n, k => rfl
  | f + 1, 0, k => rfl
  | f + 1, n + 1, 0 => rfl
  | f + 1, n + 1, k + 1 => by
    unfold mkT
    rcases mod2 k with h' | h'
    · rw [gt_even h', mkT_get]
    · rw [gt_odd h', mkT_get]
theorem mkT_R (f n : Nat) (h : n ≤ f) : R (mkT f n) (undefs n) := by
  have e1 : ∀ n, (undefs n).length = n := fun n => by induction n with
    | zero => rfl
    | succ n ih => simp [undefs, ih]
  have e2 : ∀ n k, getL (undefs n) k = .tup [] := fun n => by induction n with
    | zero => intro k; rfl
    | succ n ih => intro k; cases k with
      | zero => rfl
      | succ k => exact ih k
  exact ⟨fun k => by rw [mkT_get, e2], fun k => by rw [mkT_has f n k h, e1]⟩
noncomputable def stAll : Tm → Nat → List AV → Tm
  | t, _, [] => t
  | t, i, a :: l => stAll (st t i a) (Nat.succ i) l
theorem stAll_R : ∀ (l : List AV) (τ : Tm) (t : List AV) (i : Nat), R τ t → R (stAll τ i l) (setAll t i l)
  | [], _, _, _, h => h
  | a :: l, _, _, i, h => stAll_R l _ _ (i + 1) (h.set i a)
theorem setAll_prefix : ∀ (l p t : List AV), l.length ≤ t.length → setAll (p ++ t) p.length l = p ++ l ++ t.drop l.length
  | [], p, t, h => by simp [setAll]
  | a :: l, p, [], h => by simp at h
  | a :: l, p, b :: t, h => by
    have e : setL (p ++ b :: t) p.length a = (p ++ [a]) ++ t := by
      rw [setL_eq]; simp
    have := setAll_prefix l (p ++ [a]) t (by simpa using h)
    rw [show (p ++ [a]).length = p.length + 1 by simp] at this
    simp only [setAll, e, this]
    simp
theorem args_list (l : List AV) (n : Nat) (h : l.length ≤ n) : setAll (undefs n) 0 l = l ++ undefs (n - l.length) := by
  have e1 : ∀ n, (undefs n).length = n := fun n => by induction n with
    | zero => rfl
    | succ n ih => simp [undefs, ih]
  have e2 : ∀ k n, (undefs n).drop k = undefs (n - k) := fun k => by induction k with
    | zero => intro n; simp
    | succ k ih => intro n; cases n with
      | zero => simp [undefs]
      | succ n => rw [show n + 1 - (k + 1) = n - k by omega, ← ih n]; rfl
  have := setAll_prefix l [] (undefs n) (by rw [e1]; exact h)
  simpa [e2] using this
/-- A list as a tree. -/
noncomputable def ofL (l : List AV) : Tm := stAll (mkT l.length l.length) 0 l
theorem ofL_R (l : List AV) : R (ofL l) l := by
  have := stAll_R l _ _ 0 (mkT_R l.length l.length (Nat.le_refl _))
  rw [args_list l l.length (Nat.le_refl _)] at this
  simp only [Nat.sub_self, undefs, List.append_nil] at this
  exact this
/-- The first n places as a list. -/
noncomputable def toL (t : Tm) : Nat → Nat → List AV
  | 0, _ => []
  | n + 1, i => gt t i :: toL t n (Nat.succ i)
theorem toL_drop {τ : Tm} {t : List AV} (h : R τ t) : ∀ (n i : Nat), i + n = t.length → toL τ n i = t.drop i
  | 0, i, hi => by rw [List.drop_of_length_le (by omega)]; rfl
  | n + 1, i, hi => by
    rw [toL, h.get, toL_drop h n (i + 1) (by omega), getL_eq, List.drop_eq_getElem_cons (i := i) (by omega)]
    simp [show i < t.length by omega]
theorem toL_eq {τ : Tm} {t : List AV} (h : R τ t) : toL τ t.length 0 = t := toL_drop h t.length 0 (by omega)

section
variable (P : Program) (T : Table)
noncomputable def resB (P : Program) (t : Tm) (H : List AB) : List ResultVar → Option (List AV × List Bool)
  | [] => some ([], [])
  | .tmp d :: l => match resB P t H l with
    | some (vs, n) => some (gt t d :: vs, n)
    | none => none
  | .cell a ty :: l => match aLoad P ty (gt t a) H, resB P t H l with
    | some (v, m), some (vs, n) => some (v :: vs, m ++ n)
    | _, _ => none
theorem resB_eq {τ : Tm} {t : List AV} (h : R τ t) (H : List AB) : ∀ (l : List ResultVar), resB P τ H l = resV P t H l
  | [] => rfl
  | .tmp d :: l => by unfold resB resV; rw [resB_eq h H l, h.get]; rfl
  | .cell a ty :: l => by unfold resB resV; rw [resB_eq h H l, h.get]; rfl
noncomputable def retB (fn : Func) (K : KF) : KB := fun t H nd =>
  match resB P t H fn.results.toList with
  | some (vs, n) => K (tupV vs) H (n ++ nd)
  | none => .fail
/-- Like 'runF'. -/
noncomputable def bRunF (n : Nat) : Table := fun f args H nd K =>
  match P.funcs[f]? with
  | some fn => match fn.body with
    | some c => match Nat.ble args.length fn.ntmps with
      | true => bRun P T n [.code c] (stAll (mkT fn.ntmps fn.ntmps) 0 args) H nd (retB P fn K)
      | false => .fail
    | none => .fail
  | none => .fail
end
theorem bRunF_sound {P : Program} {T : Table} (hT : SoundT P T) (n : Nat) : SoundT P (bRunF P T n) := by
  intro f args H nd K
  unfold bRunF
  split
  case h_2 => exact .inl rfl
  rename_i fn hf
  split
  case h_2 => exact .inl rfl
  rename_i c hc
  split
  case h_2 => exact .inl rfl
  rename_i hle
  have hle := Nat.le_of_ble_eq_true hle
  have hR := stAll_R args _ _ 0 (mkT_R fn.ntmps fn.ntmps (Nat.le_refl _))
  rw [args_list args fn.ntmps hle] at hR
  have hK : KR (retB P fn K) (retK P fn K) := fun τ t H nd h => by
    unfold retB retK
    rw [resB_eq P h]
    rfl
  have := runF_sound hT n f args H nd K
  unfold runF at this
  rw [hf] at this
  simp only [hc] at this
  rw [bRun_eq hK n _ _ _ H nd hR]
  exact this

/-- Like 'deep'. -/
noncomputable def bdeep (P : Program) (l : List (FuncId × Table)) (inl : List FuncId) (n : Nat) : Nat → Table
  | 0 => noT
  | d + 1 => look l fun f args H nd K => match inl.any (Nat.beq f) with
    | true => bRunF P (bdeep P l inl n d) n f args H nd K
    | false => quiet (bRunF P (bdeep P l inl n d) n) f args H nd K
theorem bdeep_sound {P : Program} {l : List (FuncId × Table)} {inl : List FuncId} {n : Nat} (h : ∀ p ∈ l, SoundAt P p.1 p.2) : ∀ d, SoundT P (bdeep P l inl n d)
  | 0 => noT_sound P
  | d + 1 => look_sound (fun f args H nd K => by
      have ih := bRunF_sound (bdeep_sound (inl := inl) (n := n) h d) n
      split
      · exact ih f args H nd K
      · exact quiet_sound ih f args H nd K) h
noncomputable def lenT (t : Tm) : Nat := Tm.rec (motive := fun _ => Nat) 0 (fun _ _ _ a b => Nat.succ (Nat.add a b)) t
theorem lenT_eq : ∀ (τ : Tm) (n : Nat), (∀ k, hasT τ k = decide (k < n)) → lenT τ = n
  | .nil, n, h => by
    have h0 := h 0
    have h1 : hasT .nil 0 = false := rfl
    rw [h1] at h0
    show 0 = n
    simp at h0; omega
  | .node v l r, n, h => by
    have h0 := h 0
    have h1 : hasT (.node v l r) 0 = true := rfl
    rw [h1] at h0
    simp at h0
    have hl := lenT_eq l (n / 2) fun k => by
      have e : Nat.mod (2 * k) 2 = 0 := by show 2 * k % 2 = 0; omega
      have := h (2 * k + 1)
      rw [has_even e, show 2 * k / 2 = k by omega] at this
      rw [this]
      have : (2 * k + 1 < n) ↔ k < n / 2 := by omega
      simp [this]
    have hr := lenT_eq r ((n - 1) / 2) fun k => by
      have e : Nat.mod (2 * k + 1) 2 = 1 := by show (2 * k + 1) % 2 = 1; omega
      have := h (2 * k + 1 + 1)
      rw [has_odd e, show (2 * k + 1) / 2 = k by omega] at this
      rw [this]
      have : (2 * k + 1 + 1 < n) ↔ k < (n - 1) / 2 := by omega
      simp [this]
    show lenT l + lenT r + 1 = n
    omega
theorem R.len {τ : Tm} {t : List AV} (h : R τ t) : lenT τ = t.length := lenT_eq τ _ h.has
noncomputable def listT (t : Tm) : List AV := toL t (lenT t) 0
theorem R.list {τ : Tm} {t : List AV} (h : R τ t) : listT τ = t := by
  unfold listT; rw [h.len]; exact toL_eq h
/-- Like 'toLoop', to any place. -/
noncomputable def upto (P : Program) (T : Table) (stop : List Item → Bool) (n : Nat) (todo : List Item) (t : List AV) (H : List AB) : Res :=
  bRunS P T stop n todo (ofL t) H [] (fun τ H nd => .ret (.tup (listT τ)) H nd) (fun todo τ H nd => .stop todo (listT τ) H nd)
theorem upto_eq {P : Program} {T : Table} {stop : List Item → Bool} (n : Nat) (todo : List Item) (t : List AV) (H : List AB) :
    upto P T stop n todo t H = runS P T stop n todo t H [] (fun t H nd => .ret (.tup t) H nd) (fun todo t H nd => .stop todo t H nd) :=
  bRunS_eq (fun τ t H nd h => by rw [h.list]) (fun k τ t H nd h => by rw [h.list]) n todo _ t H [] (ofL_R t)
theorem upto_reach {P : Program} {T : Table} {stop : List Item → Bool} {n : Nat} {todo todo' : List Item} {t t' : List AV} {H H' : List AB} {nd : List Bool} (hT : SoundT P T) (h : (upto P T stop n todo t H).sel = .stop todo' t' H' nd) (hn : allT nd = true) : Reach P todo t H todo' t' H' := by
  rw [upto_eq] at h
  rcases runS_sound (stop := stop) hT (fun t H nd => .ret (.tup t) H nd) (fun todo t H nd => .stop todo t H nd) n todo t H [] with h1 | ⟨t1, H1, nd1, h1, h2⟩ | ⟨todo1, t1, H1, nd1, h1, h2⟩
  · rw [h] at h1; cases h1
  · rw [h] at h1; cases h1
  · rw [h] at h1; cases h1
    exact (h2 hn).2
theorem upto_ends {P : Program} {T : Table} {stop : List Item → Bool} {n : Nat} {todo : List Item} {t t' : List AV} {H H' : List AB} {nd : List Bool} (hT : SoundT P T) (h : (upto P T stop n todo t H).sel = .ret (.tup t') H' nd) (hn : allT nd = true) : Ends P todo t H t' H' := by
  rw [upto_eq] at h
  rcases runS_sound (stop := stop) hT (fun t H nd => .ret (.tup t) H nd) (fun todo t H nd => .stop todo t H nd) n todo t H [] with h1 | ⟨t1, H1, nd1, h1, h2⟩ | ⟨todo1, t1, H1, nd1, h1, h2⟩
  · rw [h] at h1; cases h1
  · rw [h] at h1; cases h1
    exact (h2 hn).2
  · rw [h] at h1; cases h1
end Go.Ax
