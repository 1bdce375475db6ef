/- Code run up to a place, and what a call comes to out of such parts. -/
import Derived.Test.YtdcjjibekhcplaaGreatAac
import Derived.Test.YtdcjjibekhcplaaGreatProg
import Derived.KernelRfl
namespace Go.Ax
open Go

section
variable (P : Program) (T : Table) (stop : List Item → Bool)
/-- Like 'run', but it stops where 'stop' says so (not at its start): what is still to be done is told. -/
def runS : Nat → List Item → List AV → List AB → List Bool → KT → (List Item → KT) → Res
  | 0, _, _, _, _, _, _ => .fail
  | n + 1, todo, t, H, nd, KE, KS =>
    let next : List Item → List AV → List AB → List Bool → Res := fun k t H nd => match stop k with
      | true => KS k t H nd
      | false => runS n k t H nd KE KS
    match todo with
    | [] => KE t H nd
    | .inBlock _ :: k => next k t H nd
    | .inLoop c :: k => next (.code c :: .inLoop c :: k) t H nd
    | .code c :: k =>
      match c with
      | .skip => next k t H nd
      | .label _ => next k t H nd
      | .ret => KE t H nd
      | .seq a b => next (.code a :: .code b :: k) t H nd
      | .cond c a b =>
        match okOpd c, evA t c with
        | true, .b l x => match l with
          | true => match x with
            | true => next (.code a :: k) t H nd
            | false => next (.code b :: k) t H nd
          | false => .ite x (next (.code a :: k) t H nd) (next (.code b :: k) t H nd)
        | _, _ => .fail
      | .block id c => next (.code c :: .inBlock id :: k) t H nd
      | .loop c => next (.code c :: .inLoop c :: k) t H nd
      | .exit id => match exitTo id k with
        | some k' => next k' t H nd
        | none => .fail
      | .region _ ops draw => runRegion P T ops draw t H nd fun t H nd => next k t H nd
      | _ => .fail
    | _ => .fail
end

section
variable {P : Program} {T : Table} {stop : List Item → Bool}

/-- From a place to a place. -/
def Reach (P : Program) (todo : List Item) (t : List AV) (H : List AB) (todo' : List Item) (t' : List AV) (H' : List AB) : Prop :=
  ∀ (σ : List (Nat × Nat)) (w : World) (a : Act) (b : Frame) (cs : List Frame), Sim σ H w → RelL σ t a.tmps.toList → ∃ a' w' σ', Steps P (lone (b.at a todo) cs w) (lone (b.at a' todo') cs w') ∧
    RelL σ' t' a'.tmps.toList ∧ a'.defers = a.defers ∧ Sim σ' H' w' ∧ Fr σ H w σ' H' w'
theorem Reach.refl (todo : List Item) (t : List AV) (H : List AB) : Reach P todo t H todo t H := fun σ w a _ _ s r =>
  ⟨a, w, σ, .refl _ _, r, rfl, s, Fr.refl _ _ _⟩
theorem Reach.trans {todo todo1 todo' : List Item} {t t1 t' : List AV} {H H1 H' : List AB} (h : Reach P todo t H todo1 t1 H1) (k : Reach P todo1 t1 H1 todo' t' H') : Reach P todo t H todo' t' H' := fun σ w a b cs s r =>
  let ⟨a1, w1, σ1, e1, r1, d1, s1, f1⟩ := h σ w a b cs s r
  let ⟨a', w', σ', e', r', d', s', f'⟩ := k σ1 w1 a1 b cs s1 r1
  ⟨a', w', σ', e1.trans e', r', d'.trans d1, s', f1.trans f'⟩
theorem Reach.ends {todo todo1 : List Item} {t t1 t' : List AV} {H H1 H' : List AB} (h : Reach P todo t H todo1 t1 H1) (k : Ends P todo1 t1 H1 t' H') : Ends P todo t H t' H' := fun σ w a b cs s r =>
  let ⟨a1, w1, σ1, e1, r1, d1, s1, f1⟩ := h σ w a b cs s r
  let ⟨a', w', σ', todo', e', r', d', s', f'⟩ := k σ1 w1 a1 b cs s1 r1
  ⟨a', w', σ', todo', e1.trans e', r', d'.trans d1, s', f1.trans f'⟩
theorem Reach.head {todo todo1 todo' : List Item} {t t' : List AV} {H H' : List AB} (h : Reach P todo1 t H todo' t' H')
    (hs : ∀ (w : World) (a : Act) (b : Frame) (cs : List Frame), step P (lone (b.at a todo) cs w) = .next (lone (b.at a todo1) cs w)) : Reach P todo t H todo' t' H' := fun σ w a b cs s r =>
  let ⟨a', w', σ', h1, h2⟩ := h σ w a b cs s r; ⟨a', w', σ', .head (hs w a b cs) h1, h2⟩
theorem Reach.weak {todo todo' : List Item} {t t1 t' : List AV} {H H' : List AB} (h : Reach P todo t H todo' t1 H') (e : Eqv t1 t') : Reach P todo t H todo' t' H' := fun σ w a b cs s r =>
  let ⟨a', w', σ', h1, h2, h3⟩ := h σ w a b cs s r; ⟨a', w', σ', h1, e.relL h2, h3⟩
theorem Ends.strong {todo : List Item} {t t1 t' : List AV} {H H' : List AB} (h : Ends P todo t1 H t' H') (e : Eqv t t1) : Ends P todo t H t' H' := fun σ w a b cs s r => h σ w a b cs s (e.relL r)
theorem Reach.strong {todo todo' : List Item} {t t1 t' : List AV} {H H' : List AB} (h : Reach P todo t1 H todo' t' H') (e : Eqv t t1) : Reach P todo t H todo' t' H' := fun σ w a b cs s r => h σ w a b cs s (e.relL r)

theorem runS_sound (hT : SoundT P T) (KE : KT) (KS : List Item → KT) : ∀ (n : Nat) (todo : List Item) (t : List AV) (H : List AB) (nd : List Bool), (runS P T stop n todo t H nd KE KS).sel = .fail ∨
    (∃ t' H' nd', (runS P T stop n todo t H nd KE KS).sel = (KE t' H' nd').sel ∧ (allT nd' = true → allT nd = true ∧ Ends P todo t H t' H')) ∨
    (∃ todo' t' H' nd', (runS P T stop n todo t H nd KE KS).sel = (KS todo' t' H' nd').sel ∧ (allT nd' = true → allT nd = true ∧ Reach P todo t H todo' t' H'))
  | 0, _, _, _, _ => .inl rfl
  | n + 1, todo, t, H, nd => by
    have nxt : ∀ (k : List Item) (t : List AV) (H : List AB) (nd : List Bool),
        ((match stop k with
          | true => KS k t H nd
          | false => runS P T stop n k t H nd KE KS).sel = .fail ∨
        (∃ t' H' nd', (match stop k with
          | true => KS k t H nd
          | false => runS P T stop n k t H nd KE KS).sel = (KE t' H' nd').sel ∧ (allT nd' = true → allT nd = true ∧ Ends P k t H t' H')) ∨
        (∃ todo' t' H' nd', (match stop k with
          | true => KS k t H nd
          | false => runS P T stop n k t H nd KE KS).sel = (KS todo' t' H' nd').sel ∧ (allT nd' = true → allT nd = true ∧ Reach P k t H todo' t' H'))) := fun k t H nd => by
      cases stop k with
      | true => exact .inr (.inr ⟨k, t, H, nd, rfl, fun h => ⟨h, .refl k t H⟩⟩)
      | false => exact runS_sound hT KE KS n k t H nd
    have one : ∀ (k : List Item), (∀ (w : World) (a : Act) (b : Frame) (cs : List Frame), RelL [] [] [] → step P (lone (b.at a todo) cs w) = .next (lone (b.at a k) cs w)) →
        ((match stop k with
          | true => KS k t H nd
          | false => runS P T stop n k t H nd KE KS).sel = .fail ∨
        (∃ t' H' nd', (match stop k with
          | true => KS k t H nd
          | false => runS P T stop n k t H nd KE KS).sel = (KE t' H' nd').sel ∧ (allT nd' = true → allT nd = true ∧ Ends P todo t H t' H')) ∨
        (∃ todo' t' H' nd', (match stop k with
          | true => KS k t H nd
          | false => runS P T stop n k t H nd KE KS).sel = (KS todo' t' H' nd').sel ∧ (allT nd' = true → allT nd = true ∧ Reach P todo t H todo' t' H'))) := fun k hs => by
      rcases nxt k t H nd with h | ⟨t', H', nd', h1, h2⟩ | ⟨todo', t', H', nd', h1, h2⟩
      · exact .inl h
      · exact .inr (.inl ⟨t', H', nd', h1, fun hn => ⟨(h2 hn).1, (h2 hn).2.head fun w a b cs => hs w a b cs .nil⟩⟩)
      · exact .inr (.inr ⟨todo', t', H', nd', h1, fun hn => ⟨(h2 hn).1, (h2 hn).2.head fun w a b cs => hs w a b cs .nil⟩⟩)
    unfold runS
    split
    · exact .inr (.inl ⟨t, H, nd, rfl, fun hn => ⟨hn, fun σ w a b cs s r => ⟨a, w, σ, [], .one step_end, r, rfl, s, Fr.refl _ _ _⟩⟩⟩)
    · exact one _ fun _ _ _ _ _ => step_inBlock
    · exact one _ fun _ _ _ _ _ => step_inLoop
    · split
      · exact one _ fun _ _ _ _ _ => step_skip
      · exact one _ fun _ _ _ _ _ => step_label
      · exact .inr (.inl ⟨t, H, nd, rfl, fun hn => ⟨hn, fun σ w a b cs s r => ⟨a, w, σ, _, .one step_ret, r, rfl, s, Fr.refl _ _ _⟩⟩⟩)
      · exact one _ fun _ _ _ _ _ => step_seq
      · rename_i k _ c x y
        split
        · rename_i l v hok hv
          have hc : ∀ {σ : List (Nat × Nat)} {a : Act}, RelL σ t a.tmps.toList → a.eval c = .bool v := fun {σ a} r => by
            have := evA_rel r hok
            rw [hv] at this
            cases hx : a.eval c <;> rw [hx] at this <;> cases this
            rfl
          have two : ∀ z : Code, z = (if v then x else y) → ((match stop (.code z :: k) with
              | true => KS (.code z :: k) t H nd
              | false => runS P T stop n (.code z :: k) t H nd KE KS).sel = .fail ∨
            (∃ t' H' nd', (match stop (.code z :: k) with
              | true => KS (.code z :: k) t H nd
              | false => runS P T stop n (.code z :: k) t H nd KE KS).sel = (KE t' H' nd').sel ∧ (allT nd' = true → allT nd = true ∧ Ends P (.code (.cond c x y) :: k) t H t' H')) ∨
            (∃ todo' t' H' nd', (match stop (.code z :: k) with
              | true => KS (.code z :: k) t H nd
              | false => runS P T stop n (.code z :: k) t H nd KE KS).sel = (KS todo' t' H' nd').sel ∧ (allT nd' = true → allT nd = true ∧ Reach P (.code (.cond c x y) :: k) t H todo' t' H'))) := fun z hz => by
            subst hz
            rcases nxt (.code (if v then x else y) :: k) t H nd with h | ⟨t', H', nd', h1, h2⟩ | ⟨todo', t', H', nd', h1, h2⟩
            · exact .inl h
            · refine .inr (.inl ⟨t', H', nd', h1, fun hn => ⟨(h2 hn).1, fun σ w a b cs s r => ?_⟩⟩)
              obtain ⟨a', w', σ', todo', h3, h4⟩ := (h2 hn).2 σ w a b cs s r
              exact ⟨a', w', σ', todo', .head (step_cond (hc r)) h3, h4⟩
            · refine .inr (.inr ⟨todo', t', H', nd', h1, fun hn => ⟨(h2 hn).1, fun σ w a b cs s r => ?_⟩⟩)
              obtain ⟨a', w', σ', h3, h4⟩ := (h2 hn).2 σ w a b cs s r
              exact ⟨a', w', σ', .head (step_cond (hc r)) h3, h4⟩
          cases l with
          | true => cases v with
            | true => exact two _ rfl
            | false => exact two _ rfl
          | false => cases v with
            | true => exact two _ rfl
            | false => exact two _ rfl
        · exact .inl rfl
      · exact one _ fun _ _ _ _ _ => step_block
      · exact one _ fun _ _ _ _ _ => step_loop
      · split
        · rename_i k' hk
          exact one _ fun _ _ _ _ _ => step_exit hk
        · exact .inl rfl
      · rename_i k _ id ops draw
        rcases runRegion_sound (ops := ops) (H := H) hT id draw t nd (fun t H nd => match stop k with
          | true => KS k t H nd
          | false => runS P T stop n k t H nd KE KS) with h | ⟨t1, H1, nd1, h1, h2⟩
        · exact .inl h
        have reg : ∀ (hn : allT nd1 = true), allT nd = true ∧ Reach P (.code (.region id ops draw) :: k) t H k t1 H1 := fun hn => by
          obtain ⟨h7, h8⟩ := h2 hn
          refine ⟨h7, fun σ w a b cs s r => ?_⟩
          obtain ⟨e, a1, w1, ⟨he, σ1, r1, d1, s1, f1⟩, harr⟩ := h8 σ w a (fun e a1 w1 => e = .normal ∧ ∃ σ1, RelL σ1 t1 a1.tmps.toList ∧ a1.defers = a.defers ∧ Sim σ1 H1 w1 ∧ Fr σ H w σ1 H1 w1) s r
            (fun a1 w1 σ1 r1 d1 s1 f1 => ⟨rfl, σ1, r1, d1, s1, f1⟩) b k cs
          subst he
          exact ⟨a1, w1, σ1, harr, r1, d1, s1, f1⟩
        rw [h1]
        rcases nxt k t1 H1 nd1 with h | ⟨t', H', nd', h3, h4⟩ | ⟨todo', t', H', nd', h3, h4⟩
        · exact .inl h
        · refine .inr (.inl ⟨t', H', nd', h3, fun hn => ?_⟩)
          obtain ⟨h5, h6⟩ := h4 hn
          exact ⟨(reg h5).1, (reg h5).2.ends h6⟩
        · refine .inr (.inr ⟨todo', t', H', nd', h3, fun hn => ?_⟩)
          obtain ⟨h5, h6⟩ := h4 hn
          exact ⟨(reg h5).1, (reg h5).2.trans h6⟩
      · exact .inl rfl
    · exact .inl rfl

/-- A call out of its ends. -/
theorem call_of_ends {f : FuncId} {fn : Func} {c : Code} {args vs t' : List AV} {H H' : List AB} {m : List Bool} (hf : P.funcs[f]? = some fn) (hb : fn.body = some c)
    (h : Ends P [.code c] (args ++ undefs (fn.ntmps - args.length)) H t' H') (hres : resV P t' H' fn.results.toList = some (vs, m)) (hm : allT m = true) : CallOK P f args H (tupV vs) H' := fun σ w rargs s hra cs => by
  let b : Frame := { (default : Frame) with fn := f, kind := .normal }
  have henter : Frame.enter P f rargs .normal =
      b.at { tmps := rargs ++ Array.replicate (fn.ntmps - rargs.size) undef, defers := [] } [.code c] := by
    simp [Frame.enter, Frame.at, hf, hb, b]
  have hlen : args.length = rargs.size := by have := hra.length; simpa using this
  obtain ⟨a', w', σ', todo', h3, h4, h5, h6, h7⟩ := h σ w { tmps := rargs ++ Array.replicate (fn.ntmps - rargs.size) undef, defers := [] } b cs s (by
    simp only [Array.toList_append, Array.toList_replicate]
    rw [hlen]
    exact hra.append (undefs_rel σ _))
  obtain ⟨rvs, h8, h9⟩ := resV_run (P := P) h6 h4 _ _ _ hres hm
  have hr : (results fn a'.tmps).run P w' = .ok (if h : rvs.toArray.size = 1 then rvs.toArray[0] else .tuple rvs.toArray) w' := by
    rw [results_eq, Array.mapM_eq_mapM_toList]
    simp only [Sem.run_bind, Sem.run_map, h8, Result.andThen_ok, Sem.run_pure]
  refine ⟨.returned _, w', _, ⟨_, rfl, σ', ?_, h6, h7⟩, by rw [henter]; exact h3, rfl, rfl, h5, rfl, fn, hf, hr⟩
  cases h9 with
  | nil => exact .tup .nil
  | cons h hs => cases hs with
    | nil => exact h
    | cons h' hs' => exact .tup (.cons h (.cons h' hs'))

/-! ### Calls without memory -/
theorem CallOK.lift {f : FuncId} {args : List AV} {v : AV} {H0 H' : List AB} (h : CallOK P f args [] v H0) (hv : below 0 v = true) (ha : belowL 0 args = true) (H : List AB) (hH : H' = H) : CallOK P f args H v H' := fun σ w rargs s hra => by
  subst hH
  have e0 : Ext [] σ := fun i b hb => by simp at hb
  have s0 : Sim [] [] w := ⟨rfl, fun i b z hb => by simp at hb, fun i j b z z' hi => by simp at hi⟩
  refine (h [] w rargs s0 (belowL_rel e0 rfl ha hra)).mono ?_
  rintro e w' ⟨rv, rfl, σ', r1, s1, f1⟩
  refine ⟨rv, rfl, σ, (below_rel f1.ext rfl hv r1).mono e0, ?_⟩
  have f2 : Fr σ (roH H') w (σ ++ []) (roH H') w' := ⟨f1.os, f1.tape, f1.output, f1.size, fun b hb _ => f1.old b hb fun i z hr => by simp [getB, AB.rw] at hr, by rw [List.append_nil]; exact Ext.refl σ,
    fun i b z h h' => (by rw [List.append_nil, h'] at h; cases h), fun i _ h => h⟩
  exact s.ro_back f2

/-- A call by one evaluation without memory. -/
theorem call_of_join {f : FuncId} {args : List AV} {v : AV} {nd : List Bool} (hT : SoundT P T) (h : joinR 0 (T f args [] [] fun v H nd => .ret v H nd) = some (v, nd)) (hn : allT nd = true) (ha : belowL 0 args = true) (H : List AB) :
    CallOK P f args H v H := by
  obtain ⟨v1, H1, nd1, e1, e2, e3, e4⟩ := joinR_spec h hn
  rcases hT f args [] [] (fun v H nd => .ret v H nd) with h | ⟨v2, H2, nd2, h1, h2⟩
  · rw [h] at e1; cases e1
  · rw [e1] at h1
    cases h1
    refine fun σ w rargs s hra => ?_
    refine (((h2 e2).2.lift e3 ha H rfl) σ w rargs s hra).mono ?_
    rintro e w' ⟨rv, rfl, σ', r1, s1, f1⟩
    exact ⟨rv, rfl, σ', e4 σ' rv r1, s1, f1⟩

/-- A table of what is known of one function: the value out of the arguments, and what is asked. -/
def pureT (g : List AV → Option (AV × List Bool)) : Table := fun _ args H nd K =>
  match g args with
  | some (v, n) => K v H (n ++ nd)
  | none => .fail
theorem pureT_sound {g : List AV → Option (AV × List Bool)} {f : FuncId} (h : ∀ args v n, g args = some (v, n) → allT n = true → ∀ H, CallOK P f args H v H) (args : List AV) (H : List AB) (nd : List Bool) (K : KF) :
    (pureT g f args H nd K).sel = .fail ∨ ∃ v H' nd', (pureT g f args H nd K).sel = (K v H' nd').sel ∧ (allT nd' = true → allT nd = true ∧ CallOK P f args H v H') := by
  unfold pureT
  cases hg : g args with
  | none => exact .inl rfl
  | some x =>
    obtain ⟨v, n⟩ := x
    refine .inr ⟨v, H, n ++ nd, rfl, fun hn => ?_⟩
    rw [allT_append, Bool.and_eq_true] at hn
    exact ⟨hn.2, h args v n hg hn.1 H⟩
end

/-! ### Tags mean nothing -/
theorem Rel.unbare {σ : List (Nat × Nat)} {a : AV} {v : Value} (h : Rel σ a.bare v) : Rel σ a v := by
  cases a <;> simp only [AV.bare] at h <;> cases h <;> first | exact .b _ | exact .i _ _ | (refine .f ?_; assumption) | (refine .c ?_ ?_ <;> assumption) | exact .s _ | (refine .p ?_; assumption) | (refine .sl ?_ ?_ ?_ <;> assumption) | exact .slz | (constructor <;> assumption)
theorem eqv_of_bare {t t' : List AV} (h : t.map AV.bare = t'.map AV.bare) : Eqv t t' := by
  have hl : t.length = t'.length := by have := congrArg List.length h; simpa using this
  refine ⟨hl, fun σ n v r => ?_⟩
  rcases Nat.lt_or_ge n t.length with hn | hn
  · have h1 := getL_some hn
    have h2 := getL_some (l := t') (n := n) (by omega)
    have h3 : (getL t n).bare = (getL t' n).bare := by
      have := congrArg (·[n]?) h
      simpa [h1, h2] using this
    exact Rel.unbare (h3 ▸ r.bare)
  · rw [getL_none hn] at r
    rw [getL_none (by omega)]; exact r
theorem CallOK.bare {P : Program} {f : FuncId} {args args' : List AV} {v : AV} {H H' : List AB} (h : CallOK P f args H v H') (hb : args'.map AV.bare = args.map AV.bare) : CallOK P f args' H v H' := fun σ w rargs s hra =>
  h σ w rargs s ((eqv_of_bare hb).relL hra)

/-! ### Loops -/
def atLoop : List Item → Bool
  | .code (.loop _) :: _ => true
  | .inLoop _ :: _ => true
  | _ => false
/-- Up to the next loop's head. -/
def toLoop (P : Program) (T : Table) (n : Nat) (todo : List Item) (t : List AV) (H : List AB) : Res :=
  runS P T atLoop n todo t H [] (fun t H nd => .ret (.tup t) H nd) (fun todo t H nd => .stop todo t H nd)
theorem toLoop_reach {P : Program} {T : Table} {n : Nat} {todo todo' : List Item} {t t' : List AV} {H H' : List AB} {nd : List Bool} (hT : SoundT P T) (h : (toLoop P T n todo t H).sel = .stop todo' t' H' nd) (hn : allT nd = true) : Reach P todo t H todo' t' H' := by
  rcases runS_sound (stop := atLoop) hT (fun t H nd => .ret (.tup t) H nd) (fun todo t H nd => .stop todo t H nd) n todo t H [] with h1 | ⟨t1, H1, nd1, h1, h2⟩ | ⟨todo1, t1, H1, nd1, h1, h2⟩
  · unfold toLoop at h; rw [h] at h1; cases h1
  · unfold toLoop at h; rw [h] at h1; cases h1
  · unfold toLoop at h; rw [h] at h1; cases h1
    exact (h2 hn).2
theorem toLoop_ends {P : Program} {T : Table} {n : Nat} {todo : List Item} {t t' : List AV} {H H' : List AB} {nd : List Bool} (hT : SoundT P T) (h : (toLoop P T n todo t H).sel = .ret (.tup t') H' nd) (hn : allT nd = true) : Ends P todo t H t' H' := by
  rcases runS_sound (stop := atLoop) hT (fun t H nd => .ret (.tup t) H nd) (fun todo t H nd => .stop todo t H nd) n todo t H [] with h1 | ⟨t1, H1, nd1, h1, h2⟩ | ⟨todo1, t1, H1, nd1, h1, h2⟩
  · unfold toLoop at h; rw [h] at h1; cases h1
  · unfold toLoop at h; rw [h] at h1; cases h1
    exact (h2 hn).2
  · unfold toLoop at h; rw [h] at h1; cases h1
end Go.Ax

/- Functions that hand out numbers from a source of numbers. -/
namespace Go.Ax
open Go

/-- The text of bytes that numbers follow from: a block's bytes, where the slice begins, how long it is. -/
structure Cd where
  bytes : List Int
  off : Nat
  len : Nat
def goodB (c : Cd) : Bool := decide (c.len ≤ c.bytes.length) && decide (c.len ≤ 4096) && c.bytes.all fun b => decide (0 ≤ b) && decide (b < 256)
def okB (c : Cd) (o n : Nat) : Bool := goodB c && decide (o = c.off) && decide (n = c.len)
def codeB (c : Cd) (_ : Bool) : AB := .code c.off c.bytes
def srcR (o n : Nat) (a : Nat) (h : Int) : AB := .cells true (.lit [.sl false 0 o n 0, .i false .i64 (Int.ofNat a), .i false .u64 h])
def srcB (c : Cd) (a : Nat) (h : Int) : AB := .cells true (.lit [.sl false 0 c.off c.len 0, .i false .i64 (Int.ofNat a), .i false .u64 h])

def readI64 : AV → Option Nat
  | .i _ .i64 (Int.ofNat a) => some a
  | _ => none
def readU64 : AV → Option Int
  | .i _ .u64 h => some h
  | _ => none
def readSl : AV → Option (Nat × Nat)
  | .sl _ id off len z => match decide (id = 0) && decide (z = 0) with
    | true => some (off, len)
    | false => none
  | _ => none
def readSrc3 : List AV → Option (Nat × Nat × Nat × Int)
  | [s, a, h] => match readSl s, readI64 a, readU64 h with
    | some (off, len), some a, some h => some (off, len, a, h)
    | _, _, _ => none
  | _ => none
def readSrc : AB → Option (Nat × Nat × Nat × Int)
  | .cells true (.lit l) => readSrc3 l
  | _ => none
def readCode : AB → Option (Nat × List Int)
  | .code o b => some (o, b)
  | _ => none

theorem readSrc_spec {B : AB} {off len a : Nat} {h : Int} (e : readSrc B = some (off, len, a, h)) : ∃ l1 l2 l3, B = .cells true (.lit [.sl l1 0 off len 0, .i l2 .i64 (Int.ofNat a), .i l3 .u64 h]) := by
  unfold readSrc at e
  split at e <;> (try (cases e; done))
  rename_i l
  unfold readSrc3 at e
  split at e <;> (try (cases e; done))
  rename_i s a' h'
  split at e <;> (try (cases e; done))
  rename_i off' len' a'' h'' h1 h2 h3
  cases e
  have e1 : ∃ l1, s = .sl l1 0 off len 0 := by
    unfold readSl at h1
    split at h1 <;> (try (cases h1; done))
    split at h1 <;> cases h1
    rename_i hh
    simp at hh
    obtain ⟨rfl, rfl⟩ := hh
    exact ⟨_, rfl⟩
  have e2 : ∃ l2, a' = .i l2 .i64 (Int.ofNat a) := by
    unfold readI64 at h2
    split at h2 <;> cases h2
    exact ⟨_, rfl⟩
  have e3 : ∃ l3, h' = .i l3 .u64 h := by
    unfold readU64 at h3
    split at h3 <;> cases h3
    exact ⟨_, rfl⟩
  obtain ⟨l1, rfl⟩ := e1
  obtain ⟨l2, rfl⟩ := e2
  obtain ⟨l3, rfl⟩ := e3
  exact ⟨l1, l2, l3, rfl⟩
theorem readCode_spec {B : AB} {o : Nat} {b : List Int} (e : readCode B = some (o, b)) : B = .code o b := by
  unfold readCode at e
  split at e <;> cases e
  rfl

section
variable {P : Program} {T : Table}
theorem sl_cases {σ : List (Nat × Nat)} {l : Bool} {id off len z : Nat} {v : Value} (h : Rel σ (.sl l id off len z) v) : (len = 0 ∧ z = 0 ∧ ∃ a cap, v = .slice a 0 cap) ∨ ∃ b c cap, σ[id]? = some (b, c) ∧ len ≤ cap ∧ off + cap * z ≤ c ∧ v = .slice (some ⟨b, off, none⟩) len cap := by
  cases h with
  | slz => exact .inl ⟨rfl, rfl, _, _, rfl⟩
  | sl h1 h2 h3 => exact .inr ⟨_, _, _, h1, h2, h3, rfl⟩
theorem slz_of {σ : List (Nat × Nat)} {l : Bool} {id off len z cap : Nat} {a : Option Addr} (h0 : len = 0) (h1 : z = 0) : Rel σ (.sl l id off len z) (.slice a 0 cap) := by
  subst h0; subst h1; exact .slz
theorem src_rel {σ : List (Nat × Nat)} {off len a : Nat} {h : Int} {l1 l2 l3 m1 m2 m3 : Bool} {cs : Array Value} (r : RelA σ [.sl l1 0 off len 0, .i l2 .i64 (Int.ofNat a), .i l3 .u64 h] cs) : RelA σ [.sl m1 0 off len 0, .i m2 .i64 (Int.ofNat a), .i m3 .u64 h] cs := fun j x hx => by
  match j, hx with
  | 0, hx => obtain ⟨v, hv, hr⟩ := r 0 _ rfl; cases hx; cases hr with | sl h1 h2 h3 => exact ⟨_, hv, .sl h1 h2 h3⟩ | slz => exact ⟨_, hv, .slz⟩
  | 1, hx => obtain ⟨v, hv, hr⟩ := r 1 _ rfl; cases hx; cases hr; exact ⟨_, hv, .i _ _⟩
  | 2, hx => obtain ⟨v, hv, hr⟩ := r 2 _ rfl; cases hx; cases hr; exact ⟨_, hv, .i _ _⟩
  | j + 3, hx => simp at hx

/-- What is known of a call with a source, seen from any memory. -/
theorem CallOK.src {f : FuncId} {sc : List AV} {v : AV} {c : Cd} {a a' : Nat} {h h' : Int} {H2 : List AB} (k : CallOK P f (.p true 1 0 :: sc) [codeB c false, srcB c a h] v H2) (hs : readSrc (getB H2 1) = some (c.off, c.len, a', h'))
    (hv : below 0 v = true) (hsc : belowL 0 sc = true) {l : Bool} {id : Nat} {H : List AB} (hc : readCode (getB H 0) = some (c.off, c.bytes)) (h0 : id ≠ 0) (hid : readSrc (getB H id) = some (c.off, c.len, a, h)) :
    CallOK P f (.p l id 0 :: sc) H v (setB H id (srcB c a' h')) := fun σ w rargs s hra => by
  have hc := readCode_spec hc
  obtain ⟨l1, l2, l3, hid⟩ := readSrc_spec hid
  obtain ⟨m1, m2, m3, hs⟩ := readSrc_spec hs
  have hl0 : 0 < H.length := by
    rcases Nat.eq_zero_or_pos H.length with h | h
    · rw [getB_none (by omega)] at hc; cases hc
    · exact h
  have hlid : id < H.length := by
    rcases Nat.lt_or_ge id H.length with h | h
    · exact h
    · rw [getB_none h] at hid; cases hid
  obtain ⟨⟨b0, z0⟩, hσ0⟩ : ∃ b, σ[0]? = some b := ⟨_, List.getElem?_eq_getElem (by rw [s.len]; exact hl0)⟩
  obtain ⟨⟨b1, z1⟩, hσ1⟩ : ∃ b, σ[id]? = some b := ⟨_, List.getElem?_eq_getElem (by rw [s.len]; exact hlid)⟩
  have hne : b1 ≠ b0 := fun e => h0 (s.inj id 0 b0 z1 z0 (by rw [← e]; exact hσ1) hσ0 (by rw [hid]; rfl) (by rw [hc]; rfl))
  have hb0 := s.blk 0 b0 z0 hσ0
  have hb1 := s.blk id b1 z1 hσ1
  rw [hc] at hb0
  rw [hid] at hb1
  obtain ⟨c1, e1, f1, q1, q2, q3, q4⟩ := hb1
  have hx0 : ∀ v', Rel σ (.sl l1 0 c.off c.len 0) v' → Rel [(b0, z0), (b1, z1)] (.sl false 0 c.off c.len 0) v' := fun v' hr => by
    rcases sl_cases hr with ⟨g1, g2, _, _, rfl⟩ | ⟨_, _, _, g1, g2, g3, rfl⟩
    · exact slz_of g1 g2
    rw [hσ0] at g1; cases g1
    exact .sl (by rfl) g2 g3
  have s2 : Sim [(b0, z0), (b1, z1)] [codeB c false, srcB c a h] w := by
    refine ⟨rfl, fun i b z hb => ?_, fun i j b z z' hi hj hr hl => ?_⟩
    · match i, hb with
      | 0, hb =>
        cases hb
        exact hb0
      | 1, hb =>
        cases hb
        refine ⟨c1, e1, f1, q1, fun j x hx => ?_, q3, q4⟩
        match j, hx with
        | 0, hx => obtain ⟨v', hv', hr'⟩ := q2 0 _ rfl; cases hx; exact ⟨v', hv', hx0 v' hr'⟩
        | 1, hx => obtain ⟨v', hv', hr'⟩ := q2 1 _ rfl; cases hx; cases hr'; exact ⟨_, hv', .i _ _⟩
        | 2, hx => obtain ⟨v', hv', hr'⟩ := q2 2 _ rfl; cases hx; cases hr'; exact ⟨_, hv', .i _ _⟩
        | j + 3, hx => simp [Cells.toL] at hx
      | i + 2, hb => simp at hb
    · match i, j, hi, hj with
      | 0, 0, hi, hj => rfl
      | 1, 1, hi, hj => rfl
      | 0, 1, hi, hj => cases hi; cases hj; exact absurd rfl hne
      | 1, 0, hi, hj => cases hi; cases hj; exact absurd rfl hne
      | i + 2, _, hi, _ => simp at hi
      | _, j + 2, _, hj => simp at hj
  have hσe : ∀ {x : AV} {y : Value}, below 0 x = true → Rel σ x y → Rel [] x y := fun {x y} hx hr => below_rel (τ := σ) (fun i b hb => by simp at hb) rfl hx hr
  have hσL : ∀ {x : List AV} {y : List Value}, belowL 0 x = true → RelL σ x y → RelL [] x y := fun {x y} hx hr => belowL_rel (τ := σ) (fun i b hb => by simp at hb) rfl hx hr
  generalize hal : rargs.toList = ral at hra
  cases hra with | @cons _ pv _ rsc hp hrs =>
  cases hp with | @p _ _ _ bb cc hpp =>
  rw [hσ1] at hpp
  cases hpp
  have hE : ∀ τ : List (Nat × Nat), Ext [] τ := fun τ i b hb => by simp at hb
  have hra2 : RelL [(b0, z0), (b1, z1)] (.p true 1 0 :: sc) rargs.toList := by
    rw [hal]
    exact .cons (.p (by rfl)) (RelL.mono (hE _) (hσL hsc hrs))
  refine (k _ w rargs s2 hra2).mono ?_
  rintro e w' ⟨rv, rfl, σ', r1, s1, F⟩
  have hold : ∀ b, b < w.heap.size → b ≠ b1 → w'.heap[b]? = w.heap[b]? := fun b hb hbn => F.old b hb fun i z hrw hi => by
    match i, hi with
    | 0, _ => simp [getB, codeB, AB.rw] at hrw
    | 1, hi => cases hi; exact hbn rfl
    | i + 2, hi => simp at hi
  have hσ'0 : σ'[0]? = some (b0, z0) := F.ext 0 _ rfl
  have hσ'1 : σ'[1]? = some (b1, z1) := F.ext 1 _ rfl
  have hn1 := s1.blk 1 b1 z1 hσ'1
  rw [hs] at hn1
  obtain ⟨c2, e2, f2, t1, t2, t3, t4⟩ := hn1
  refine ⟨rv, rfl, σ, ?_, ?_, ?_⟩
  · exact (below_rel (σ := []) (τ := σ') (hE _) rfl hv r1).mono (hE _)
  · refine ⟨by rw [setB_length]; exact s.len, fun i b z hb => ?_, fun i j b z z' hi hj hr hl => ?_⟩
    · by_cases hii : id = i
      · subst hii
        rw [hσ1] at hb; cases hb
        rw [getB_setB_same hlid]
        refine ⟨c2, e2, f2, t1, fun j x hx => ?_, t3, t4⟩
        match j, hx with
        | 0, hx =>
          obtain ⟨v', hv', hr'⟩ := t2 0 _ rfl
          cases hx
          rcases sl_cases hr' with ⟨g1, g2, _, _, rfl⟩ | ⟨_, _, _, g1, g2, g3, rfl⟩
          · exact ⟨_, hv', slz_of g1 g2⟩
          rw [hσ'0] at g1; cases g1
          exact ⟨_, hv', .sl hσ0 g2 g3⟩
        | 1, hx => obtain ⟨v', hv', hr'⟩ := t2 1 _ rfl; cases hx; cases hr'; exact ⟨_, hv', .i _ _⟩
        | 2, hx => obtain ⟨v', hv', hr'⟩ := t2 2 _ rfl; cases hx; cases hr'; exact ⟨_, hv', .i _ _⟩
        | j + 3, hx => simp [Cells.toL] at hx
      · rw [getB_setB_ne hii]
        have hbi := s.blk i b z hb
        cases hg : getB H i with
        | dead => trivial
        | cells r2 A =>
          rw [hg] at hbi
          have hlt := s.lt hb (by rw [hg]; rfl)
          have hbn : b ≠ b1 := fun e => hii (s.inj id i b z1 z (by rw [e]; exact hσ1) hb (by rw [hid]; rfl) (by rw [hg]; rfl))
          rw [hold b hlt hbn]; exact hbi
        | code o0 xs0 =>
          rw [hg] at hbi
          have hlt := s.lt hb (by rw [hg]; rfl)
          have hbn : b ≠ b1 := fun e => hii (s.inj id i b z1 z (by rw [e]; exact hσ1) hb (by rw [hid]; rfl) (by rw [hg]; rfl))
          rw [hold b hlt hbn]; exact hbi
    · have key : ∀ k, (getB (setB H id (srcB c a' h')) k).rw = (getB H k).rw ∧ (getB (setB H id (srcB c a' h')) k).live = (getB H k).live := fun k => by
        by_cases hik : id = k
        · subst hik; rw [getB_setB_same hlid, hid]; exact ⟨rfl, rfl⟩
        · rw [getB_setB_ne hik]; exact ⟨rfl, rfl⟩
      rw [(key i).1] at hr
      rw [(key j).2] at hl
      exact s.inj i j b z z' hi hj hr hl
  · refine ⟨F.os, F.tape, F.output, F.size, fun b hb hno => hold b hb fun e => hno id z1 (by rw [hid]; rfl) (by rw [e]; exact hσ1), Ext.refl σ, fun i b z h h' => (by rw [h'] at h; cases h), fun i hi hr => ?_⟩
    by_cases hii : id = i
    · subst hii; rw [hid]; rfl
    · rwa [getB_setB_ne hii] at hr

/-- A table of one function with a source: value and next state out of code, state and the other arguments; 'q' is what is asked of the other arguments. -/
def srcT (g : Cd → Nat → Int → List AV → Option (AV × Nat × Int × List Bool)) : Table := fun _ args H nd K =>
  match args with
  | .p _ id off :: sc =>
    match readCode (getB H 0), readSrc (getB H id), decide (off = 0) && !decide (id = 0) with
    | some (o', b), some (o, n, a, h), true => match g ⟨b, o', n⟩ a h sc with
      | some (v, a', h', q) => K v (setB H id (srcR o n a' h')) (okB ⟨b, o', n⟩ o n :: (q ++ nd))
      | none => .fail
    | _, _, _ => .fail
  | _ => .fail
/-- What a call with a source must be. -/
def SrcOK (P : Program) (f : FuncId) (sc : List AV) (c : Cd) (a : Nat) (h : Int) (v : AV) (a' : Nat) (h' : Int) : Prop :=
  ∃ H2, CallOK P f (.p true 1 0 :: sc) [codeB c false, srcB c a h] v H2 ∧ readSrc (getB H2 1) = some (c.off, c.len, a', h') ∧ below 0 v = true ∧ belowL 0 sc = true
theorem srcT_sound {g : Cd → Nat → Int → List AV → Option (AV × Nat × Int × List Bool)} {f : FuncId} (hg : ∀ c a h sc v a' h' q, goodB c = true → g c a h sc = some (v, a', h', q) → allT q = true → SrcOK P f sc c a h v a' h')
    (args : List AV) (H : List AB) (nd : List Bool) (K : KF) : (srcT g f args H nd K).sel = .fail ∨ ∃ v H' nd', (srcT g f args H nd K).sel = (K v H' nd').sel ∧ (allT nd' = true → allT nd = true ∧ CallOK P f args H v H') := by
  unfold srcT
  split
  case h_2 => exact .inl rfl
  rename_i l id off sc
  split
  case h_2 => exact .inl rfl
  rename_i o' b o n a h hc hs h0
  cases hgc : g ⟨b, o', n⟩ a h sc with
  | none => exact .inl rfl
  | some x =>
    obtain ⟨v, a', h', q⟩ := x
    refine .inr ⟨_, _, _, rfl, fun hn => ?_⟩
    simp only [allT, allT_append, Bool.and_eq_true, okB] at hn
    obtain ⟨⟨⟨hgood, ho⟩, _⟩, hq, hnd⟩ := hn
    have ho : o = o' := of_decide_eq_true ho
    subst ho
    simp only [Bool.and_eq_true, decide_eq_true_eq, Bool.not_eq_true', decide_eq_false_iff_not] at h0
    obtain ⟨rfl, h0⟩ := h0
    obtain ⟨H2, k, e1, e2, e3⟩ := hg _ _ _ _ _ _ _ _ hgood hgc hq
    exact ⟨hnd, k.src e1 e2 e3 hc h0 hs⟩

/-! ### Joined -/
theorem call_of_sel {f : FuncId} {args : List AV} {H H' : List AB} {v : AV} {nd : List Bool} (hT : SoundT P T) (h : (T f args H [] fun v H nd => .ret v H nd).sel = .ret v H' nd) (hn : allT nd = true) : CallOK P f args H v H' := by
  rcases hT f args H [] (fun v H nd => .ret v H nd) with h' | ⟨v2, H2, nd2, h1, h2⟩
  · rw [h] at h'; cases h'
  · rw [h] at h1
    cases h1
    exact (h2 hn).2

/-- The ways of a result joined: value and next state. What is asked is asked on all ways. -/
def srcJoin (c : Cd) : Res → Option (AV × Nat × Int × List Bool)
  | .ret v H nd => match below 0 v, readSrc (getB H 1) with
    | true, some (o, n, a, h) => some (v, a, h, okB c o n :: nd)
    | _, _ => none
  | .fail => none
  | .stop _ _ _ _ => none
  | .ite b x y => match srcJoin c x, srcJoin c y with
    | some (v, a, h, nd), some (v', a', h', nd') => match mergeV b v v' with
      | some z => some (z, cond b a a', cond b h h', nd ++ nd')
      | none => none
    | _, _ => none
theorem srcJoin_spec {c : Cd} : ∀ {r : Res} {v : AV} {a : Nat} {h : Int} {nd : List Bool}, srcJoin c r = some (v, a, h, nd) → allT nd = true →
    ∃ v' H' nd', r.sel = .ret v' H' nd' ∧ allT nd' = true ∧ readSrc (getB H' 1) = some (c.off, c.len, a, h) ∧ below 0 v' = true ∧ ∀ (σ : List (Nat × Nat)) (x : Value), Rel σ v' x → Rel σ v x
  | .ret v0 H0 nd0, v, a, h, nd, hj, hn => by
    simp only [srcJoin] at hj
    split at hj <;> cases hj
    rename_i o n hb hr
    simp only [allT, Bool.and_eq_true, okB, decide_eq_true_eq] at hn
    obtain ⟨⟨⟨_, rfl⟩, rfl⟩, hn⟩ := hn
    exact ⟨_, H0, _, rfl, hn, hr, hb, fun _ _ r => r⟩
  | .fail, v, a, h, nd, hj, hn => by simp [srcJoin] at hj
  | .stop _ _ _ _, v, a, h, nd, hj, hn => by simp [srcJoin] at hj
  | .ite b x y, v, a, h, nd, hj, hn => by
    simp only [srcJoin] at hj
    split at hj <;> (try (cases hj; done))
    rename_i v1 a1 h1 nd1 v2 a2 h2 nd2 e1 e2
    split at hj <;> cases hj
    rename_i hz
    rw [allT_append, Bool.and_eq_true] at hn
    cases b with
    | true =>
      obtain ⟨v', H', nd', g1, g2, g3, g4, g5⟩ := srcJoin_spec e1 hn.1
      exact ⟨v', H', nd', g1, g2, g3, g4, fun σ x r => mergeV_left hz (g5 σ x r)⟩
    | false =>
      obtain ⟨v', H', nd', g1, g2, g3, g4, g5⟩ := srcJoin_spec e2 hn.2
      exact ⟨v', H', nd', g1, g2, g3, g4, fun σ x r => mergeV_right hz (g5 σ x r)⟩

theorem CallOK.weaken {f : FuncId} {args : List AV} {H H' : List AB} {v v' : AV} (h : CallOK P f args H v H') (hv : ∀ (σ : List (Nat × Nat)) (x : Value), Rel σ v x → Rel σ v' x) : CallOK P f args H v' H' := fun σ w rargs s hra => by
  refine (h σ w rargs s hra).mono ?_
  rintro e w' ⟨rv, rfl, σ', r1, s1, F⟩
  exact ⟨rv, rfl, σ', hv σ' rv r1, s1, F⟩

/-- A form of values: what it holds, and the value of what it holds. -/
structure Form (α : Type) where
  get : AV → Option α
  val : α → AV
  rel : ∀ {v : AV} {x : α}, get v = some x → ∀ (σ : List (Nat × Nat)) (y : Value), Rel σ v y → Rel σ (val x) y
  low : ∀ (x : α), below 0 (val x) = true

def srcEx {α : Type} (F : Form α) (c : Cd) (r : Res) : Option (α × Nat × Int × List Bool) :=
  match srcJoin c r with
  | some (v, a, h, nd) => match F.get v with
    | some x => some (x, a, h, nd)
    | none => none
  | none => none
theorem srcOK_of_ex {α : Type} {F : Form α} {f : FuncId} {sc : List AV} {c : Cd} {a a' : Nat} {h h' : Int} {x : α} {nd : List Bool} (hT : SoundT P T)
    (he : srcEx F c (T f (.p true 1 0 :: sc) [codeB c false, srcB c a h] [] fun v H nd => .ret v H nd) = some (x, a', h', nd)) (hn : allT nd = true) (hsc : belowL 0 sc = true) : SrcOK P f sc c a h (F.val x) a' h' := by
  unfold srcEx at he
  split at he <;> (try (cases he; done))
  rename_i v a1 h1 nd1 hj
  split at he <;> cases he
  rename_i hx
  obtain ⟨v', H', nd', g1, g2, g3, g4, g5⟩ := srcJoin_spec hj hn
  exact ⟨H', (call_of_sel hT g1 g2).weaken fun σ y r => F.rel hx σ y (g5 σ y r), g3, F.low x, hsc⟩
/-- Some value of the form: when only that is of interest. -/
theorem srcOK_some {α : Type} {F : Form α} {f : FuncId} {sc : List AV} {c : Cd} {a : Nat} {h : Int} {m : Nat} (hT : SoundT P T)
    (he : (srcEx F c (T f (.p true 1 0 :: sc) [codeB c false, srcB c a h] [] fun v H nd => .ret v H nd)).isSome = true)
    (hn : ((srcEx F c (T f (.p true 1 0 :: sc) [codeB c false, srcB c a h] [] fun v H nd => .ret v H nd)).map fun r => r.2.2.2) = some (List.replicate m (okB c c.off c.len)))
    (hc : goodB c = true) (hsc : belowL 0 sc = true) : ∃ x a' h', SrcOK P f sc c a h (F.val x) a' h' := by
  cases hr : srcEx F c (T f (.p true 1 0 :: sc) [codeB c false, srcB c a h] [] fun v H nd => .ret v H nd) with
  | none => rw [hr] at he; cases he
  | some r =>
    obtain ⟨x, a', h', nd⟩ := r
    rw [hr] at hn
    simp only [Option.map_some, Option.some.injEq] at hn
    refine ⟨x, a', h', srcOK_of_ex hT hr ?_ hsc⟩
    rw [hn]
    have hok : okB c c.off c.len = true := by simp [okB, hc]
    rw [hok]
    have : ∀ m, allT (List.replicate m true) = true := fun m => by
      induction m with
      | zero => rfl
      | succ m ih => simpa [List.replicate_succ, allT] using ih
    exact this m
end
end Go.Ax

/- spec.l01Next: the next number of a source. -/
namespace Go.Ax
open Go Go.Proofs

noncomputable def nxH (h : Int) : Int := IntKind.u64.wrap (IntKind.u64.wrap (h * 6364136223846793005) + 1442695040888963407)
noncomputable def nxX (h : Int) : Int := IntKind.i64.wrap (IntKind.u64.wrap (↑(BitVec.ofInt IntKind.u64.bits ((nxH h).fdiv (2 ^ min (Int.toNat 33) IntKind.u64.bits)) &&& BitVec.ofInt IntKind.u64.bits 2147483647).toNat))
noncomputable def nxB (c : Cd) (a : Nat) : Int := IntKind.i64.wrap (c.bytes.getD (c.off + (Int.ofNat a).toNat * 1 - c.off) 0)
/-- The number. -/
noncomputable def nxV (c : Cd) (a : Nat) (h n : Int) : Int :=
  if n < 1 then 0 else if Int.ofNat a < ↑c.len then (IntKind.i64.wrap (nxX h + nxB c a)).tmod n else (nxX h).tmod n
noncomputable def nxA (c : Cd) (a : Nat) (n : Int) : Nat := if n < 1 then a else if a < c.len then a + 1 else a
noncomputable def nxS (h n : Int) : Int := if n < 1 then h else nxH h

theorem nxX_bound (h : Int) : 0 ≤ nxX h ∧ nxX h < 2147483648 := by
  unfold nxX
  generalize BitVec.ofInt IntKind.u64.bits ((nxH h).fdiv (2 ^ min (Int.toNat 33) IntKind.u64.bits)) = x
  have h1 : (x &&& BitVec.ofInt IntKind.u64.bits 2147483647).toNat ≤ 2147483647 := by
    rw [BitVec.toNat_and]
    exact Nat.le_trans Nat.and_le_right (by decide)
  generalize (x &&& BitVec.ofInt IntKind.u64.bits 2147483647).toNat = y at h1
  have h2 : IntKind.u64.wrap (y : Int) = y := by
    simp [IntKind.wrap, IntKind.bits, IntKind.signed]; omega
  rw [h2, wrap64_id (by omega) (by omega)]
  omega
theorem nxB_bound {c : Cd} (hc : goodB c = true) (a : Nat) : 0 ≤ nxB c a ∧ nxB c a < 256 := by
  have : 0 ≤ c.bytes.getD (c.off + (Int.ofNat a).toNat * 1 - c.off) 0 ∧ c.bytes.getD (c.off + (Int.ofNat a).toNat * 1 - c.off) 0 < 256 := by
    rw [List.getD_eq_getElem?_getD]
    cases hg : c.bytes[c.off + (Int.ofNat a).toNat * 1 - c.off]? with
    | none => exact ⟨by decide, by decide⟩
    | some b =>
      have hm : b ∈ c.bytes := List.mem_of_getElem? hg
      simp only [goodB, Bool.and_eq_true, List.all_eq_true, decide_eq_true_eq] at hc
      exact hc.2 b hm
  unfold nxB
  rw [wrap64_id (by omega) (by omega)]
  exact this
theorem nxV_bound {c : Cd} (hc : goodB c = true) (a : Nat) (h n : Int) : 0 ≤ nxV c a h n ∧ (1 ≤ n → nxV c a h n < n) := by
  unfold nxV
  have hx := nxX_bound h
  have hb := nxB_bound hc a
  split
  · exact ⟨by omega, by omega⟩
  · split
    · rw [wrap64_id (by omega) (by omega)]
      exact ⟨Int.tmod_nonneg _ (by omega), fun _ => Int.tmod_lt_of_pos _ (by omega)⟩
    · exact ⟨Int.tmod_nonneg _ (by omega), fun _ => Int.tmod_lt_of_pos _ (by omega)⟩

noncomputable def nextRes (c : Cd) (a : Nat) (h n : Int) : Res :=
  Res.ite (decide (n < 1)) (Res.ret (AV.i true IntKind.i64 (Int.ofNat 0)) [codeB c false, srcB c a h] [])
    (Res.ite (decide (Int.ofNat a < ↑c.len))
      (Res.ret (AV.i false IntKind.i64 ((IntKind.i64.wrap (nxX h + nxB c a)).tmod n))
        [codeB c false, AB.cells true (Cells.lit [AV.sl false 0 c.off c.len 0, AV.i false IntKind.i64 (IntKind.i64.wrap (Int.ofNat a + 1)), AV.i false IntKind.u64 (nxH h)])]
        [!n == 0, decide (c.off ≤ c.off + (Int.ofNat a).toNat * 1), decide (c.off + (Int.ofNat a).toNat * 1 - c.off < c.bytes.length), decide (0 ≤ Int.ofNat a) && decide (Int.ofNat a < ↑c.len)])
      (Res.ret (AV.i false IntKind.i64 ((nxX h).tmod n)) [codeB c false, srcB c a (nxH h)] [!n == 0]))
theorem next_run (c : Cd) (a : Nat) (h n : Int) :
    runF Tryz.prog noT 200 72 [.p true 1 0, .i false .i64 n] [codeB c false, srcB c a h] [] (fun v H nd => .ret v H nd) = nextRes c a h n := by kernel_rfl

theorem next_ok {c : Cd} (hc : goodB c = true) (a : Nat) (h n : Int) : SrcOK Tryz.prog 72 [.i false .i64 n] c a h (.i false .i64 (nxV c a h n)) (nxA c a n) (nxS h n) := by
  have hr := next_run c a h n
  have hS := runF_sound (noT_sound Tryz.prog) 200
  have hg := hc
  simp only [goodB, Bool.and_eq_true, decide_eq_true_eq] at hg
  by_cases hn : n < 1
  · refine ⟨_, (call_of_sel (H' := [codeB c false, srcB c a h]) (nd := []) hS (v := .i true .i64 (Int.ofNat 0)) ?_ rfl).weaken ?_, ?_, rfl, rfl⟩
    · rw [hr]; simp [nextRes, Res.sel, hn]
    · intro σ x r
      simp only [nxV, hn, if_true]
      cases r; exact .i _ _
    · simp [nxA, nxS, hn]; rfl
  · have hn0 : ¬ n = 0 := by omega
    by_cases ha : a < c.len
    · refine ⟨_, (call_of_sel (H' := [codeB c false, AB.cells true (Cells.lit [AV.sl false 0 c.off c.len 0, AV.i false IntKind.i64 (IntKind.i64.wrap (Int.ofNat a + 1)), AV.i false IntKind.u64 (nxH h)])])
        (nd := [!n == 0, decide (c.off ≤ c.off + (Int.ofNat a).toNat * 1), decide (c.off + (Int.ofNat a).toNat * 1 - c.off < c.bytes.length), decide (0 ≤ Int.ofNat a) && decide (Int.ofNat a < ↑c.len)])
        hS (v := AV.i false IntKind.i64 ((IntKind.i64.wrap (nxX h + nxB c a)).tmod n)) ?_ ?_).weaken ?_, ?_, rfl, rfl⟩
      · rw [hr]
        have : Int.ofNat a < ↑c.len := by simp; omega
        simp only [nextRes, Res.sel, hn, decide_false, Bool.false_eq_true, if_false, this, decide_true, if_true]
      · have hlt : a < c.bytes.length := by omega
        simp [allT, hn0]
        exact ⟨hlt, ha⟩
      · intro σ x r
        have : Int.ofNat a < ↑c.len := by simp; omega
        simp only [nxV, hn, if_false, this, if_true]
        exact r
      · have h1 : IntKind.i64.wrap (Int.ofNat a + 1) = Int.ofNat (a + 1) := by
          rw [wrap64_id] <;> simp <;> omega
        rw [h1]
        simp only [nxA, nxS, hn, if_false, ha, if_true]
        rfl
    · refine ⟨_, (call_of_sel (H' := [codeB c false, srcB c a (nxH h)]) (nd := [!n == 0]) hS (v := AV.i false IntKind.i64 ((nxX h).tmod n)) ?_ ?_).weaken ?_, ?_, rfl, rfl⟩
      · rw [hr]
        have : ¬ Int.ofNat a < ↑c.len := by simp; omega
        simp only [nextRes, Res.sel, hn, decide_false, Bool.false_eq_true, if_false, this]
      · simp [allT, hn0]
      · intro σ x r
        have : ¬ Int.ofNat a < ↑c.len := by simp; omega
        simp only [nxV, hn, if_false, this]
        exact r
      · simp only [nxA, nxS, hn, if_false, ha]
        rfl
end Go.Ax

/- spec.l01Two: powers of two. -/
namespace Go.Ax
open Go Go.Proofs

noncomputable def twoT (k : Int) (x : Nat) (g : Nat → AV) : List AV := [.i false .i64 k, g 1, g 2, .f false .f64 x, g 4, g 5, g 6, g 7, g 8, g 9, g 10, g 11, g 12, g 13, g 14, g 15, g 16]
noncomputable def two0 (k : Int) : Res := toLoop Tryz.prog noT 100 [.code (Tryz.f218.body.getD .skip)] (.i false .i64 k :: undefs 16) []
noncomputable def twoL1 : List Item := (two0 0).todo
noncomputable def two1 (L : List Item) (k : Int) (x : Nat) (g : Nat → AV) : Res := toLoop Tryz.prog noT 100 L (twoT k x g) []
noncomputable def twoR : List Item := ((two1 twoL1 0 0 fun _ => .pnil).at [true]).todo
noncomputable def twoL2 : List Item := ((two1 twoL1 0 0 fun _ => .pnil).at [false]).todo
noncomputable def twoS : List Item := ((two1 twoL2 0 0 fun _ => .pnil).at [true]).todo
noncomputable def twoA (k : Int) (x : Nat) (g : Nat → AV) : List AV := [AV.i false IntKind.i64 (IntKind.i64.wrap (k - 1)), g 1, g 2,
      AV.f false FloatKind.f64 (fmul FloatKind.f64 x 4611686018427387904), AV.i false IntKind.i64 k,
      AV.b false (decide (0 < k)), AV.i false IntKind.i64 k, AV.i false IntKind.i64 (IntKind.i64.wrap (k - 1)),
      AV.f false FloatKind.f64 x, AV.f false FloatKind.f64 (fmul FloatKind.f64 x 4611686018427387904), g 10, g 11, g 12,
      g 13, g 14, g 15, g 16]
noncomputable def twoB (k : Int) (x : Nat) (g : Nat → AV) : List AV := [AV.i false IntKind.i64 k, g 1, g 2, AV.f false FloatKind.f64 x, AV.i false IntKind.i64 k,
      AV.b false (decide (0 < k)), g 6, g 7, g 8, g 9, g 10, g 11, g 12, g 13, g 14, g 15, g 16]
noncomputable def twoC (k : Int) (x : Nat) (g : Nat → AV) : List AV := [AV.i false IntKind.i64 (IntKind.i64.wrap (k + 1)), g 1, g 2,
      AV.f false FloatKind.f64 (fdiv FloatKind.f64 x 4611686018427387904), g 4, g 5, g 6, g 7, g 8, g 9, AV.i false IntKind.i64 k,
      AV.b false (decide (k < 0)), AV.i false IntKind.i64 k, AV.i false IntKind.i64 (IntKind.i64.wrap (k + 1)),
      AV.f false FloatKind.f64 x, AV.f false FloatKind.f64 (fdiv FloatKind.f64 x 4611686018427387904), g 16]
noncomputable def twoD (k : Int) (x : Nat) (g : Nat → AV) : List AV := [AV.i false IntKind.i64 k, g 1, AV.f false FloatKind.f64 x, AV.f false FloatKind.f64 x, g 4, g 5, g 6, g 7, g 8, g 9, AV.i false IntKind.i64 k,
      AV.b false (decide (k < 0)), g 12, g 13, g 14, g 15, AV.f false FloatKind.f64 x]

theorem two0_eq (k : Int) : two0 k = .stop twoL1 [.i false .i64 k, .tup [], .f true .f64 0, .f true .f64 4607182418800017408, .tup [], .tup [], .tup [], .tup [], .tup [], .tup [], .tup [], .tup [], .tup [], .tup [], .tup [], .tup [], .tup []] [] [] := by kernel_rfl
theorem two1_eq (k : Int) (x : Nat) (g : Nat → AV) : two1 twoL1 k x g = .ite (decide (0 < k)) (.stop twoR (twoA k x g) [] []) (.stop twoL2 (twoB k x g) [] []) := by kernel_rfl
theorem twoR_eq (k : Int) (x : Nat) (g : Nat → AV) : two1 twoR k x g = .ite (decide (0 < k)) (.stop twoR (twoA k x g) [] []) (.stop twoL2 (twoB k x g) [] []) := by kernel_rfl
theorem two2_eq (k : Int) (x : Nat) (g : Nat → AV) : two1 twoL2 k x g = .ite (decide (k < 0)) (.stop twoS (twoC k x g) [] []) (.ret (.tup (twoD k x g)) [] []) := by kernel_rfl
theorem twoS_eq (k : Int) (x : Nat) (g : Nat → AV) : two1 twoS k x g = .ite (decide (k < 0)) (.stop twoS (twoC k x g) [] []) (.ret (.tup (twoD k x g)) [] []) := by kernel_rfl

noncomputable def dbl : Nat → Nat → Nat
  | 0, x => x
  | n + 1, x => dbl n (fmul .f64 x 4611686018427387904)
noncomputable def hlv : Nat → Nat → Nat
  | 0, x => x
  | n + 1, x => hlv n (fdiv .f64 x 4611686018427387904)
theorem hT0 : SoundT Tryz.prog noT := noT_sound Tryz.prog

theorem two_up (L : List Item) (hL : ∀ k x g, two1 L k x g = .ite (decide (0 < k)) (.stop twoR (twoA k x g) [] []) (.stop twoL2 (twoB k x g) [] [])) :
    ∀ (n : Nat) (k : Int) (x : Nat) (g : Nat → AV), k = n → n < 4000 → ∃ g', Reach Tryz.prog L (twoT k x g) [] twoL2 (twoT 0 (dbl n x) g') []
  | 0, k, x, g, hk, _ => by
    refine ⟨fun i => getL (twoB k x g) i, ?_⟩
    have hk0 : k = 0 := by omega
    subst hk0
    refine toLoop_reach (n := 100) (nd := []) hT0 (T := noT) ?_ rfl
    have := hL 0 x g
    unfold two1 at this
    rw [this]; rfl
  | n + 1, k, x, g, hk, hn => by
    have h1 : Reach Tryz.prog L (twoT k x g) [] twoR (twoA k x g) [] := by
      refine toLoop_reach (n := 100) (nd := []) hT0 (T := noT) ?_ rfl
      have := hL k x g
      unfold two1 at this
      rw [this]
      have : 0 < k := by omega
      simp [Res.sel, this]
    have hw : IntKind.i64.wrap (k - 1) = k - 1 := wrap64_id (by omega) (by omega)
    have h2 : twoA k x g = twoT (k - 1) (fmul .f64 x 4611686018427387904) (fun i => getL (twoA k x g) i) := by
      unfold twoA twoT
      rw [hw]; rfl
    rw [h2] at h1
    obtain ⟨g', h3⟩ := two_up twoR twoR_eq n (k - 1) (fmul .f64 x 4611686018427387904) (fun i => getL (twoA k x g) i) (by omega) (by omega)
    exact ⟨g', h1.trans h3⟩
theorem two_down (L : List Item) (hL : ∀ k x g, two1 L k x g = .ite (decide (k < 0)) (.stop twoS (twoC k x g) [] []) (.ret (.tup (twoD k x g)) [] [])) :
    ∀ (n : Nat) (k : Int) (x : Nat) (g : Nat → AV), k = -n → n < 4000 → ∃ g', Ends Tryz.prog L (twoT k x g) [] (twoD 0 (hlv n x) g') []
  | 0, k, x, g, hk, _ => by
    refine ⟨g, ?_⟩
    have hk0 : k = 0 := by omega
    subst hk0
    refine toLoop_ends (n := 100) (nd := []) hT0 (T := noT) ?_ rfl
    have := hL 0 x g
    unfold two1 at this
    rw [this]; rfl
  | n + 1, k, x, g, hk, hn => by
    have h1 : Reach Tryz.prog L (twoT k x g) [] twoS (twoC k x g) [] := by
      refine toLoop_reach (n := 100) (nd := []) hT0 (T := noT) ?_ rfl
      have := hL k x g
      unfold two1 at this
      rw [this]
      have : k < 0 := by omega
      simp [Res.sel, this]
    have hw : IntKind.i64.wrap (k + 1) = k + 1 := wrap64_id (by omega) (by omega)
    have h2 : twoC k x g = twoT (k + 1) (fdiv .f64 x 4611686018427387904) (fun i => getL (twoC k x g) i) := by
      unfold twoC twoT
      rw [hw]; rfl
    rw [h2] at h1
    obtain ⟨g', h3⟩ := two_down twoS twoS_eq n (k + 1) (fdiv .f64 x 4611686018427387904) (fun i => getL (twoC k x g) i) (by omega) (by omega)
    exact ⟨g', h1.ends h3⟩

/-- 2 to the k, in bits. -/
noncomputable def pow2 (k : Int) : Nat := ((k + 1023).toNat) * 4503599627370496
theorem dbl_step : ((List.range 130).all fun n => fmul .f64 ((n + 1023) * 4503599627370496) 4611686018427387904 == (n + 1024) * 4503599627370496) = true := by kernel_rfl
theorem hlv_step : ((List.range 160).all fun n => fdiv .f64 ((1023 - n) * 4503599627370496) 4611686018427387904 == (1022 - n) * 4503599627370496) = true := by kernel_rfl
theorem dbl_pow : ∀ (n m : Nat), m + n ≤ 130 → dbl n ((m + 1023) * 4503599627370496) = (m + n + 1023) * 4503599627370496
  | 0, m, _ => rfl
  | n + 1, m, h => by
    have := List.all_eq_true.1 dbl_step m (by simp; omega)
    simp only [beq_iff_eq] at this
    rw [dbl, this]
    have := dbl_pow n (m + 1) (by omega)
    rw [show m + 1024 = m + 1 + 1023 by omega, this]
    exact congrArg (· * 4503599627370496) (by omega)
theorem hlv_pow : ∀ (n m : Nat), m + n ≤ 160 → hlv n ((1023 - m) * 4503599627370496) = (1023 - (m + n)) * 4503599627370496
  | 0, m, _ => rfl
  | n + 1, m, h => by
    have := List.all_eq_true.1 hlv_step m (by simp; omega)
    simp only [beq_iff_eq] at this
    rw [hlv, this]
    have := hlv_pow n (m + 1) (by omega)
    rw [show 1022 - m = 1023 - (m + 1) by omega, this]
    exact congrArg (· * 4503599627370496) (by omega)

theorem two_ok (k : Int) (h0 : -160 ≤ k) (h1 : k ≤ 130) (H : List AB) : CallOK Tryz.prog 218 [.i false .i64 k] H (.f false .f64 (pow2 k)) H := by
  have e0 : Reach Tryz.prog [.code (Tryz.f218.body.getD .skip)] (.i false .i64 k :: undefs 16) [] twoL1 (twoT k 4607182418800017408 fun i => getL [.i false .i64 k, .tup [], .f true .f64 0, .f true .f64 4607182418800017408, .tup [], .tup [], .tup [], .tup [], .tup [], .tup [], .tup [], .tup [], .tup [], .tup [], .tup [], .tup [], .tup []] i) [] := by
    have : Reach Tryz.prog [.code (Tryz.f218.body.getD .skip)] (.i false .i64 k :: undefs 16) [] twoL1 [.i false .i64 k, .tup [], .f true .f64 0, .f true .f64 4607182418800017408, .tup [], .tup [], .tup [], .tup [], .tup [], .tup [], .tup [], .tup [], .tup [], .tup [], .tup [], .tup [], .tup []] [] := by
      refine toLoop_reach (n := 100) (nd := []) hT0 (T := noT) ?_ rfl
      have := two0_eq k
      unfold two0 at this
      rw [this]; rfl
    exact this.weak (eqv_of_bare rfl)
  have fin : ∀ {x : Nat} {g : Nat → AV}, Ends Tryz.prog [.code (Tryz.f218.body.getD .skip)] (.i false .i64 k :: undefs 16) [] (twoD 0 x g) [] → x = pow2 k → CallOK Tryz.prog 218 [.i false .i64 k] H (.f false .f64 (pow2 k)) H := fun {x g} he hx => by
    subst hx
    have hb : Tryz.f218.body = some (Tryz.f218.body.getD .skip) := rfl
    have := call_of_ends (args := [.i false .i64 k]) (m := []) (vs := [.f false .f64 (pow2 k)]) Tryz.func218 hb he (by rfl) rfl
    exact this.lift rfl rfl H rfl
  rcases (by omega : k < 0 ∨ 0 ≤ k) with hk | hk
  · obtain ⟨n, hn⟩ : ∃ n : Nat, k = -n := ⟨k.natAbs, by omega⟩
    have e1 : ∀ x g, Reach Tryz.prog twoL1 (twoT k x g) [] twoL2 (twoT k x fun i => getL (twoB k x g) i) [] := fun x g => by
      refine toLoop_reach (n := 100) (nd := []) hT0 (T := noT) ?_ rfl
      have := two1_eq k x g
      unfold two1 at this
      rw [this]
      have : ¬ 0 < k := by omega
      simp [Res.sel, this]; rfl
    obtain ⟨g', e2⟩ := two_down twoL2 two2_eq n k 4607182418800017408 _ hn (by omega)
    refine fin ((e0.trans (e1 _ _)).ends e2) ?_
    have := hlv_pow n 0 (by omega)
    rw [show (1023 - 0) * 4503599627370496 = 4607182418800017408 from rfl] at this
    rw [this]
    unfold pow2
    exact congrArg (· * 4503599627370496) (by omega)
  · obtain ⟨n, hn⟩ : ∃ n : Nat, k = n := ⟨k.natAbs, by omega⟩
    obtain ⟨g1, e1⟩ := two_up twoL1 two1_eq n k 4607182418800017408 (fun i => getL [.i false .i64 k, .tup [], .f true .f64 0, .f true .f64 4607182418800017408, .tup [], .tup [], .tup [], .tup [], .tup [], .tup [], .tup [], .tup [], .tup [], .tup [], .tup [], .tup [], .tup []] i) hn (by omega)
    obtain ⟨g', e2⟩ := two_down twoL2 two2_eq 0 0 (dbl n 4607182418800017408) g1 rfl (by omega)
    refine fin ((e0.trans e1).ends e2) ?_
    have := dbl_pow n 0 (by omega)
    rw [show (0 + 1023) * 4503599627370496 = 4607182418800017408 from rfl] at this
    show dbl n 4607182418800017408 = _
    rw [this]
    unfold pow2
    exact congrArg (· * 4503599627370496) (by omega)
end Go.Ax

/- spec.l01Float: the float with a place. -/
namespace Go.Ax
open Go Go.Proofs Ieee

theorem d_least : double.leastPlace = -1074 := by decide
theorem s_least : single.leastPlace = -149 := by decide
theorem d_frac : double.fractionBits = 52 := rfl
theorem s_frac : single.fractionBits = 23 := rfl
theorem d_bin : double.binade = 4503599627370496 := rfl
theorem s_bin : single.binade = 8388608 := rfl
theorem d_inf : double.infRung = 9218868437227405312 := rfl
theorem s_inf : single.infRung = 2139095040 := rfl

/-- A whole number of at most 53 digits, as a float64. -/
theorem near_int (n s : Nat) (h0 : 4503599627370496 ≤ n * 2 ^ s) (h1 : n * 2 ^ s < 9007199254740992) (hs : s ≤ 52) : FloatKind.f64.nearest (n : Int) = canon double false (n * 2 ^ s) (1074 - s) := by
  have e : FloatKind.f64.nearest (n : Int) = double.nearest false n 0 := by
    unfold FloatKind.nearest FloatKind.encode
    have : decide ((n : Int) < 0) = false := by simp
    rw [this]; rfl
  rw [e]
  refine nearest_up double false n s (1074 - s) 0 h0 h1 (by rw [d_least]; omega) ?_
  rw [d_bin, d_inf]
  have : (1074 - s) * 4503599627370496 ≤ 1074 * 4503599627370496 := Nat.mul_le_mul_right _ (by omega)
  exact Nat.le_trans (Nat.add_le_add this (Nat.le_of_lt h1)) (by decide)
theorem pow2_canon (k : Int) (h : -1022 ≤ k) : pow2 k = canon double false (4503599627370496) (k + 1022).toNat := by
  unfold pow2 canon Format.word
  rw [d_bin]
  simp only [Bool.false_eq_true, if_false]
  omega
/-- A number times a power of two. -/
theorem mul_pow2 (m r : Nat) (k : Int) (h0 : 4503599627370496 ≤ m) (h1 : m < 9007199254740992) (hr : r ≤ 2000) (hk : -1022 ≤ k) (hk' : k ≤ 900) (hrk : 0 ≤ r + k) (hrk' : r + k ≤ 2000) :
    fmul .f64 (canon double false m r) (pow2 k) = canon double false m (r + k).toNat := by
  rw [pow2_canon k hk]
  have e1 : double.read (canon double false m r) = .number false m (double.leastPlace + r) := by
    refine read_canon double false m r h1 (.inr h0) ?_
    rw [d_bin, d_inf]
    have : r * 4503599627370496 ≤ 2000 * 4503599627370496 := Nat.mul_le_mul_right _ hr
    omega
  have e2 : double.read (canon double false (4503599627370496) (k + 1022).toNat) = .number false (4503599627370496) (double.leastPlace + ((k + 1022).toNat : Nat)) := by
    refine read_canon double false _ _ (by decide) (.inr (Nat.le_refl _)) ?_
    rw [d_bin, d_inf]
    have : (k + 1022).toNat * 4503599627370496 ≤ 1922 * 4503599627370496 := Nat.mul_le_mul_right _ (by omega)
    omega
  have e3 : double.mul (canon double false m r) (canon double false (4503599627370496) (k + 1022).toNat) = some (double.nearest false (m * 4503599627370496) (double.leastPlace + r + (double.leastPlace + ((k + 1022).toNat : Nat)))) := by
    unfold Format.mul
    rw [e1, e2]
    rfl
  have e4 := nearest_down double false m 52 (r + k).toNat (double.leastPlace + r + (double.leastPlace + ((k + 1022).toNat : Nat))) h0 h1 (by rw [d_least]; omega) (by
    rw [d_bin, d_inf]
    have : (r + k).toNat * 4503599627370496 ≤ 2000 * 4503599627370496 := Nat.mul_le_mul_right _ (by omega)
    exact Nat.le_trans (Nat.add_le_add this (Nat.le_of_lt h1)) (by decide))
  show (double.mul _ _).getD _ = _
  rw [e3, e4]
  rfl

theorem shift_of (n : Nat) (h : 0 < n) (h1 : n < 9007199254740992) : ∃ s, s ≤ 52 ∧ 4503599627370496 ≤ n * 2 ^ s ∧ n * 2 ^ s < 9007199254740992 := by
  have hn : n ≠ 0 := by omega
  have hl : n.log2 < 53 := (Nat.log2_lt hn).2 (by rw [show 2 ^ 53 = 9007199254740992 from rfl]; exact h1)
  refine ⟨52 - n.log2, by omega, ?_, ?_⟩
  · have e : 4503599627370496 = 2 ^ n.log2 * 2 ^ (52 - n.log2) := by
      rw [← Nat.pow_add, show n.log2 + (52 - n.log2) = 52 by omega]
    calc 4503599627370496 = 2 ^ n.log2 * 2 ^ (52 - n.log2) := e
      _ ≤ n * 2 ^ (52 - n.log2) := Nat.mul_le_mul_right _ (Nat.log2_self_le hn)
  · have e : 2 ^ (n.log2 + 1) * 2 ^ (52 - n.log2) = 9007199254740992 := by
      rw [← Nat.pow_add, show n.log2 + 1 + (52 - n.log2) = 53 by omega]
    calc n * 2 ^ (52 - n.log2) < 2 ^ (n.log2 + 1) * 2 ^ (52 - n.log2) := Nat.mul_lt_mul_of_pos_right Nat.lt_log2_self (Nat.two_pow_pos _)
      _ = 9007199254740992 := e

/-- A float of 24 digits by a whole number times a power of two. -/
theorem place_float (n : Nat) (k : Int) (hn : 0 < n) (h1 : n < 16777216) (hk : -149 ≤ k) (hk' : k ≤ 104) (hs : k = -149 ∨ 8388608 ≤ n) :
    fcvt .f64 .f32 (fmul .f64 (FloatKind.f64.nearest (n : Int)) (pow2 k)) = (k + 149).toNat * 8388608 + n ∧ fcvtOK .f64 .f32 (fmul .f64 (FloatKind.f64.nearest (n : Int)) (pow2 k)) = true := by
  obtain ⟨s, hs1, hs2, hs3⟩ := shift_of n hn (by omega)
  have hs' : s ≤ 1074 := by omega
  rw [near_int n s hs2 hs3 hs1, mul_pow2 (n * 2 ^ s) (1074 - s) k hs2 hs3 (by omega) (by omega) (by omega) (by omega) (by omega)]
  have e1 : double.read (canon double false (n * 2 ^ s) (((1074 - s : Nat) : Int) + k).toNat) = .number false (n * 2 ^ s) (double.leastPlace + ((((1074 - s : Nat) : Int) + k).toNat : Nat)) := by
    refine read_canon double false _ _ hs3 (.inr hs2) ?_
    rw [d_bin, d_inf]
    have : (((1074 - s : Nat) : Int) + k).toNat * 4503599627370496 ≤ 1200 * 4503599627370496 := Nat.mul_le_mul_right _ (by omega)
    omega
  have e2 : single.nearest false (n * 2 ^ s) (double.leastPlace + ((((1074 - s : Nat) : Int) + k).toNat : Nat)) = canon single false n (k + 149).toNat := by
    rcases hs with h | h
    · subst h
      exact nearest_sub single false n s _ (by rw [s_frac]; omega) (by rw [d_least, s_least]; omega) (by rw [s_inf]; omega)
    · refine nearest_down single false n s (k + 149).toNat _ (by rw [s_frac]; exact h) (by rw [s_frac]; omega) (by rw [d_least, s_least]; omega) ?_
      rw [s_bin, s_inf]
      have : (k + 149).toNat * 8388608 ≤ 253 * 8388608 := Nat.mul_le_mul_right _ (by omega)
      exact Nat.le_trans (Nat.add_le_add this (Nat.le_of_lt h1)) (by decide)
  have e3 : single.read (canon single false n (k + 149).toNat) = .number false n (single.leastPlace + ((k + 149).toNat : Nat)) := by
    refine read_canon single false n _ (by rw [s_frac]; omega) ?_ ?_
    · rcases hs with h | h
      · left; omega
      · right; rw [s_frac]; exact h
    · rw [s_bin, s_inf]
      have : (k + 149).toNat * 8388608 ≤ 253 * 8388608 := Nat.mul_le_mul_right _ (by omega)
      omega
  have e4 : FloatKind.f64.decode (canon double false (n * 2 ^ s) (((1074 - s : Nat) : Int) + k).toNat) = .number false (n * 2 ^ s) (double.leastPlace + ((((1074 - s : Nat) : Int) + k).toNat : Nat)) := e1
  have e5 : FloatKind.f32.encode (.number false (n * 2 ^ s) (double.leastPlace + ((((1074 - s : Nat) : Int) + k).toNat : Nat))) = canon single false n (k + 149).toNat := e2
  have e6 : FloatKind.f32.decode (canon single false n (k + 149).toNat) = .number false n (single.leastPlace + ((k + 149).toNat : Nat)) := e3
  constructor
  · unfold fcvt
    rw [if_neg (by decide), e4]
    dsimp only
    rw [e5]
    unfold canon Format.word
    rw [s_bin]
    simp
  · unfold fcvtOK
    rw [if_neg (by decide), e4]
    dsimp only
    rw [e5, e6]
    rfl
end Go.Ax

/- Whole numbers by powers of two. -/
namespace Go.Ax
open Go Go.Proofs Ieee

theorem near_signed (g : Bool) (n s : Nat) (h0 : 4503599627370496 ≤ n * 2 ^ s) (h1 : n * 2 ^ s < 9007199254740992) (hs : s ≤ 52) : double.nearest g n 0 = canon double g (n * 2 ^ s) (1074 - s) := by
  refine nearest_up double g n s (1074 - s) 0 h0 h1 (by rw [d_least]; omega) ?_
  rw [d_bin, d_inf]
  have : (1074 - s) * 4503599627370496 ≤ 1074 * 4503599627370496 := Nat.mul_le_mul_right _ (by omega)
  exact Nat.le_trans (Nat.add_le_add this (Nat.le_of_lt h1)) (by decide)

theorem quot_exact (g : Bool) (m N d q : Nat) (i j : Int) (hN : N ≠ 0) (hl : m.log2 = N.log2) (q1 : m <<< d / N = q) (q2 : m <<< d % N = 0) :
    Datum.quotient d (.number g m i) (.number false N j) = some (.number g (2 * q) (i - j - d - 1)) := by
  unfold Datum.quotient
  simp only [if_neg hN, hl, Nat.add_sub_cancel, q1, q2]
  simp
theorem div_pow2 (g : Bool) (m r : Nat) (k : Int) (h0 : 4503599627370496 ≤ m) (h1 : m < 9007199254740992) (hr : r ≤ 2000) (hk : -1022 ≤ k) (hk' : k ≤ 900) (hrk : 0 ≤ r - k) (hrk' : r - k ≤ 2000) :
    fdiv .f64 (canon double g m r) (pow2 k) = canon double g m (r - k).toNat := by
  rw [pow2_canon k hk]
  have e1 : double.read (canon double g m r) = .number g m (double.leastPlace + r) := by
    refine read_canon double g m r h1 (.inr h0) ?_
    rw [d_bin, d_inf]
    have : r * 4503599627370496 ≤ 2000 * 4503599627370496 := Nat.mul_le_mul_right _ hr
    omega
  have e2 : double.read (canon double false (4503599627370496) (k + 1022).toNat) = .number false (4503599627370496) (double.leastPlace + ((k + 1022).toNat : Nat)) := by
    refine read_canon double false _ _ (by decide) (.inr (Nat.le_refl _)) ?_
    rw [d_bin, d_inf]
    have : (k + 1022).toNat * 4503599627370496 ≤ 1922 * 4503599627370496 := Nat.mul_le_mul_right _ (by omega)
    omega
  have l1 : m.log2 = 52 := log2_eq h0 h1
  have l2 : (4503599627370496 : Nat).log2 = 52 := log2_eq (by decide) (by decide)
  have q1 : m <<< 54 / 4503599627370496 = m * 4 := by
    rw [Nat.shiftLeft_eq, show (2 : Nat) ^ 54 = 4 * 4503599627370496 by decide, ← Nat.mul_assoc, Nat.mul_div_cancel _ (by decide)]
  have q2 : m <<< 54 % 4503599627370496 = 0 := by
    rw [Nat.shiftLeft_eq, show (2 : Nat) ^ 54 = 4 * 4503599627370496 by decide, ← Nat.mul_assoc, Nat.mul_mod_left]
  have e3 : double.div (canon double g m r) (canon double false (4503599627370496) (k + 1022).toNat) = some (double.nearest g (m * 2 ^ 3) (double.leastPlace + r - (double.leastPlace + ((k + 1022).toNat : Nat)) - 55)) := by
    unfold Format.div
    rw [e1, e2]
    have : Datum.quotient (double.fractionBits + 2) (.number g m (double.leastPlace + r)) (.number false 4503599627370496 (double.leastPlace + ((k + 1022).toNat : Nat))) =
        some (.number g (m * 2 ^ 3) (double.leastPlace + r - (double.leastPlace + ((k + 1022).toNat : Nat)) - 55)) := by
      have := quot_exact g m 4503599627370496 54 (m * 4) (double.leastPlace + r) (double.leastPlace + ((k + 1022).toNat : Nat)) (by decide) (l1.trans l2.symm) q1 q2
      have hd : double.fractionBits + 2 = 54 := rfl
      rw [hd, this]
      have h8 : 2 * (m * 4) = m * 2 ^ 3 := by rw [show (2 : Nat) ^ 3 = 8 from rfl]; omega
      have h9 : ∀ y : Int, y - ((54 : Nat) : Int) - 1 = y - 55 := fun y => by omega
      rw [h8, h9]
    rw [this]
    rfl
  have e4 := nearest_down double g m 3 (r - k).toNat (double.leastPlace + r - (double.leastPlace + ((k + 1022).toNat : Nat)) - 55) h0 h1 (by rw [d_least]; omega) (by
    rw [d_bin, d_inf]
    have : (r - k).toNat * 4503599627370496 ≤ 2000 * 4503599627370496 := Nat.mul_le_mul_right _ (by omega)
    exact Nat.le_trans (Nat.add_le_add this (Nat.le_of_lt h1)) (by decide))
  show (double.div _ _).getD _ = _
  rw [e3, e4]
  rfl

/-- A whole number of at most 26 digits by a power of two: it is no great number. -/
theorem unit_ok (x : Int) (k : Int) (hx : x.natAbs < 67108864) (hx0 : x ≠ 0) (hk : 0 ≤ k) (hk' : k ≤ 100) : fcvtOK .f64 .f32 (fdiv .f64 (FloatKind.f64.nearest x) (pow2 k)) = true := by
  have e : FloatKind.f64.nearest x = double.nearest (decide (x < 0)) x.natAbs 0 := rfl
  obtain ⟨s, hs1, hs2, hs3⟩ := shift_of x.natAbs (by omega) (by omega)
  rw [e, near_signed _ _ s hs2 hs3 hs1, div_pow2 _ _ _ k hs2 hs3 (by omega) (by omega) (by omega) (by omega) (by omega)]
  have hl : (x.natAbs * 2 ^ s).log2 = 52 := log2_eq hs2 hs3
  have hs26 : 26 < s := by
    rcases Nat.lt_or_ge 26 s with h | h
    · exact h
    · have h2 : 2 ^ s ≤ 2 ^ 26 := Nat.pow_le_pow_right (by decide) h
      have : x.natAbs * 2 ^ s ≤ 67108863 * 2 ^ 26 := Nat.mul_le_mul (by omega) h2
      have h3 : (2 : Nat) ^ 26 = 67108864 := by decide
      rw [h3] at this
      omega
  refine fcvtOK_small _ (decide (x < 0)) (x.natAbs * 2 ^ s) (double.leastPlace + ((((1074 - s : Nat) : Int) - k).toNat : Nat)) ?_ ?_
  · refine read_canon double _ _ _ hs3 (.inr hs2) ?_
    rw [d_bin, d_inf]
    have : (((1074 - s : Nat) : Int) - k).toNat * 4503599627370496 ≤ 1100 * 4503599627370496 := Nat.mul_le_mul_right _ (by omega)
    omega
  · rw [hl, d_least]; omega
end Go.Ax

/- Tables put together. -/
namespace Go.Ax
open Go

def SoundAt (P : Program) (f : FuncId) (T : Table) : Prop := ∀ (args : List AV) (H : List AB) (nd : List Bool) (K : KF), (T f args H nd K).sel = .fail ∨
  ∃ v H' nd', (T f args H nd K).sel = (K v H' nd').sel ∧ (allT nd' = true → allT nd = true ∧ CallOK P f args H v H')
def look : List (FuncId × Table) → Table → Table
  | [], d => d
  | (g, T) :: l, d => fun f args H nd K => match Nat.beq f g with
    | true => T f args H nd K
    | false => look l d f args H nd K
theorem look_sound {P : Program} {d : Table} (hd : SoundT P d) : ∀ {l : List (FuncId × Table)}, (∀ p ∈ l, SoundAt P p.1 p.2) → SoundT P (look l d)
  | [], _ => hd
  | (g, T) :: l, h => fun f args H nd K => by
    unfold look
    split
    · rename_i hb
      have : f = g := Nat.eq_of_beq_eq_true hb
      subst this
      exact h _ (List.mem_cons_self) args H nd K
    · exact look_sound hd (fun p hp => h p (List.mem_cons_of_mem _ hp)) f args H nd K
theorem SoundT.at {P : Program} {T : Table} (h : SoundT P T) (f : FuncId) : SoundAt P f T := fun args H nd K => h f args H nd K

/-- All functions by their own text, as deep as d; those that write to no memory of the caller's come back joined. -/
def deep (P : Program) (l : List (FuncId × Table)) (inl : List FuncId) (n : Nat) : Nat → Table
  | 0 => noT
  | d + 1 => look l fun f args H nd K => match inl.any (Nat.beq f) with
    | true => runF P (deep P l inl n d) n f args H nd K
    | false => quiet (runF P (deep P l inl n d) n) f args H nd K
theorem deep_sound {P : Program} {l : List (FuncId × Table)} {inl : List FuncId} {n : Nat} (h : ∀ p ∈ l, SoundAt P p.1 p.2) : ∀ d, SoundT P (deep P l inl n d)
  | 0 => noT_sound P
  | d + 1 => look_sound (fun f args H nd K => by
      have ih := runF_sound (deep_sound (inl := inl) (n := n) h d) n
      split
      · exact ih f args H nd K
      · exact quiet_sound ih f args H nd K) h
end Go.Ax

/- spec.l01Float: the float with a place (its call). -/
namespace Go.Ax
open Go Go.Proofs

def withN1 (v : AV) : Option (List Bool) → Option (AV × List Bool)
  | some n => some (v, n)
  | none => none
theorem withN1_some {v v' : AV} {o : Option (List Bool)} {n : List Bool} (h : withN1 v o = some (v', n)) : v = v' ∧ o = some n := by
  cases o <;> simp [withN1] at h
  exact ⟨h.1, by rw [h.2]⟩
noncomputable def gTwo : List AV → Option (AV × List Bool)
  | [.i l .i64 k] => withN1 (.f l .f64 (pow2 k)) (chk l (decide (-160 ≤ k) && decide (k ≤ 130)))
  | _ => none
theorem two_at : SoundAt Tryz.prog 218 (pureT gTwo) := fun args H nd K => by
  refine pureT_sound (fun args v n h hn H => ?_) args H nd K
  unfold gTwo at h
  split at h <;> (try (cases h; done))
  rename_i l k
  obtain ⟨rfl, hc⟩ := withN1_some h
  have hn := chk_spec hc hn
  simp only [Bool.and_eq_true, decide_eq_true_eq] at hn
  exact ((two_ok k hn.1 hn.2 H).bare (args' := [.i l .i64 k]) rfl).weaken fun σ x r => (by cases r with | f hr => exact .f hr)
/-- The float with a place. -/
noncomputable def fltOf (k : Int) : Nat := if k < 0 then 2147483648 + (-k).toNat else k.toNat
noncomputable def tF1 : Table := look [(218, pureT gTwo)] noT
theorem tF1_sound : SoundT Tryz.prog tF1 := look_sound (noT_sound _) fun p hp => by
  simp only [List.mem_cons, List.not_mem_nil, or_false] at hp
  subst hp; exact two_at

noncomputable def fltE (k : Int) : Int := IntKind.i64.wrap (IntKind.i64.wrap (k.fdiv (2 ^ min (Int.toNat 23) IntKind.i64.bits) - 127) - 23)
noncomputable def fltRes (r : Res) (k : Int) : Res := Res.ite (decide (k < 0)) r
  (Res.ite (decide (k < 8388608))
    (Res.ret (AV.f false FloatKind.f32 (fcvt FloatKind.f64 FloatKind.f32 (fmul FloatKind.f64 (FloatKind.f64.nearest k) (pow2 (-149))))) [] [fcvtOK FloatKind.f64 FloatKind.f32 (fmul FloatKind.f64 (FloatKind.f64.nearest k) (pow2 (-149)))])
    (Res.ret (AV.f false FloatKind.f32 (fcvt FloatKind.f64 FloatKind.f32 (fmul FloatKind.f64 (FloatKind.f64.nearest (IntKind.i64.wrap (k.tmod 8388608 + 8388608))) (pow2 (fltE k))))) []
      [fcvtOK FloatKind.f64 FloatKind.f32 (fmul FloatKind.f64 (FloatKind.f64.nearest (IntKind.i64.wrap (k.tmod 8388608 + 8388608))) (pow2 (fltE k))),
        decide (-160 ≤ fltE k) && decide (fltE k ≤ 130)]))
theorem flt_run1 (k : Int) : runF Tryz.prog tF1 100 202 [.i false .i64 k] [] [] (fun v H nd => .ret v H nd) = fltRes .fail k := by kernel_rfl

theorem flt_zero : fcvt .f64 .f32 (fmul .f64 (FloatKind.f64.nearest 0) (pow2 (-149))) = 0 ∧ fcvtOK .f64 .f32 (fmul .f64 (FloatKind.f64.nearest 0) (pow2 (-149))) = true := by
  constructor <;> kernel_rfl
theorem flt_pos (k : Int) (h0 : 0 ≤ k) (h1 : k ≤ 2139095039) (H : List AB) : CallOK Tryz.prog 202 [.i false .i64 k] H (.f false .f32 (fltOf k)) H := by
  have hS := runF_sound tF1_sound 100
  have hr := flt_run1 k
  have hn : ¬ k < 0 := by omega
  have hv : fltOf k = k.toNat := by unfold fltOf; rw [if_neg hn]
  rw [hv]
  by_cases hs : k < 8388608
  · have key : fcvt .f64 .f32 (fmul .f64 (FloatKind.f64.nearest k) (pow2 (-149))) = k.toNat ∧ fcvtOK .f64 .f32 (fmul .f64 (FloatKind.f64.nearest k) (pow2 (-149))) = true := by
      by_cases hz : k = 0
      · subst hz; exact flt_zero
      · have := place_float k.toNat (-149) (by omega) (by omega) (by omega) (by omega) (.inl rfl)
        rw [Int.toNat_of_nonneg h0] at this
        simpa using this
    refine (call_of_sel (T := runF Tryz.prog tF1 100) (H' := []) hS (v := .f false .f32 k.toNat) (nd := [fcvtOK FloatKind.f64 FloatKind.f32 (fmul FloatKind.f64 (FloatKind.f64.nearest k) (pow2 (-149)))]) ?_ ?_).lift rfl rfl H rfl
    · rw [hr]; simp only [fltRes, Res.sel, hn, hs, decide_false, decide_true, Bool.false_eq_true, if_false, if_true, key.1]
    · simp only [allT, key.2]; rfl
  · have hq : k.fdiv (2 ^ min (Int.toNat 23) IntKind.i64.bits) = k / 8388608 := by
      rw [Int.fdiv_eq_ediv_of_nonneg _ (by decide)]
      rfl
    have hm : k.tmod 8388608 = k % 8388608 := Int.tmod_eq_emod_of_nonneg h0
    have hE : fltE k = k / 8388608 - 150 := by
      unfold fltE
      rw [hq, wrap64_id (n := k / 8388608 - 127) (by omega) (by omega), wrap64_id (by omega) (by omega)]
      omega
    have hM : IntKind.i64.wrap (k.tmod 8388608 + 8388608) = ((k % 8388608 + 8388608).toNat : Nat) := by
      rw [hm, wrap64_id (by omega) (by omega)]
      omega
    have key := place_float (k % 8388608 + 8388608).toNat (k / 8388608 - 150) (by omega) (by omega) (by omega) (by omega) (.inr (by omega))
    have hval : (k / 8388608 - 150 + 149).toNat * 8388608 + (k % 8388608 + 8388608).toNat = k.toNat := by omega
    rw [hval] at key
    refine (call_of_sel (T := runF Tryz.prog tF1 100) (H' := []) hS (v := .f false .f32 k.toNat) (nd := [fcvtOK FloatKind.f64 FloatKind.f32 (fmul FloatKind.f64 (FloatKind.f64.nearest (IntKind.i64.wrap (k.tmod 8388608 + 8388608))) (pow2 (fltE k))),
        decide (-160 ≤ fltE k) && decide (fltE k ≤ 130)]) ?_ ?_).lift rfl rfl H rfl
    · rw [hr]; simp only [fltRes, Res.sel, hn, hs, decide_false, Bool.false_eq_true, if_false, hE, hM, key.1]
    · rw [hE, hM, key.2]
      simp [allT]
      omega

noncomputable def gFlt : List AV → Option (AV × List Bool)
  | [.i l .i64 k] => withN1 (.f l .f32 (fltOf k)) (chk l (decide (0 ≤ k) && decide (k ≤ 2139095039)))
  | _ => none
theorem flt_at : SoundAt Tryz.prog 202 (pureT gFlt) := fun args H nd K => by
  refine pureT_sound (fun args v n h hn H => ?_) args H nd K
  unfold gFlt at h
  split at h <;> (try (cases h; done))
  rename_i l k
  obtain ⟨rfl, hc⟩ := withN1_some h
  have hn := chk_spec hc hn
  simp only [Bool.and_eq_true, decide_eq_true_eq] at hn
  exact ((flt_pos k hn.1 hn.2 H).bare (args' := [.i l .i64 k]) rfl).weaken fun σ x r => (by cases r with | f hr => exact .f hr)
noncomputable def tF2 : Table := look [(202, pureT gFlt), (218, pureT gTwo)] noT
theorem tF2_sound : SoundT Tryz.prog tF2 := look_sound (noT_sound _) fun p hp => by
  simp only [List.mem_cons, List.not_mem_nil, or_false] at hp
  rcases hp with rfl | rfl
  · exact flt_at
  · exact two_at
theorem neg_word (m : Nat) (h : m < 2147483648) : fneg .f32 m = 2147483648 + m := by
  show m ^^^ 2 ^ 31 = 2 ^ 31 + m
  have h' : m < 2 ^ 31 := h
  have e := Nat.two_pow_add_eq_or_of_lt h' 1
  rw [Nat.mul_one] at e
  rw [e]
  refine Nat.eq_of_testBit_eq fun i => ?_
  rw [Nat.testBit_xor, Nat.testBit_or, Nat.testBit_two_pow]
  by_cases hi : 31 = i
  · subst hi
    rw [Nat.testBit_lt_two_pow h']; simp
  · simp [hi]
noncomputable def fltNeg (k : Int) : Res := Res.ret (AV.f false .f32 (fneg .f32 (fltOf (IntKind.i64.wrap (0 - k))))) [] [decide (0 ≤ IntKind.i64.wrap (0 - k)) && decide (IntKind.i64.wrap (0 - k) ≤ 2139095039)]
theorem flt_run2 (k : Int) : runF Tryz.prog tF2 100 202 [.i false .i64 k] [] [] (fun v H nd => .ret v H nd) = fltRes (fltNeg k) k := by kernel_rfl
theorem flt_ok (k : Int) (h0 : -2139095039 ≤ k) (h1 : k ≤ 2139095039) (H : List AB) : CallOK Tryz.prog 202 [.i false .i64 k] H (.f false .f32 (fltOf k)) H := by
  by_cases hk : 0 ≤ k
  · exact flt_pos k hk h1 H
  · have hn : k < 0 := by omega
    have hS := runF_sound tF2_sound 100
    have hr := flt_run2 k
    have hw : IntKind.i64.wrap (0 - k) = -k := by rw [wrap64_id (by omega) (by omega)]; omega
    have hneg : fneg .f32 (fltOf (-k)) = fltOf k := by
      unfold fltOf
      rw [if_pos hn, if_neg (by omega)]
      have hb : (-k).toNat < 2147483648 := by omega
      generalize (-k).toNat = m at hb
      exact neg_word m hb
    refine (call_of_sel (T := runF Tryz.prog tF2 100) (H' := []) hS (v := .f false .f32 (fltOf k)) (nd := [decide (0 ≤ -k) && decide (-k ≤ 2139095039)]) ?_ ?_).lift rfl rfl H rfl
    · rw [hr]; simp only [fltRes, fltNeg, Res.sel, hn, decide_true, if_true, hw, hneg]
    · simp [allT]; omega
noncomputable def gFloat : List AV → Option (AV × List Bool)
  | [.i l .i64 k] => withN1 (.f l .f32 (fltOf k)) (chk l (decide (-2139095039 ≤ k) && decide (k ≤ 2139095039)))
  | _ => none
theorem float_at : SoundAt Tryz.prog 202 (pureT gFloat) := fun args H nd K => by
  refine pureT_sound (fun args v n h hn H => ?_) args H nd K
  unfold gFloat at h
  split at h <;> (try (cases h; done))
  rename_i l k
  obtain ⟨rfl, hc⟩ := withN1_some h
  have hn := chk_spec hc hn
  simp only [Bool.and_eq_true, decide_eq_true_eq] at hn
  exact ((flt_ok k hn.1 hn.2 H).bare (args' := [.i l .i64 k]) rfl).weaken fun σ x r => (by cases r with | f hr => exact .f hr)
end Go.Ax

/- spec.l01Next as a table's row: small numbers are told one by one. -/
namespace Go.Ax
open Go Go.Proofs

def splitK (K : AV → Res) (x : Int) : Nat → Res
  | 0 => K (.i true .i64 (Int.ofNat 0))
  | j + 1 => .ite (decide (x = Int.ofNat (j + 1))) (K (.i true .i64 (Int.ofNat (j + 1)))) (splitK K x j)
theorem splitK_sel (K : AV → Res) (x : Int) : ∀ j, ∃ k : Nat, (splitK K x j).sel = (K (.i true .i64 (Int.ofNat k))).sel ∧ (0 ≤ x → x ≤ j → x = k)
  | 0 => ⟨0, rfl, fun h0 h1 => by omega⟩
  | j + 1 => by
    by_cases h : x = Int.ofNat (j + 1)
    · exact ⟨j + 1, by simp only [splitK, Res.sel, h, decide_true, if_true], fun _ _ => h⟩
    · obtain ⟨k, h1, h2⟩ := splitK_sel K x j
      refine ⟨k, by simp only [splitK, Res.sel, h, decide_false, Bool.false_eq_true, if_false, h1], fun h0 h3 => h2 h0 ?_⟩
      have : x ≠ ((j + 1 : Nat) : Int) := h
      omega

noncomputable def nextT : Table := fun _ args H nd K =>
  match args with
  | [p, .i l .i64 n] => match p with
    | .p _ id off => match readCode (getB H 0), readSrc (getB H id), decide (off = 0) && !decide (id = 0) with
      | some (o', b), some (o, m, a, h), true =>
        match l && decide (1 ≤ n) && decide (n ≤ 9) with
        | true => splitK (fun v => K v (setB H id (srcR o m (nxA ⟨b, o', m⟩ a n) (nxS h n))) (okB ⟨b, o', m⟩ o m :: nd)) (nxV ⟨b, o', m⟩ a h n) (n.toNat - 1)
        | false => K (.i false .i64 (nxV ⟨b, o', m⟩ a h n)) (setB H id (srcR o m (nxA ⟨b, o', m⟩ a n) (nxS h n))) (okB ⟨b, o', m⟩ o m :: nd)
      | _, _, _ => .fail
    | _ => .fail
  | _ => .fail

theorem next_at : SoundAt Tryz.prog 72 nextT := fun args H nd K => by
  unfold nextT
  split
  case h_2 => exact .inl rfl
  rename_i p l n
  split
  case h_2 => exact .inl rfl
  rename_i lp id off
  split
  case h_2 => exact .inl rfl
  rename_i o' b o m a h hc hs h0
  simp only [Bool.and_eq_true, decide_eq_true_eq, Bool.not_eq_true', decide_eq_false_iff_not] at h0
  obtain ⟨rfl, h0⟩ := h0
  have main : ∀ v : AV, (okB ⟨b, o', m⟩ o m = true → v.bare = .i false .i64 (nxV ⟨b, o', m⟩ a h n)) → allT (okB ⟨b, o', m⟩ o m :: nd) = true →
      allT nd = true ∧ CallOK Tryz.prog 72 [.p lp id 0, .i l .i64 n] H v (setB H id (srcR o m (nxA ⟨b, o', m⟩ a n) (nxS h n))) := fun v hv hn => by
    simp only [allT, Bool.and_eq_true] at hn
    have hg : goodB ⟨b, o', m⟩ = true := by have := hn.1; simp only [okB, Bool.and_eq_true] at this; exact this.1.1
    have ho : o = o' := by have := hn.1; simp only [okB, Bool.and_eq_true, decide_eq_true_eq] at this; exact this.1.2
    subst ho
    obtain ⟨H2, k, e1, e2, e3⟩ := next_ok hg a h n
    refine ⟨hn.2, ?_⟩
    have hk := (k.src e1 e2 e3 (l := lp) (id := id) (H := H) hc h0 hs).bare (args' := [.p lp id 0, .i l .i64 n]) rfl
    refine hk.weaken fun σ x r => ?_
    have := hv hn.1
    rw [← this] at r
    exact r.unbare
  split
  · rename_i hl
    simp only [Bool.and_eq_true, decide_eq_true_eq] at hl
    obtain ⟨k, e1, e2⟩ := splitK_sel (fun v => K v (setB H id (srcR o m (nxA ⟨b, o', m⟩ a n) (nxS h n))) (okB ⟨b, o', m⟩ o m :: nd)) (nxV ⟨b, o', m⟩ a h n) (n.toNat - 1)
    refine .inr ⟨_, _, _, e1, fun hn => main _ (fun hk => ?_) hn⟩
    have hg : goodB ⟨b, o', m⟩ = true := by simp only [okB, Bool.and_eq_true] at hk; exact hk.1.1
    have hb := nxV_bound hg a h n
    have hb2 := hb.2 hl.1.2
    have := e2 hb.1 (by omega)
    rw [this]; rfl
  · exact .inr ⟨_, _, _, rfl, fun hn => main _ (fun _ => rfl) hn⟩

theorem list_two {α : Type} {p : α → Prop} {x y : α} (hx : p x) (hy : p y) : ∀ z ∈ [x, y], p z := by
  intro z hz
  simp only [List.mem_cons, List.not_mem_nil, or_false] at hz
  rcases hz with rfl | rfl
  · exact hx
  · exact hy
def allAt (P : Program) : List (FuncId × Table) → Prop
  | [] => True
  | p :: l => SoundAt P p.1 p.2 ∧ allAt P l
theorem allAt_mem {P : Program} : ∀ {l : List (FuncId × Table)}, allAt P l → ∀ p ∈ l, SoundAt P p.1 p.2
  | [], _, p, hp => by cases hp
  | q :: l, h, p, hp => by
    cases hp with
    | head => exact h.1
    | tail _ hp => exact allAt_mem h.2 p hp
noncomputable def rows1 : List (FuncId × Table) := [(72, nextT), (202, pureT gFloat)]
theorem rows1_at : allAt Tryz.prog rows1 := ⟨next_at, float_at, trivial⟩
end Go.Ax

/- spec.l01DrawNumber: some number. -/
namespace Go.Ax
open Go Go.Proofs

def plc (x : Int) : Bool := decide (-2139095039 ≤ x) && decide (x ≤ 2139095039)
def numNd (k : Bool) (x0 x1 x2 x3 x4 : Int) : List Bool :=
  List.replicate 41 k ++ ([plc (x1)] ++ (List.replicate 5 k ++ ([plc (IntKind.i64.wrap (0 - x1))] ++ (List.replicate 5 k ++ ([plc (IntKind.i64.wrap (2139095039 - x2))] ++ (List.replicate 5 k ++ ([plc (IntKind.i64.wrap (0 - IntKind.i64.wrap (2139095039 - x2)))] ++ (List.replicate 5 k ++ ([plc (IntKind.i64.wrap (x3 * 8388608))] ++ (List.replicate 5 k ++ ([plc (IntKind.i64.wrap (0 - IntKind.i64.wrap (x3 * 8388608)))] ++ (List.replicate 5 k ++ ([plc (IntKind.i64.wrap (IntKind.i64.wrap (52 * 8388608) + x4))] ++ (List.replicate 6 k ++ ([plc (IntKind.i64.wrap (0 - IntKind.i64.wrap (IntKind.i64.wrap (52 * 8388608) + x4)))] ++ (List.replicate 6 k ++ ([plc (IntKind.i64.wrap (IntKind.i64.wrap (190 * 8388608) + x4))] ++ (List.replicate 6 k ++ ([plc (IntKind.i64.wrap (0 - IntKind.i64.wrap (IntKind.i64.wrap (190 * 8388608) + x4)))] ++ (List.replicate 6 k ++ ([plc (IntKind.i64.wrap (IntKind.i64.wrap (63 * 8388608) + x4))] ++ (List.replicate 6 k ++ ([plc (IntKind.i64.wrap (0 - IntKind.i64.wrap (IntKind.i64.wrap (63 * 8388608) + x4)))] ++ (List.replicate 6 k ++ ([plc (x0)] ++ (List.replicate 4 k ++ ([plc (IntKind.i64.wrap (0 - x0))] ++ (List.replicate 3 k))))))))))))))))))))))))))))
theorem plc_true (x : Int) (h : -2139095039 ≤ x ∧ x ≤ 2139095039) : plc x = true := by
  simp [plc, h.1, h.2]
theorem allT_rep : ∀ (n : Nat), allT (List.replicate n true) = true
  | 0 => rfl
  | n + 1 => by simpa [List.replicate_succ, allT] using allT_rep n
theorem numNd_true (x0 x1 x2 x3 x4 : Int) (h0 : 0 ≤ x0 ∧ x0 < 2139095040) (h1 : 0 ≤ x1 ∧ x1 < 16777216) (h2 : 0 ≤ x2 ∧ x2 < 4194304) (h3 : 0 ≤ x3 ∧ x3 < 255) (h4 : 0 ≤ x4 ∧ x4 < 16777216) : allT (numNd true x0 x1 x2 x3 x4) = true := by
  have w : ∀ y : Int, -9223372036854775808 ≤ y ∧ y ≤ 9223372036854775807 → IntKind.i64.wrap y = y := fun y h => wrap64_id h.1 h.2
  unfold numNd
  have e1 : IntKind.i64.wrap (52 * 8388608) = 436207616 := by rw [w _ (by omega)]; rfl
  have e2 : IntKind.i64.wrap (190 * 8388608) = 1593835520 := by rw [w _ (by omega)]; rfl
  have e3 : IntKind.i64.wrap (63 * 8388608) = 528482304 := by rw [w _ (by omega)]; rfl
  rw [e1, e2, e3, w (0 - x1) (by omega), w (2139095039 - x2) (by omega), w (0 - (2139095039 - x2)) (by omega), w (x3 * 8388608) (by omega), w (0 - x3 * 8388608) (by omega),
    w (436207616 + x4) (by omega), w (0 - (436207616 + x4)) (by omega), w (1593835520 + x4) (by omega), w (0 - (1593835520 + x4)) (by omega), w (528482304 + x4) (by omega), w (0 - (528482304 + x4)) (by omega), w (0 - x0) (by omega)]
  simp only [allT_append, allT_rep, allT, Bool.true_and, Bool.and_true]
  repeat rw [plc_true _ (by omega)]
  rfl

def formF : Form Nat where
  get := fun | .f _ .f32 x => some x | _ => none
  val := fun x => .f false .f32 x
  rel := fun {v x} h σ y r => by
    split at h <;> cases h
    cases r with | f hr => exact .f hr
  low := fun _ => rfl
noncomputable def tab1 : Table := deep Tryz.prog rows1 [73] 1000 5
theorem tab1_sound : SoundT Tryz.prog tab1 := deep_sound (allAt_mem rows1_at) 5
noncomputable def number (c : Cd) (a : Nat) (h : Int) : Option (Nat × Nat × Int × List Bool) :=
  srcEx formF c (runF Tryz.prog tab1 1000 181 [.p true 1 0] [codeB c false, srcB c a h] [] fun v H nd => .ret v H nd)
theorem number_nd (c : Cd) (a : Nat) (h : Int) : (number c a h).map (fun r => r.2.2.2) = some (numNd (okB c c.off c.len) (nxV c a h 2139095040) (nxV c (nxA c (nxA c a 2139095040) 10) (nxS (nxS h 2139095040) 10) 16777216)
    (nxV c (nxA c (nxA c a 2139095040) 10) (nxS (nxS h 2139095040) 10) 4194304) (nxV c (nxA c (nxA c a 2139095040) 10) (nxS (nxS h 2139095040) 10) 255)
    (nxV c (nxA c (nxA c (nxA c a 2139095040) 10) 3) (nxS (nxS (nxS h 2139095040) 10) 3) 16777216)) := by kernel_rfl
theorem number_ex {c : Cd} (hc : goodB c = true) (a : Nat) (h : Int) : ∃ x a' h', SrcOK Tryz.prog 181 [] c a h (.f false .f32 x) a' h' := by
  have hn := number_nd c a h
  have hk : okB c c.off c.len = true := by simp [okB, hc]
  cases hr : number c a h with
  | none => rw [hr] at hn; cases hn
  | some r =>
    obtain ⟨x, a', h', nd⟩ := r
    rw [hr] at hn
    simp only [Option.map_some, Option.some.injEq] at hn
    refine ⟨x, a', h', srcOK_of_ex (F := formF) (runF_sound tab1_sound 1000) hr ?_ rfl⟩
    rw [hn, hk]
    have b : ∀ a h n, 1 ≤ n → 0 ≤ nxV c a h n ∧ nxV c a h n < n := fun a h n hn => ⟨(nxV_bound hc a h n).1, (nxV_bound hc a h n).2 hn⟩
    exact numNd_true _ _ _ _ _ (b _ _ _ (by decide)) (b _ _ _ (by decide)) (b _ _ _ (by decide)) (b _ _ _ (by decide)) (b _ _ _ (by decide))

/-- The number drawn, and the state behind it. -/
noncomputable def numV (c : Cd) (a : Nat) (h : Int) : Nat × Nat × Int :=
  open Classical in if hx : ∃ r : Nat × Nat × Int, SrcOK Tryz.prog 181 [] c a h (.f false .f32 r.1) r.2.1 r.2.2 then hx.choose else (0, a, h)
theorem numV_ok {c : Cd} (hc : goodB c = true) (a : Nat) (h : Int) : SrcOK Tryz.prog 181 [] c a h (.f false .f32 (numV c a h).1) (numV c a h).2.1 (numV c a h).2.2 := by
  obtain ⟨x, a', h', hx⟩ := number_ex hc a h
  have he : ∃ r : Nat × Nat × Int, SrcOK Tryz.prog 181 [] c a h (.f false .f32 r.1) r.2.1 r.2.2 := ⟨(x, a', h'), hx⟩
  unfold numV
  rw [dif_pos he]
  exact he.choose_spec
noncomputable def numT : Table := srcT fun c a h sc => match sc with
  | [] => some (.f false .f32 (numV c a h).1, (numV c a h).2.1, (numV c a h).2.2, [])
  | _ => none
theorem num_at : SoundAt Tryz.prog 181 numT := fun args H nd K => by
  refine srcT_sound (fun c a h sc v a' h' q hc hg _ => ?_) args H nd K
  split at hg <;> cases hg
  exact numV_ok hc a h
end Go.Ax

/- Blocks that are out of use dropped. -/
namespace Go.Ax
open Go

def renI (k i : Nat) : Option Nat := match decide (i < k) with
  | true => some i
  | false => match decide (i = k) with
    | true => none
    | false => some (i - 1)
mutual
def renV (k : Nat) : AV → AV
  | .p l id off => match renI k id with
    | some j => .p l j off
    | none => .any
  | .sl l id off len z => match renI k id with
    | some j => .sl l j off len z
    | none => .any
  | .fn g f c => .fn g (renL k f) (renL k c)
  | .ifc t v => .ifc t (renV k v)
  | .agg l => .agg (renL k l)
  | .tup l => .tup (renL k l)
  | v => v
def renL (k : Nat) : List AV → List AV
  | [] => []
  | a :: l => renV k a :: renL k l
end
def renB (k : Nat) : AB → AB
  | .cells r (.lit l) => .cells r (.lit (renL k l))
  | b => b
def dropB (k0 : Nat) : Nat → List AB → List AB
  | _, [] => []
  | 0, _ :: l => l.map (renB k0)
  | k + 1, a :: l => renB k0 a :: dropB k0 k l
def dropS : Nat → List (Nat × Nat) → List (Nat × Nat)
  | _, [] => []
  | 0, _ :: l => l
  | k + 1, a :: l => a :: dropS k l

theorem dropS_get : ∀ (k i : Nat) (l : List (Nat × Nat)), (dropS k l)[i]? = if i < k then l[i]? else l[i + 1]?
  | k, i, [] => by cases k <;> simp [dropS]
  | 0, i, a :: l => by simp [dropS]
  | k + 1, 0, a :: l => by simp [dropS]
  | k + 1, i + 1, a :: l => by simp only [dropS, List.getElem?_cons_succ, dropS_get k i l, Nat.add_lt_add_iff_right]
theorem dropB_get (k0 : Nat) : ∀ (k i : Nat) (l : List AB), getB (dropB k0 k l) i = renB k0 (getB l (if i < k then i else i + 1))
  | k, i, [] => by cases k <;> simp [dropB, getB, renB]
  | 0, i, a :: l => by
    have : ∀ (l : List AB) (i : Nat), getB (l.map (renB k0)) i = renB k0 (getB l i) := by
      intro l
      induction l with
      | nil => intro i; rfl
      | cons a l ih => intro i; cases i with
        | zero => rfl
        | succ i => exact ih i
    simp only [dropB, Nat.not_lt_zero, if_false, getB]
    exact this l i
  | k + 1, 0, a :: l => by simp [dropB, getB]
  | k + 1, i + 1, a :: l => by
    simp only [dropB, getB, Nat.add_lt_add_iff_right]
    rw [dropB_get k0 k i l]
    split <;> rfl
theorem dropS_length : ∀ (k : Nat) (l : List (Nat × Nat)), k < l.length → (dropS k l).length + 1 = l.length
  | _, [], h => by simp at h
  | 0, _ :: l, _ => rfl
  | k + 1, _ :: l, h => by simp only [dropS, List.length_cons]; rw [dropS_length k l (by simpa using h)]
theorem dropB_length (k0 : Nat) : ∀ (k : Nat) (l : List AB), k < l.length → (dropB k0 k l).length + 1 = l.length
  | _, [], h => by simp at h
  | 0, _ :: l, _ => by simp [dropB]
  | k + 1, _ :: l, h => by simp only [dropB, List.length_cons]; rw [dropB_length k0 k l (by simpa using h)]

theorem renI_get {k i j : Nat} {σ : List (Nat × Nat)} {b : Nat × Nat} (h : renI k i = some j) (hb : σ[i]? = some b) : (dropS k σ)[j]? = some b := by
  unfold renI at h
  split at h
  · cases h
    rename_i hlt
    rw [dropS_get, if_pos (by simpa using hlt)]; exact hb
  · rename_i h1
    have h1 : ¬ i < k := of_decide_eq_false h1
    split at h
    · cases h
    · rename_i h2
      have h2 : ¬ i = k := of_decide_eq_false h2
      cases h
      rw [dropS_get, if_neg (by omega), show i - 1 + 1 = i by omega]; exact hb
mutual
theorem renV_rel {k : Nat} {σ : List (Nat × Nat)} : ∀ {a : AV} {v : Value}, Rel σ a v → Rel (dropS k σ) (renV k a) v
  | _, _, .b x => .b x
  | _, _, .i k n => .i k n
  | _, _, .f h => .f h
  | _, _, .c h h' => .c h h'
  | _, _, .s l => .s l
  | _, _, .p (id := id) h => by
    simp only [renV]
    split
    · rename_i j hj; exact .p (renI_get hj h)
    · exact .any
  | _, _, .pnil => .pnil
  | _, _, .sl (id := id) h hc hz => by
    simp only [renV]
    split
    · rename_i j hj; exact .sl (renI_get hj h) hc hz
    · exact .any
  | _, _, .slz (id := id) => by
    simp only [renV]
    split
    · exact .slz
    · exact .any
  | _, _, .slnil => .slnil
  | _, _, .sle => .sle
  | _, _, .fn h h' => .fn (renL_rel h) (renL_rel h')
  | _, _, .fnil => .fnil
  | _, _, .ifc h => .ifc (renV_rel h)
  | _, _, .inil => .inil
  | _, _, .agg h => .agg (renL_rel h)
  | _, _, .tup h => .tup (renL_rel h)
  | _, _, .any => .any
theorem renL_rel {k : Nat} {σ : List (Nat × Nat)} : ∀ {a : List AV} {v : List Value}, RelL σ a v → RelL (dropS k σ) (renL k a) v
  | _, _, .nil => .nil
  | _, _, .cons h hs => .cons (renV_rel h) (renL_rel hs)
end
theorem renL_map (k : Nat) : ∀ (l : List AV), renL k l = l.map (renV k)
  | [] => rfl
  | a :: l => by simp [renL, renL_map k l]
theorem renB_rw (k : Nat) (B : AB) : (renB k B).rw = B.rw ∧ (renB k B).live = B.live := by
  cases B with
  | dead => exact ⟨rfl, rfl⟩
  | cells r A => cases A <;> exact ⟨rfl, rfl⟩
  | code _ _ => exact ⟨rfl, rfl⟩
theorem renB_blk {k : Nat} {σ : List (Nat × Nat)} {z : Nat} {B : AB} {o : Option Obj} (h : BlkRel σ z B o) : BlkRel (dropS k σ) z (renB k B) o := by
  cases B with
  | dead => trivial
  | code _ _ => exact h
  | cells r A =>
    obtain ⟨c, e, fr, h1, h2, h3⟩ := h
    have scal : ∀ {x : AV}, (∀ (y : Value), Rel σ x y → Rel (dropS k σ) x y) → ∀ (y : Value), Rel σ x y → Rel (dropS k σ) x y := fun h => h
    cases A with
    | lit l =>
      refine ⟨c, e, fr, h1, fun j a ha => ?_, h3⟩
      simp only [Cells.toL, renL_map, List.getElem?_map, Option.map_eq_some_iff] at ha
      obtain ⟨a0, ha0, rfl⟩ := ha
      obtain ⟨v, hv, hr⟩ := h2 j a0 ha0
      exact ⟨v, hv, renV_rel hr⟩
    | _ =>
      refine ⟨c, e, fr, h1, fun j a ha => ?_, h3⟩
      obtain ⟨v, hv, hr⟩ := h2 j a ha
      refine ⟨v, hv, ?_⟩
      simp only [Cells.toL, List.getElem?_map, Option.map_eq_some_iff] at ha
      obtain ⟨y, _, rfl⟩ := ha
      have := renV_rel (k := k) hr
      exact this

section
variable {P : Program}
theorem drop_sim {σ σ1 : List (Nat × Nat)} {H H1 : List AB} {w w' : World} (hσ : σ.length = H.length) (s1 : Sim σ1 H1 w') (f1 : Fr σ H w σ1 H1 w') (k : Nat) (hk : H.length ≤ k) (hk1 : k < H1.length) :
    Sim (dropS k σ1) (dropB k k H1) w' ∧ Fr σ H w (dropS k σ1) (dropB k k H1) w' := by
  have hk2 : k < σ1.length := by rw [s1.len]; exact hk1
  have hkσ : σ.length ≤ k := by rw [hσ]; exact hk
  refine ⟨⟨?_, fun i b z hb => ?_, fun i j b z z' hi hj hr hl => ?_⟩, ?_⟩
  · have h1 := dropS_length k σ1 hk2
    have h2 := dropB_length k k H1 hk1
    have h3 := s1.len
    omega
  · rw [dropB_get]
    rw [dropS_get] at hb
    by_cases hik : i < k
    · rw [if_pos hik] at hb ⊢; exact renB_blk (s1.blk i b z hb)
    · rw [if_neg hik] at hb ⊢; exact renB_blk (s1.blk (i + 1) b z hb)
  · rw [dropB_get, (renB_rw _ _).1] at hr
    rw [dropB_get, (renB_rw _ _).2] at hl
    rw [dropS_get] at hi hj
    have hi' : σ1[if i < k then i else i + 1]? = some (b, z) := by split <;> simp_all
    have hj' : σ1[if j < k then j else j + 1]? = some (b, z') := by split <;> simp_all
    have := s1.inj _ _ b z z' hi' hj' hr hl
    split at this <;> split at this <;> omega
  · refine ⟨f1.os, f1.tape, f1.output, f1.size, f1.old, fun i x hx => ?_, fun i b z hb hn => ?_, fun i hi hr => ?_⟩
    · have hlt := isSome_lt hx
      rw [dropS_get, if_pos (by omega)]
      exact f1.ext i x hx
    · rw [dropS_get] at hb
      have hlt : σ.length ≤ i := by
        rcases Nat.lt_or_ge i σ.length with h' | h'
        · rw [List.getElem?_eq_getElem h'] at hn; cases hn
        · exact h'
      split at hb
      · exact f1.new i b z hb hn
      · exact f1.new (i + 1) b z hb (List.getElem?_eq_none (by omega))
    · rw [dropB_get, if_pos (by omega), (renB_rw _ _).1] at hr
      exact f1.mono i hi hr
/-- A block made on the way is dropped, and what names it. -/
theorem Reach.drop {todo todo' : List Item} {t t1 : List AV} {H H1 : List AB} (h : Reach P todo t H todo' t1 H1) (k : Nat) (hk : H.length ≤ k) (hk1 : k < H1.length) :
    Reach P todo t H todo' (renL k t1) (dropB k k H1) := fun σ w a b cs s r => by
  obtain ⟨a', w', σ1, e1, r1, d1, s1, f1⟩ := h σ w a b cs s r
  obtain ⟨s2, f2⟩ := drop_sim s.len s1 f1 k hk hk1
  exact ⟨a', w', dropS k σ1, e1, renL_rel r1, d1, s2, f2⟩
theorem CallOK.drop {f : FuncId} {args : List AV} {v : AV} {H H1 : List AB} (h : CallOK P f args H v H1) (k : Nat) (hk : H.length ≤ k) (hk1 : k < H1.length) : CallOK P f args H (renV k v) (dropB k k H1) := fun σ w rargs s hra => by
  refine (h σ w rargs s hra).mono ?_
  rintro e w' ⟨rv, rfl, σ1, r1, s1, f1⟩
  obtain ⟨s2, f2⟩ := drop_sim s.len s1 f1 k hk hk1
  exact ⟨rv, rfl, dropS k σ1, renV_rel r1, s2, f2⟩

/-- Places whose value is of no further use. -/
def blur : List Bool → List AV → List AV
  | m :: ms, a :: l => (match m with
    | true => .any
    | false => a) :: blur ms l
  | _, l => l
theorem blur_length : ∀ (m : List Bool) (l : List AV), (blur m l).length = l.length
  | [], l => by cases l <;> rfl
  | _ :: _, [] => rfl
  | _ :: ms, _ :: l => by simp [blur, blur_length ms l]
theorem blur_eqv : ∀ (m : List Bool) (l : List AV), Eqv l (blur m l)
  | [], l => by cases l <;> exact Eqv.refl _
  | _ :: _, [] => Eqv.refl _
  | m :: ms, a :: l => by
    refine ⟨by rw [blur_length], fun σ n v r => ?_⟩
    cases n with
    | zero =>
      simp only [blur, getL] at r ⊢
      cases m
      · exact r
      · exact .any
    | succ n =>
      simp only [blur, getL] at r ⊢
      exact (blur_eqv ms l).2 σ n v r
end
end Go.Ax
