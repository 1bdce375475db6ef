/- Regions and straight code: all ways joined. -/
import Derived.Test.YtdcjjibekhcplaaBah
namespace Go.Ax
open Go

structure JS where
  t : Tm
  H : List AB
  ds : List Nat
  ws : List (Nat × Nat)
  nd : List Bool
def dsts (l : List Oper) : List Nat := l.filterMap (·.dst)
theorem mem_dsts {l : List Oper} {o : Oper} {d : Nat} (ho : o ∈ l) (hd : o.dst = some d) : d ∈ dsts l := List.mem_filterMap.2 ⟨o, ho, hd⟩
/-- Operations that may come behind the first one that writes. -/
def tailOK (o : Oper) : Bool :=
  match o.guard with
  | some _ => false
  | none => match o.op with
    | .alloc _ => false
    | .box _ _ => false
    | .buildSlice _ _ _ => false
    | .makeSlice _ _ _ => false
    | .call c => match c.callee with
      | .builtin .append => false
      | .builtin _ => true
      | _ => false
    | _ => true

section
variable (P : Program) (T : Table)
noncomputable def tRun : List Oper → Tm → List AB → List Bool → Option (Tm × List AB × List (Nat × Nat) × List Bool)
  | [], t, H, nd => some (t, H, [], nd)
  | o :: rest, t, H, nd => match o.guard with
    | some _ => none
    | none => match o.op.operands.all okOpd with
      | false => none
      | true => match o.op with
        | .store ty a x => match evB t a with
          | .p l id off => match l && okCell (evB t x) with
            | true => match aStore P ty (.p true id off) (evB t x) H with
              | some (v, H', n) => match tRun rest (putB t o.dst v) H' (n ++ nd) with
                | some (t', H', ws, nd) => some (t', H', (id, off) :: ws, nd)
                | none => none
              | none => none
            | false => none
          | _ => none
        | op => match aop P op (evB t) H with
          | some (v, n) => tRun rest (putB t o.dst v) H (n ++ nd)
          | none => none
noncomputable def jReg (ops : Array Oper) : CF (Tm → List AB → Option JS) :=
  match cOpsQ P T ops (ops.toList.take (quietN ops.toList)) with
  | .mk f => .mk fun t H => match joinD (f t H [] fun t nd => .ret (.tup ((dsts (ops.toList.take (quietN ops.toList))).map (gt t))) [] nd) with
    | some (vs, nd) => match Nat.beq vs.length (dsts (ops.toList.take (quietN ops.toList))).length with
      | true => match tRun P (ops.toList.drop (quietN ops.toList)) (putDs (dsts (ops.toList.take (quietN ops.toList))) vs t) H nd with
        | some (t', H', ws, nd) => some ⟨t', H', dsts (ops.toList.take (quietN ops.toList)) ++ dsts (ops.toList.drop (quietN ops.toList)), ws, nd⟩
        | none => none
      | false => none
    | none => none
end

section
variable {P : Program} {T : Table} {ops : Array Oper}
theorem pt_store {ty : TypeId} {id off : Nat} {x v : AV} {H H' : List AB} {n : List Bool} (hx : okCell x = true) (h : aStore P ty (.p true id off) x H = some (v, H', n)) : Pt H H' [(id, off)] := by
  unfold aStore at h
  simp only [Bool.true_or] at h
  split at h <;> (try (cases h; done))
  rename_i A hg
  split at h <;> (try (cases h; done))
  split at h <;> (try (cases h; done))
  rename_i B hB
  split at h <;> (try (cases h; done))
  unfold consN at h
  split at h <;> cases h
  rw [okCell_cells hx] at hB
  exact Pt.set hg hB
theorem wants_none {o : Oper} {t : List AV} (hg : o.guard = none) : Wants ops o t true := fun σ tm _ => by simp [Region.wanted, hg]
theorem tRun_sound : ∀ (l : List Oper) (k : Nat) (τ : Tm) (t : List AV) (H : List AB) (nd : List Bool) {τ' : Tm} {H' : List AB} {ws : List (Nat × Nat)} {nd' : List Bool}, l = ops.toList.drop k → k ≤ ops.size → R τ t → tRun P l τ H nd = some (τ', H', ws, nd') →
    ∃ t', R τ' t' ∧ t'.length = t.length ∧ (∀ n, n ∉ dsts l → getL t' n = getL t n) ∧ Pt H H' ws ∧ (allT nd' = true → allT nd = true ∧ Chain P ops k t H ops.size t' H')
  | [], k, τ, t, H, nd, τ', H', ws, nd', hl, hk, hR, h => by
    have : ops.size ≤ k := by
      have := congrArg List.length hl
      simp at this; omega
    have : k = ops.size := by omega
    subst this
    simp only [tRun, Option.some.injEq, Prod.mk.injEq] at h
    obtain ⟨rfl, rfl, rfl, rfl⟩ := h
    exact ⟨t, hR, rfl, fun _ _ => rfl, Pt.refl _ _, fun h => ⟨h, .nil⟩⟩
  | o :: rest, k, τ, t, H, nd, τ', H', ws, nd', hl, hk, hR, h => by
    obtain ⟨ho, hrest⟩ := drop_cons hl
    have ho' : ops[k]? = some o := by simpa using ho
    have hks : k < ops.size := (Array.getElem?_eq_some_iff.1 ho').1
    rw [tRun] at h
    split at h <;> (try (cases h; done))
    rename_i hg
    split at h <;> (try (cases h; done))
    rename_i hok
    have shape : ∀ {v : AV} {t' : List AV}, (∀ n, n ∉ dsts rest → getL t' n = getL (putT t o.dst v) n) → ∀ n, n ∉ dsts (o :: rest) → getL t' n = getL t n := fun {v t'} hs n hn => by
      have h1 : n ∉ dsts rest := fun h => hn (by
        obtain ⟨x, hx, hd⟩ := List.mem_filterMap.1 h
        exact mem_dsts (List.mem_cons_of_mem _ hx) hd)
      have h2 : o.dst ≠ some n := fun h => hn (mem_dsts List.mem_cons_self h)
      rw [hs n h1, getL_putT_ne h2]
    split at h
    · rename_i ty a x hop
      split at h <;> (try (cases h; done))
      rename_i l id off ha
      split at h <;> (try (cases h; done))
      rename_i hlx
      rw [Bool.and_eq_true] at hlx
      obtain ⟨rfl, hx⟩ := hlx
      split at h <;> (try (cases h; done))
      rename_i v H1 n1 hst
      split at h <;> cases h
      rename_i τ2 H2 ws2 nd2 hr
      obtain ⟨t', r1, r2, r3, r4, r5⟩ := tRun_sound rest (k + 1) _ (putT t o.dst v) H1 (n1 ++ nd) hrest hks (hR.put o.dst v) hr
      refine ⟨t', r1, by rw [r2, putT_length], shape r3, (pt_store hx hst).trans r4, fun hn => ?_⟩
      obtain ⟨r6, r7⟩ := r5 hn
      rw [allT_append, Bool.and_eq_true] at r6
      refine ⟨r6.2, .cons ?_ r7⟩
      intro σ w a0 Q next s r q
      simp only [wpOp, ho', wants_none hg σ a0.tmps (relL_looks (ops := ops) r o), if_true]
      refine .inl ?_
      rw [hR.ev] at ha hst
      have he : eop P o.op (evA t) H = some (v, H1, n1) := by
        rw [hop]; show aStore P ty (evA t a) (evA t x) H = _
        rw [ha]; exact hst
      obtain ⟨rv, w', e1, σ', e2, e3, e4⟩ := eop_out (ρ := a0.eval) he r6.1 s (opds_ok hok r)
      show o.upon P a0 next Q ((execOp a0.eval o).run P w)
      rcases e1 with e1 | ⟨e1, rfl⟩
      · rw [e1]
        exact q _ _ σ' (RelL.put (RelL.mono e4.ext r) e2) (put_defers _ _ _) e3 e4
      · rw [e1]
        exact q _ _ σ' (RelL.put (RelL.mono e4.ext r) e2) (put_defers _ _ _) e3 e4
    · split at h <;> (try (cases h; done))
      rename_i v n1 hao
      obtain ⟨t', r1, r2, r3, r4, r5⟩ := tRun_sound rest (k + 1) _ (putT t o.dst v) H (n1 ++ nd) hrest hks (hR.put o.dst v) h
      refine ⟨t', r1, by rw [r2, putT_length], shape r3, r4, fun hn => ?_⟩
      obtain ⟨r6, r7⟩ := r5 hn
      rw [allT_append, Bool.and_eq_true] at r6
      refine ⟨r6.2, .cons ?_ r7⟩
      intro σ w a0 Q next s r q
      simp only [wpOp, ho', wants_none hg σ a0.tmps (relL_looks (ops := ops) r o), if_true]
      refine .inl ?_
      rw [hR.ev] at hao
      obtain ⟨rv, w', e1, e2, e3⟩ := aop_gives (ρ := a0.eval) hao r6.1 s (opds_ok hok r)
      show o.upon P a0 next Q ((execOp a0.eval o).run P w)
      rw [e1]
      exact q _ _ σ (r.put e2) (put_defers _ _ _) (e3.sim s) e3.fr
theorem QChain.toChain {k m j : Nat} {t t1 t' : List AV} {H H' : List AB} (c : QChain P ops H k t m t1) : Chain P ops m t1 H j t' H' → Chain P ops k t H j t' H' := by
  induction c with
  | nil => exact fun h => h
  | @cons k m t t1 v h c ih =>
    intro d
    refine .cons ?_ (ih d)
    obtain ⟨o, ho, hq⟩ := h
    intro σ w a Q next s r q
    refine hq σ w a Q next s (fun n _ => r.getD n) (by have := r.length; simpa using this.symm) fun rv w' hr s' f' => ?_
    have hgd : gDst ops k = o.dst := by simp [gDst, ho]
    exact q _ _ σ (by rw [hgd]; exact r.put hr) (put_defers _ _ _) s' f'
/-- A region out of its two parts. -/
theorem region_of {id : Nat} {draw : Bool} {t t1 t' : List AV} {H H' : List AB} (hd : draw = false ∨ (P.follows .mixedOrders && drawOK ops (quietN ops.toList)) = true) (qc : QChain P ops H 0 t (quietN ops.toList) t1) (c : Chain P ops (quietN ops.toList) t1 H ops.size t' H') : RegionOK P id ops draw t H t' H' := by
  intro σ w a Q s r q
  by_cases hdr : draw = false
  · subst hdr
    refine wp_region ?_
    have := (qc.toChain c).wpOps s r q
    rwa [Nat.sub_zero, ← List.range_eq_range'] at this
  · have hdt : draw = true := by simpa using hdr
    subst hdt
    rcases hd with hd | hd
    · cases hd
    rw [Bool.and_eq_true] at hd
    obtain ⟨hf, hok⟩ := hd
    have hm : quietN ops.toList ≤ ops.size := by have := quietN_le ops.toList; simpa using this
    obtain ⟨val, _, hst, hv⟩ := qc.vals
    have c3 := c
    rw [hst, Nat.sub_zero] at c3
    refine wp_region_any hf ?_
    have hnl : ∀ i, ¬ Ls (Array.replicate ops.size false) i := fun i => by
      unfold Ls
      rw [Array.getD_eq_getD_getElem?]
      by_cases hi : i < ops.size
      · simp [Array.getElem?_replicate, hi]
      · simp [Array.getElem?_replicate, hi]
    have hsm : Same w { w with drawn := w.drawn + 1 } := Same.drew w
    refine any_pre hok hm (fun i hi => hv i (Nat.zero_le _) hi) c3 ops.size _ a _ (by simp) (fun i o _ hl => absurd hl (hnl i)) ?_ (fun i _ => hnl i) (hsm.sim s) ?_ (fun x => ⟨fun i _ hl => absurd hl (hnl i), fun _ => r.getD x⟩)
      fun a' w' σ' r' d' s' f' => q a' w' σ' r' d' s' (hsm.fr.trans f')
    · have := List.length_filter_le (fun i => !(Array.replicate ops.size false).getD i false) (List.range ops.size)
      simp only [List.length_range] at this
      exact this
    · have := r.length; simpa using this.symm
theorem RegionOK.weak {id : Nat} {draw : Bool} {t t1 t' : List AV} {H H' : List AB} (h : RegionOK P id ops draw t H t1 H') (e : Eqv t1 t') : RegionOK P id ops draw t H t' H' := fun σ w a Q s r q =>
  h σ w a Q s r fun a' w' σ' r' => q a' w' σ' (e.relL r')
theorem getL_map_gt {τ : Tm} {t : List AV} (h : R τ t) (ds : List Nat) : ds.map (gt τ) = ds.map (getL t) := List.map_congr_left fun n _ => h.get n
theorem jReg_sound (hT : SoundT P T) {id : Nat} {draw : Bool} (hd : draw = false ∨ (P.follows .mixedOrders && drawOK ops (quietN ops.toList)) = true) {τ : Tm} {t : List AV} {H : List AB} {s : JS} (h : R τ t) (e : (jReg P T ops).app τ H = some s) :
    ∃ t', R s.t t' ∧ t'.length = t.length ∧ (∀ n, n ∉ s.ds → getL t' n = getL t n) ∧ Pt H s.H s.ws ∧ (allT s.nd = true → RegionOK P id ops draw t H t' s.H) := by
  unfold jReg at e
  have hq := cOpsQ_eq (P := P) (T := T) ops (ops.toList.take (quietN ops.toList))
  cases hf : cOpsQ P T ops (ops.toList.take (quietN ops.toList)) with
  | mk f =>
    rw [hf] at e hq
    dsimp only [CF.app] at e hq
    generalize hm : quietN ops.toList = m at *
    have hms : m ≤ ops.size := by have := quietN_le ops.toList; rw [hm] at this; simpa using this
    split at e <;> (try (cases e; done))
    rename_i vs nd hj
    split at e <;> (try (cases e; done))
    rename_i hlen
    have hlen := Nat.eq_of_beq_eq_true hlen
    split at e <;> cases e
    rename_i τ2 H2 ws nd2 hr
    generalize hds : dsts (ops.toList.take m) = ds at *
    obtain ⟨t', r1, r2, r3, r4, r5⟩ := tRun_sound (P := P) (ops := ops) (ops.toList.drop m) m _ (putDsL ds vs t) H nd rfl hms (putDs_R ds vs h) hr
    refine ⟨t', r1, by rw [r2, putDsL_len], fun n hn => ?_, r4, fun hnd => ?_⟩
    · simp only [List.mem_append, not_or] at hn
      rw [r3 n hn.2, putDsL_out _ _ _ _ hn.1]
    · obtain ⟨hnd1, c⟩ := r5 hnd
      obtain ⟨vs', H', nd', e1, e2, e3, e4⟩ := joinD_spec hj hnd1
      rw [hq, bRunQ_eq (K' := fun t nd => .ret (.tup (ds.map (getL t))) [] nd) (fun τ t nd hR => by rw [getL_map_gt hR]) _ _ t H [] h] at e1
      rcases runQ_sound (P := P) (H := H) hT (fun t nd => .ret (.tup (ds.map (getL t))) [] nd) hms (ops.toList.take m) 0 t [] (by simp) (Nat.zero_le _) with hfail | ⟨t0, nd0, h1, h2⟩
      · rw [hfail] at e1; cases e1
      rw [h1] at e1
      cases e1
      obtain ⟨_, t'', qc, eq1⟩ := h2 e2
      have hlen2 : t''.length = t.length := by
        obtain ⟨val, _, hst, _⟩ := qc.vals
        rw [hst, stAt_length]
      have hout : ∀ n, n ∉ ds → getL t'' n = getL t n := fun n hn => by
        obtain ⟨val, _, hst, _⟩ := qc.vals
        rw [hst]
        refine stAt_untouched ops val _ 0 t fun i _ hi hg => hn ?_
        rw [← hds]
        unfold gDst at hg
        cases ho : ops[i]? with
        | none => rw [ho] at hg; cases hg
        | some o =>
          rw [ho] at hg
          refine mem_dsts (o := o) ?_ hg
          rw [List.mem_take_iff_getElem]
          have hi' : i < m := by omega
          refine ⟨i, by simp; omega, ?_⟩
          have := (Array.getElem?_eq_some_iff.1 ho).2
          simpa using this
      have hE : Eqv t'' (putDsL ds vs t) := by
        refine ⟨by rw [putDsL_len, hlen2], fun σ n v hr => ?_⟩
        by_cases hn : n ∈ ds
        · rcases Nat.lt_or_ge n t.length with hlt | hge
          · obtain ⟨i, hi, hgi⟩ := putDsL_in ds vs t n hlen hn hlt
            rw [hgi]
            have hil : i < ds.length := (List.getElem?_eq_some_iff.1 hi).1
            refine e4 i (by omega) σ v ?_
            have hgm : getL (ds.map (getL t0)) i = getL t0 n := by
              rw [getL_eq, List.getD_eq_getElem?_getD, List.getElem?_map, hi]; rfl
            rw [hgm]
            exact eq1.2 σ n v hr
          · rw [getL_none (by rw [hlen2]; exact hge)] at hr
            rw [getL_none (by rw [putDsL_len]; exact hge)]; exact hr
        · rw [putDsL_out _ _ _ _ hn, ← hout n hn]; exact hr
      obtain ⟨t3, c3, e3'⟩ := c.conv hE
      subst hm
      exact (region_of hd qc c3).weak e3'
end

/-! ### Straight code -/
def strR (P : Program) (ops : Array Oper) (draw : Bool) : Bool := (ops.toList.drop (quietN ops.toList)).all tailOK && (!draw || (P.follows .mixedOrders && drawOK ops (quietN ops.toList)))
/-- Code that falls through. -/
def strC (P : Program) : Nat → Code → Bool
  | 0, _ => false
  | n + 1, c => match c with
    | .skip => true
    | .seq a b => strC P n a && strC P n b
    | .block _ c => strC P n c
    | .region _ ops draw => strR P ops draw
    | .cond _ a b => strC P n a && strC P n b
    | _ => false
section
variable (P : Program) (T : Table)
noncomputable def mergeDs (b : Bool) (ta tb : Tm) : List Nat → List AV
  | [] => []
  | d :: ds => mergeA b (gt ta d) (gt tb d) :: mergeDs b ta tb ds
noncomputable def jJoin (x : Bool) (t : Tm) (H : List AB) : Option JS → Option JS → Option JS
  | some ⟨t1, H1, ds1, ws1, nd1⟩, some ⟨t2, H2, ds2, ws2, nd2⟩ => match mergeH x H1 H2 (ws1 ++ ws2) H with
    | some H' => some ⟨putDs (ds1 ++ ds2) (mergeDs x t1 t2 (ds1 ++ ds2)) t, H', ds1 ++ ds2, ws1 ++ ws2, guardL x nd1 ++ guardL (!x) nd2⟩
    | none => none
  | some ⟨t1, H1, ds1, ws1, nd1⟩, none => some ⟨t1, H1, ds1, ws1, x :: nd1⟩
  | none, some ⟨t2, H2, ds2, ws2, nd2⟩ => some ⟨t2, H2, ds2, ws2, (!x) :: nd2⟩
  | none, none => none
noncomputable def jC : Nat → Code → CF (Tm → List AB → Option JS)
  | 0, _ => .mk fun _ _ => none
  | n + 1, c => match c with
    | .skip => .mk fun t H => some ⟨t, H, [], [], []⟩
    | .seq a b => match jC n a, jC n b with
      | .mk f, .mk g => .mk fun t H => match f t H with
        | some ⟨t1, H1, ds1, ws1, nd1⟩ => match g t1 H1 with
          | some ⟨t2, H2, ds2, ws2, nd2⟩ => some ⟨t2, H2, ds1 ++ ds2, ws1 ++ ws2, nd2 ++ nd1⟩
          | none => none
        | none => none
    | .block _ c => jC n c
    | .region _ ops draw => match strR P ops draw with
      | true => jReg P T ops
      | false => .mk fun _ _ => none
    | .cond c a b => match okOpd c, cOpd c, jC n a, jC n b with
      | false, _, _, _ => .mk fun _ _ => none
      | true, .mk q, .mk f, .mk g => .mk fun t H => match q t with
        | .b l x => match l with
          | true => match x with
            | true => f t H
            | false => g t H
          | false => jJoin x t H (f t H) (g t H)
        | _ => none
    | _ => .mk fun _ _ => none
end
section
variable {P : Program} {T : Table}
def JOK (P : Program) (c : Code) (t : List AV) (H : List AB) (s : JS) : Prop := ∃ t', R s.t t' ∧ t'.length = t.length ∧ (∀ n, n ∉ s.ds → getL t' n = getL t n) ∧ Pt H s.H s.ws ∧ (allT s.nd = true → ∀ k, Reach P (.code c :: k) t H k t' s.H)
theorem mergeDs_len (b : Bool) (ta tb : Tm) : ∀ ds, (mergeDs b ta tb ds).length = ds.length
  | [] => rfl
  | d :: ds => by simp [mergeDs, mergeDs_len b ta tb ds]
theorem mergeDs_get (b : Bool) (ta tb : Tm) : ∀ (ds : List Nat) (i n : Nat), ds[i]? = some n → getL (mergeDs b ta tb ds) i = mergeA b (gt ta n) (gt tb n)
  | [], i, n, h => by simp at h
  | d :: ds, 0, n, h => by simp at h; subst h; rfl
  | d :: ds, i + 1, n, h => by simp at h; exact mergeDs_get b ta tb ds i n h
theorem join_eqv {x : Bool} {τ1 τ2 : Tm} {t t1 t2 : List AV} {ds : List Nat} (h1 : R τ1 t1) (h2 : R τ2 t2) (l1 : t1.length = t.length) (l2 : t2.length = t.length) (o1 : ∀ n, n ∉ ds → getL t1 n = getL t n) (o2 : ∀ n, n ∉ ds → getL t2 n = getL t n) :
    Eqv (if x then t1 else t2) (putDsL ds (mergeDs x τ1 τ2 ds) t) := by
  refine ⟨by cases x <;> simp [putDsL_len, l1, l2], fun σ n v r => ?_⟩
  by_cases hn : n ∈ ds
  · rcases Nat.lt_or_ge n t.length with hlt | hge
    · obtain ⟨i, hi, hgi⟩ := putDsL_in ds (mergeDs x τ1 τ2 ds) t n (mergeDs_len _ _ _ _) hn hlt
      rw [hgi, mergeDs_get _ _ _ _ _ _ hi, h1.get, h2.get]
      cases x with
      | true => exact mergeA_left r
      | false => exact mergeA_right r
    · rw [getL_none (by rw [putDsL_len]; exact hge)]
      rw [getL_none (by cases x <;> simp [l1, l2, hge])] at r
      exact r
  · rw [putDsL_out _ _ _ _ hn]
    cases x with
    | true => simp only [if_true] at r; rw [← o1 n hn]; exact r
    | false => simp only [Bool.false_eq_true, if_false] at r; rw [← o2 n hn]; exact r
theorem jJoin_sound {c : Operand} {a b : Code} {x : Bool} {τ : Tm} {t : List AV} {H : List AB} {l : Bool} {ra rb : Option JS} {s : JS} (hR : R τ t) (hok : okOpd c = true) (hv : evA t c = .b l x) (ha : ∀ s, ra = some s → JOK P a t H s) (hb : ∀ s, rb = some s → JOK P b t H s) (e : jJoin x τ H ra rb = some s) : JOK P (.cond c a b) t H s := by
  have hc := fun k => cond_reach (P := P) (x := a) (y := b) (k := k) (H := H) hok hv
  unfold jJoin at e
  split at e
  · rename_i t1 H1 ds1 ws1 nd1 t2 H2 ds2 ws2 nd2
    split at e <;> cases e
    rename_i H' hm
    obtain ⟨u1, a1, a2, a3, a4, a5⟩ := ha _ rfl
    obtain ⟨u2, b1, b2, b3, b4, b5⟩ := hb _ rfl
    dsimp only at a1 a3 a4 a5 b1 b3 b4 b5
    have o1 : ∀ n, n ∉ ds1 ++ ds2 → getL u1 n = getL t n := fun n hn => a3 n fun h => hn (List.mem_append_left _ h)
    have o2 : ∀ n, n ∉ ds1 ++ ds2 → getL u2 n = getL t n := fun n hn => b3 n fun h => hn (List.mem_append_right _ h)
    refine ⟨putDsL (ds1 ++ ds2) (mergeDs x t1 t2 (ds1 ++ ds2)) t, putDs_R _ _ hR, putDsL_len _ _ _, fun n hn => putDsL_out _ _ _ _ hn, (mergeH_spec _ _ _ _ _ _ hm).1, fun hn k => ?_⟩
    dsimp only at hn ⊢
    rw [allT_append, Bool.and_eq_true] at hn
    have he := join_eqv (x := x) a1 b1 a2 b2 o1 o2
    cases x with
    | true =>
      have := (hc k).trans (a5 (guardL_true hn.1) k)
      exact (this.weak he).post (mergeH_left (a4.mono fun p hp => List.mem_append_left _ hp) hm)
    | false =>
      have := (hc k).trans (b5 (guardL_true hn.2) k)
      exact (this.weak he).post (mergeH_right (b4.mono fun p hp => List.mem_append_right _ hp) hm)
  · rename_i t1 H1 ds1 ws1 nd1
    cases e
    obtain ⟨u1, a1, a2, a3, a4, a5⟩ := ha _ rfl
    refine ⟨u1, a1, a2, a3, a4, fun hn k => ?_⟩
    dsimp only at hn
    simp only [allT, Bool.and_eq_true] at hn
    obtain ⟨rfl, hn⟩ := hn
    exact (hc k).trans (a5 hn k)
  · rename_i t2 H2 ds2 ws2 nd2
    cases e
    obtain ⟨u1, a1, a2, a3, a4, a5⟩ := hb _ rfl
    refine ⟨u1, a1, a2, a3, a4, fun hn k => ?_⟩
    dsimp only at hn
    simp only [allT, Bool.and_eq_true] at hn
    obtain ⟨hx, hn⟩ := hn
    have : x = false := by simpa using hx
    subst this
    exact (hc k).trans (a5 hn k)
  · cases e
theorem jC_sound (hT : SoundT P T) : ∀ (n : Nat) (c : Code) (τ : Tm) (t : List AV) (H : List AB) (s : JS), R τ t → (jC P T n c).app τ H = some s → JOK P c t H s
  | 0, _, _, _, _, _, _, e => by cases e
  | n + 1, c, τ, t, H, s, hR, e => by
    unfold jC at e
    split at e
    · cases e
      exact ⟨t, hR, rfl, fun _ _ => rfl, Pt.refl _ _, fun _ k => (Reach.refl k t H).head fun _ _ _ _ => step_skip⟩
    · rename_i a b
      have ia := jC_sound hT n a
      have ib := jC_sound hT n b
      cases hf : jC P T n a with
      | mk f => cases hg : jC P T n b with
        | mk g =>
          rw [hf] at e ia; rw [hg] at e ib
          dsimp only [CF.app] at e ia ib
          split at e <;> (try (cases e; done))
          rename_i t1 H1 ds1 ws1 nd1 h1
          split at e <;> cases e
          rename_i t2 H2 ds2 ws2 nd2 h2
          obtain ⟨u1, a1, a2, a3, a4, a5⟩ := ia _ _ _ _ hR h1
          obtain ⟨u2, b1, b2, b3, b4, b5⟩ := ib _ _ _ _ a1 h2
          refine ⟨u2, b1, b2.trans a2, fun m hm => ?_, a4.trans b4, fun hn k => ?_⟩
          · simp only [List.mem_append, not_or] at hm
            rw [b3 m hm.2, a3 m hm.1]
          · dsimp only at hn
            rw [allT_append, Bool.and_eq_true] at hn
            exact ((a5 hn.2 (.code b :: k)).trans (b5 hn.1 k)).head fun _ _ _ _ => step_seq
    · rename_i id c
      obtain ⟨u1, a1, a2, a3, a4, a5⟩ := jC_sound hT n c τ t H s hR e
      refine ⟨u1, a1, a2, a3, a4, fun hn k => ?_⟩
      have h1 := a5 hn (.inBlock id :: k)
      have h2 : Reach P (.inBlock id :: k) u1 s.H k u1 s.H := (Reach.refl k u1 s.H).head fun _ _ _ _ => step_inBlock
      exact (h1.trans h2).head fun _ _ _ _ => step_block
    · rename_i id ops draw
      split at e
      case h_2 => cases e
      rename_i hs
      unfold strR at hs
      rw [Bool.and_eq_true] at hs
      have hd : draw = false ∨ (P.follows .mixedOrders && drawOK ops (quietN ops.toList)) = true := by
        cases draw with
        | false => exact .inl rfl
        | true => exact .inr (by simpa using hs.2)
      obtain ⟨u1, a1, a2, a3, a4, a5⟩ := jReg_sound (id := id) hT hd hR e
      exact ⟨u1, a1, a2, a3, a4, fun hn k => region_reach (a5 hn)⟩
    · rename_i c a b
      have ia := jC_sound hT n a
      have ib := jC_sound hT n b
      have hO := cOpd_eq c τ
      rw [hR.ev] at hO
      cases hok : okOpd c with
      | false => rw [hok] at e; cases e
      | true =>
        cases hq : cOpd c with
        | mk q => cases hf : jC P T n a with
          | mk f => cases hg : jC P T n b with
            | mk g =>
              rw [hok, hq, hf, hg] at e
              rw [hq] at hO; rw [hf] at ia; rw [hg] at ib
              dsimp only [CF.app] at e ia ib hO
              rw [hO] at e
              split at e <;> (try (cases e; done))
              rename_i l x hv
              have one : ∀ (z : Code), z = (if x then a else b) → JOK P z t H s → JOK P (.cond c a b) t H s := fun z hz h => by
                obtain ⟨u1, a1, a2, a3, a4, a5⟩ := h
                refine ⟨u1, a1, a2, a3, a4, fun hn k => ?_⟩
                have := cond_reach (P := P) (x := a) (y := b) (k := k) (H := H) hok hv
                rw [← hz] at this
                exact this.trans (a5 hn k)
              split at e
              · split at e
                · exact one a rfl (ia _ _ _ _ hR e)
                · exact one b rfl (ib _ _ _ _ hR e)
              · exact jJoin_sound hR hok hv (fun s h => ia _ _ _ _ hR h) (fun s h => ib _ _ _ _ hR h) e
    · cases e
end
end Go.Ax

/- Code run, straight parts joined. -/
namespace Go.Ax
open Go

def hasG (ops : Array Oper) : Bool := ops.toList.any fun o => o.guard.isSome
section
variable (P : Program) (T : Table) (stop : List Item → Bool)
noncomputable def tryReg (ops : Array Oper) (draw : Bool) (t : Tm) (H : List AB) : Option JS :=
  match hasG ops && strR P ops draw with
  | true => (jReg P T ops).app t H
  | false => none
noncomputable def tryCond (c : Operand) (a b : Code) (t : Tm) (H : List AB) : Option JS :=
  match strC P 50 (.cond c a b) with
  | true => (jC P T 50 (.cond c a b)).app t H
  | false => none
/-- Like 'cRun'. -/
noncomputable def jRun : Nat → List Item → Tm → List AB → List Bool → KB → (List Item → KB) → Res
  | 0, _, _, _, _, _, _ => .fail
  | n + 1, todo, t, H, nd, KE, KS =>
    match cNext stop 100 todo with
    | .done => KE t H nd
    | .stop k => KS k t H nd
    | .region _ ops draw k => match tryReg P T ops draw t H with
      | some ⟨t', H', _, _, nd'⟩ => match stop k with
        | true => KS k t' H' (nd' ++ nd)
        | false => jRun n k t' H' (nd' ++ nd) KE KS
      | none => match cRegion P T ops draw, stop k with
        | .mk f, true => f t H nd (KS k)
        | .mk f, false => f t H nd fun t H nd => jRun n k t H nd KE KS
    | .cond c a b k => match tryCond P T c a b t H with
      | some ⟨t', H', _, _, nd'⟩ => match stop k with
        | true => KS k t' H' (nd' ++ nd)
        | false => jRun n k t' H' (nd' ++ nd) KE KS
      | none => match okOpd c, cOpd c, stop (.code a :: k), stop (.code b :: k) with
        | true, .mk f, sa, sb => match f t with
          | .b l x => match l with
            | true => match x with
              | true => match sa with
                | true => KS (.code a :: k) t H nd
                | false => jRun n (.code a :: k) t H nd KE KS
              | false => match sb with
                | true => KS (.code b :: k) t H nd
                | false => jRun n (.code b :: k) t H nd KE KS
            | false => .ite x
              (match sa with
                | true => KS (.code a :: k) t H nd
                | false => jRun n (.code a :: k) t H nd KE KS)
              (match sb with
                | true => KS (.code b :: k) t H nd
                | false => jRun n (.code b :: k) t H nd KE KS)
          | _ => .fail
        | false, _, _, _ => .fail
    | .fail => .fail
end
section
variable {P : Program} {T : Table}
theorem jRun_sound {stop : List Item → Bool} (hT : SoundT P T) (KE : KB) (KS : List Item → KB) : ∀ (n : Nat) (todo : List Item) (τ : Tm) (t : List AV) (H : List AB) (nd : List Bool), R τ t → (jRun P T stop n todo τ H nd KE KS).sel = .fail ∨
    (∃ t' H' nd', (jRun P T stop n todo τ H nd KE KS).sel = (KE (ofL t') H' nd').sel ∧ (allT nd' = true → allT nd = true ∧ Ends P todo t H t' H')) ∨
    (∃ todo' t' H' nd', (jRun P T stop n todo τ H nd KE KS).sel = (KS todo' (ofL t') H' nd').sel ∧ (allT nd' = true → allT nd = true ∧ Reach P todo t H todo' t' H'))
  | 0, _, _, _, _, _, _ => .inl rfl
  | n + 1, todo, τ, t, H, nd, h => by
    have hN := cNext_ok (P := P) stop t H 100 todo
    have goon : ∀ (k : List Item) (τ1 : Tm) (t1 : List AV) (H1 : List AB) (nd1 : List Bool), R τ1 t1 →
        ((match stop k with
          | true => KS k τ1 H1 nd1
          | false => jRun P T stop n k τ1 H1 nd1 KE KS).sel = .fail ∨
        (∃ t' H' nd', (match stop k with
          | true => KS k τ1 H1 nd1
          | false => jRun P T stop n k τ1 H1 nd1 KE KS).sel = (KE (ofL t') H' nd').sel ∧ (allT nd' = true → allT nd1 = true ∧ Ends P k t1 H1 t' H')) ∨
        (∃ todo' t' H' nd', (match stop k with
          | true => KS k τ1 H1 nd1
          | false => jRun P T stop n k τ1 H1 nd1 KE KS).sel = (KS todo' (ofL t') H' nd').sel ∧ (allT nd' = true → allT nd1 = true ∧ Reach P k t1 H1 todo' t' H'))) := fun k τ1 t1 H1 nd1 h1 => by
      cases stop k with
      | true => exact .inr (.inr ⟨k, t1, H1, nd1, by rw [h1.uniq], fun hn => ⟨hn, .refl _ _ _⟩⟩)
      | false => exact jRun_sound hT KE KS n k τ1 t1 H1 nd1 h1
    have joined : ∀ (k : List Item) (s : JS) (c : Code), Reach P todo t H (.code c :: k) t H → JOK P c t H s →
        ((match stop k with
          | true => KS k s.t s.H (s.nd ++ nd)
          | false => jRun P T stop n k s.t s.H (s.nd ++ nd) KE KS).sel = .fail ∨
        (∃ t' H' nd', (match stop k with
          | true => KS k s.t s.H (s.nd ++ nd)
          | false => jRun P T stop n k s.t s.H (s.nd ++ nd) KE KS).sel = (KE (ofL t') H' nd').sel ∧ (allT nd' = true → allT nd = true ∧ Ends P todo t H t' H')) ∨
        (∃ todo' t' H' nd', (match stop k with
          | true => KS k s.t s.H (s.nd ++ nd)
          | false => jRun P T stop n k s.t s.H (s.nd ++ nd) KE KS).sel = (KS todo' (ofL t') H' nd').sel ∧ (allT nd' = true → allT nd = true ∧ Reach P todo t H todo' t' H'))) := fun k s c hto hj => by
      obtain ⟨u, a1, _, _, _, a5⟩ := hj
      rcases goon k s.t u s.H (s.nd ++ nd) a1 with h3 | ⟨t', H', nd', h3, h4⟩ | ⟨todo', t', H', nd', h3, h4⟩
      · exact .inl h3
      · refine .inr (.inl ⟨t', H', nd', h3, fun hn => ?_⟩)
        obtain ⟨h5, h6⟩ := h4 hn
        rw [allT_append, Bool.and_eq_true] at h5
        exact ⟨h5.2, (hto.trans (a5 h5.1 k)).ends h6⟩
      · refine .inr (.inr ⟨todo', t', H', nd', h3, fun hn => ?_⟩)
        obtain ⟨h5, h6⟩ := h4 hn
        rw [allT_append, Bool.and_eq_true] at h5
        exact ⟨h5.2, (hto.trans (a5 h5.1 k)).trans h6⟩
    unfold jRun
    cases hc : cNext stop 100 todo with
    | done =>
      rw [hc] at hN
      exact .inr (.inl ⟨t, H, nd, by rw [h.uniq], fun hn => ⟨hn, hN⟩⟩)
    | stop k =>
      rw [hc] at hN
      exact .inr (.inr ⟨k, t, H, nd, by rw [h.uniq], fun hn => ⟨hn, hN⟩⟩)
    | fail => exact .inl rfl
    | region id ops draw k =>
      rw [hc] at hN
      have hN : Reach P todo t H (.code (.region id ops draw) :: k) t H := hN
      dsimp only
      cases hs : tryReg P T ops draw τ H with
      | some s =>
        refine joined k s _ hN ?_
        unfold tryReg at hs
        split at hs
        case h_2 => cases hs
        rename_i hst
        rw [Bool.and_eq_true] at hst
        have hst := hst.2
        unfold strR at hst
        rw [Bool.and_eq_true] at hst
        have hd : draw = false ∨ (P.follows .mixedOrders && drawOK ops (quietN ops.toList)) = true := by
          cases draw with
          | false => exact .inl rfl
          | true => exact .inr (by simpa using hst.2)
        obtain ⟨u1, a1, a2, a3, a4, a5⟩ := jReg_sound (id := id) hT hd h hs
        exact ⟨u1, a1, a2, a3, a4, fun hn k => region_reach (a5 hn)⟩
      | none =>
      dsimp only
      have hR := fun K => cRegion_sound hT id ops draw k h H nd K
      cases hf : cRegion P T ops draw with
      | mk f =>
        rw [hf] at hR
        dsimp only [CF.app] at hR
        cases hs : stop k with
        | true =>
          dsimp only
          rcases hR (KS k) with h1 | ⟨t1, H1, nd1, h1, h2⟩
          · exact .inl h1
          · exact .inr (.inr ⟨k, t1, H1, nd1, h1, fun hn => ⟨(h2 hn).1, hN.trans (h2 hn).2⟩⟩)
        | false =>
          dsimp only
          rcases hR (fun t H nd => jRun P T stop n k t H nd KE KS) with h1 | ⟨t1, H1, nd1, h1, h2⟩
          · exact .inl h1
          rw [h1]
          have := goon k (ofL t1) t1 H1 nd1 (ofL_R t1)
          rw [hs] at this
          rcases this with h3 | ⟨t', H', nd', h3, h4⟩ | ⟨todo', t', H', nd', h3, h4⟩
          · exact .inl h3
          · refine .inr (.inl ⟨t', H', nd', h3, fun hn => ?_⟩)
            obtain ⟨h5, h6⟩ := h4 hn
            exact ⟨(h2 h5).1, (hN.trans (h2 h5).2).ends h6⟩
          · refine .inr (.inr ⟨todo', t', H', nd', h3, fun hn => ?_⟩)
            obtain ⟨h5, h6⟩ := h4 hn
            exact ⟨(h2 h5).1, (hN.trans (h2 h5).2).trans h6⟩
    | cond c a b k =>
      rw [hc] at hN
      have hN : Reach P todo t H (.code (.cond c a b) :: k) t H := hN
      dsimp only
      cases hs : tryCond P T c a b τ H with
      | some s =>
        refine joined k s _ hN ?_
        unfold tryCond at hs
        split at hs
        case h_2 => cases hs
        exact jC_sound hT 50 _ _ _ _ _ h hs
      | none =>
      dsimp only
      have hO := cOpd_eq c τ
      rw [h.ev] at hO
      cases hok : okOpd c with
      | false => exact .inl rfl
      | true =>
        cases hf : cOpd c with
        | mk f =>
          rw [hf] at hO
          dsimp only [CF.app] at hO ⊢
          rw [hO]
          cases hv : evA t c
          case b l v =>
            have two : ∀ z : Code, z = (if v then a else b) →
                ((match stop (.code z :: k) with
                  | true => KS (.code z :: k) τ H nd
                  | false => jRun P T stop n (.code z :: k) τ H nd KE KS).sel = .fail ∨
                (∃ t' H' nd', (match stop (.code z :: k) with
                  | true => KS (.code z :: k) τ H nd
                  | false => jRun P T stop n (.code z :: k) τ H nd KE KS).sel = (KE (ofL t') H' nd').sel ∧ (allT nd' = true → allT nd = true ∧ Ends P todo t H t' H')) ∨
                (∃ todo' t' H' nd', (match stop (.code z :: k) with
                  | true => KS (.code z :: k) τ H nd
                  | false => jRun P T stop n (.code z :: k) τ H nd KE KS).sel = (KS todo' (ofL t') H' nd').sel ∧ (allT nd' = true → allT nd = true ∧ Reach P todo t H todo' t' H'))) := fun z hz => by
              have hcr := hN.trans (cond_reach (P := P) (x := a) (y := b) (k := k) (H := H) hok hv)
              rw [← hz] at hcr
              rcases goon (.code z :: k) τ t H nd h with h3 | ⟨t', H', nd', h3, h4⟩ | ⟨todo', t', H', nd', h3, h4⟩
              · exact .inl h3
              · exact .inr (.inl ⟨t', H', nd', h3, fun hn => ⟨(h4 hn).1, hcr.ends (h4 hn).2⟩⟩)
              · exact .inr (.inr ⟨todo', t', H', nd', h3, fun hn => ⟨(h4 hn).1, hcr.trans (h4 hn).2⟩⟩)
            cases l with
            | true => cases v with
              | true => exact two _ rfl
              | false => exact two _ rfl
            | false => cases v with
              | true => exact two _ rfl
              | false => exact two _ rfl
          all_goals exact .inl rfl
end

/-! ### Calls -/
section
variable (P : Program)
noncomputable def jFun (T : Table) (n : Nat) (f : FuncId) : CF (List AV → List AB → List Bool → KF → Res) :=
  match P.funcs[f]? with
  | some fn => match fn.body with
    | some c => .mk fun args H nd K => match Nat.ble args.length fn.ntmps with
      | true => jRun P T (fun _ => false) n [.code c] (stAll (mkT fn.ntmps fn.ntmps) 0 args) H nd (retB P fn K) (fun _ _ _ _ => .fail)
      | false => .fail
    | none => .mk fun _ _ _ _ => .fail
  | none => .mk fun _ _ _ _ => .fail
/-- Like 'cdeep'. -/
noncomputable def jdeep (l : List (FuncId × Table)) (inl : List FuncId) (n : Nat) : Nat → CTab
  | 0 => fun _ => .mk fun _ _ _ _ => .fail
  | d + 1 => fun f => match lookC l f with
    | some T => .mk (T f)
    | none => match jFun P (tabOf (jdeep l inl n d)) n f with
      | .mk F => match inl.any (Nat.beq f) with
        | true => .mk F
        | false => .mk fun args H nd K => match joinR H.length (F args (roH H) [] fun v H' nd' => .ret v H' nd') with
          | some (v, nd') => K v H (nd' ++ nd)
          | none => .fail
end
section
variable {P : Program}
theorem jFun_sound {T : Table} (hT : SoundT P T) (n : Nat) : SoundT P (tabOf (jFun P T n)) := by
  intro f args H nd K
  unfold tabOf jFun
  cases hf : P.funcs[f]? with
  | none => exact .inl rfl
  | some fn =>
    dsimp only
    cases hc : fn.body with
    | none => exact .inl rfl
    | some c =>
      dsimp only [CF.app]
      cases hle : Nat.ble args.length fn.ntmps with
      | false => exact .inl rfl
      | true =>
        have hle := Nat.le_of_ble_eq_true hle
        have hR := stAll_R args _ _ 0 (mkT_R fn.ntmps fn.ntmps (Nat.le_refl _))
        rw [args_list args fn.ntmps hle] at hR
        dsimp only
        rcases jRun_sound hT (retB P fn K) (fun _ _ _ _ => .fail) n [.code c] _ _ H nd hR with h | ⟨t', H', nd', h1, h2⟩ | ⟨_, _, _, _, h1, _⟩
        · exact .inl h
        · rw [h1]
          unfold retB
          rw [resB_eq P (ofL_R t')]
          cases hr : resV P t' H' fn.results.toList with
          | none => exact .inl rfl
          | some z =>
            obtain ⟨vs, m⟩ := z
            refine .inr ⟨tupV vs, H', m ++ nd', rfl, fun hn => ?_⟩
            rw [allT_append, Bool.and_eq_true] at hn
            exact ⟨(h2 hn.2).1, call_of_ends hf hc (h2 hn.2).2 hr hn.1⟩
        · exact .inl h1
theorem jdeep_sound {l : List (FuncId × Table)} {inl : List FuncId} {n : Nat} (h : ∀ p ∈ l, SoundAt P p.1 p.2) : ∀ d, SoundT P (tabOf (jdeep P l inl n d))
  | 0 => fun _ _ _ _ _ => .inl rfl
  | d + 1 => fun f args H nd K => by
    have ih := jFun_sound (jdeep_sound (inl := inl) (n := n) h d) n
    have hq := quiet_sound ih
    unfold tabOf jdeep
    cases hl : lookC l f with
    | some T => exact h _ (lookC_some hl) args H nd K
    | none =>
      have h1 := ih f args H nd K
      have h2 := hq f args H nd K
      unfold quiet at h2
      unfold tabOf at h1 h2
      dsimp only
      cases hF : jFun P (tabOf (jdeep P l inl n d)) n f with
      | mk F =>
        have e : jFun P (fun f args H nd K => (jdeep P l inl n d f).app args H nd K) n f = .mk F := hF
        rw [e] at h1 h2
        dsimp only [CF.app] at h1 h2
        cases inl.any (Nat.beq f) with
        | true => exact h1
        | false => exact h2
/-- Like 'cupto'. -/
noncomputable def jupto (P : Program) (T : Table) (stop : List Item → Bool) (n : Nat) (todo : List Item) (t : List AV) (H : List AB) : Res :=
  jRun P T stop n todo (ofL t) H [] (fun τ H nd => .ret (.tup (listT τ)) H nd) (fun todo τ H nd => .stop todo (listT τ) H nd)
theorem jupto_reach {T : Table} {stop : List Item → Bool} {n : Nat} {todo todo' : List Item} {t t' : List AV} {H H' : List AB} {nd : List Bool} (hT : SoundT P T) (h : (jupto P T stop n todo t H).sel = .stop todo' t' H' nd) (hn : allT nd = true) : Reach P todo t H todo' t' H' := by
  rcases jRun_sound (stop := stop) hT (fun τ H nd => .ret (.tup (listT τ)) H nd) (fun todo τ H nd => .stop todo (listT τ) H nd) n todo _ t H [] (ofL_R t) with h1 | ⟨t1, H1, nd1, h1, h2⟩ | ⟨todo1, t1, H1, nd1, h1, h2⟩
  · unfold jupto at h; rw [h] at h1; cases h1
  · unfold jupto at h; rw [h] at h1; cases h1
  · unfold jupto at h; rw [h, (ofL_R t1).list] at h1; cases h1
    exact (h2 hn).2
theorem jupto_ends {T : Table} {stop : List Item → Bool} {n : Nat} {todo : List Item} {t t' : List AV} {H H' : List AB} {nd : List Bool} (hT : SoundT P T) (h : (jupto P T stop n todo t H).sel = .ret (.tup t') H' nd) (hn : allT nd = true) : Ends P todo t H t' H' := by
  rcases jRun_sound (stop := stop) hT (fun τ H nd => .ret (.tup (listT τ)) H nd) (fun todo τ H nd => .stop todo (listT τ) H nd) n todo _ t H [] (ofL_R t) with h1 | ⟨t1, H1, nd1, h1, h2⟩ | ⟨todo1, t1, H1, nd1, h1, h2⟩
  · unfold jupto at h; rw [h] at h1; cases h1
  · unfold jupto at h; rw [h, (ofL_R t1).list] at h1; cases h1
    exact (h2 hn).2
  · unfold jupto at h; rw [h] at h1; cases h1
end
end Go.Ax

/- Calls whose results lie in new blocks. -/
namespace Go.Ax
open Go Go.Proofs

/-- Blocks out of use dropped, one behind the other. -/
def dropN (k0 : Nat) : List Nat → AV → List AB → Option (AV × List AB)
  | [], v, H => some (v, H)
  | k :: ks, v, H => match Nat.ble k0 k && Nat.blt k H.length with
    | true => dropN k0 ks (renV k v) (dropB k k H)
    | false => none
section
variable {P : Program}
theorem dropN_call {f : FuncId} {args : List AV} {H0 : List AB} : ∀ {ks : List Nat} {v v' : AV} {H H' : List AB}, dropN H0.length ks v H = some (v', H') → CallOK P f args H0 v H → CallOK P f args H0 v' H'
  | [], _, _, _, _, h, k => by cases h; exact k
  | i :: ks, v, v', H, H', h, k => by
    simp only [dropN] at h
    split at h
    · rename_i hb
      rw [Bool.and_eq_true] at hb
      exact dropN_call h (k.drop i (Nat.le_of_ble_eq_true hb.1) (blt_true hb.2))
    · cases h
def leafD (k0 : Nat) (ks : List Nat) : Res → Option (AV × List AB × List Bool)
  | .ret v H nd => match dropN k0 ks v H with
    | some (v', H') => some (v', H', nd)
    | none => none
  | _ => none
theorem call_of_leaf {T : Table} {f : FuncId} {args : List AV} {H0 H' : List AB} {ks : List Nat} {dirs conds nd : List Bool} {v : AV} (hT : SoundT P T)
    (h : (condsP (T f args H0 [] fun v H nd => .ret v H nd) dirs, leafD H0.length ks ((T f args H0 [] fun v H nd => .ret v H nd).at dirs)) = (conds, some (v, H', nd))) (hc : allT conds = true) (hn : allT nd = true) : CallOK P f args H0 v H' := by
  simp only [Prod.mk.injEq] at h
  obtain ⟨h1, h2⟩ := h
  have e := sel_of_conds _ dirs (by rw [h1]; exact hc)
  generalize hl : (T f args H0 [] fun v H nd => .ret v H nd).at dirs = r at h2 e
  unfold leafD at h2
  split at h2 <;> (try (cases h2; done))
  split at h2 <;> cases h2
  rename_i hd
  exact dropN_call hd (call_of_sel hT e hn)
theorem plain_low {a : AV} (h : below 0 a = true) (n : Nat) : plainV n a = true := by
  cases a
  case p => simp [below] at h
  case sl => simp [below] at h
  all_goals exact h
theorem plain_lowL : ∀ {l : List AV}, belowL 0 l = true → ∀ n, l.all (plainV n) = true
  | [], _, _ => rfl
  | a :: l, h, n => by
    simp only [belowL, Bool.and_eq_true] at h
    simp only [List.all_cons, Bool.and_eq_true]
    exact ⟨plain_low h.1 n, plain_lowL h.2 n⟩
/-- A call without memory whose result lies in one new block. -/
theorem CallOK.fresh {f : FuncId} {args : List AV} {v : AV} {B : AB} (h : CallOK P f args [] v [B]) (hB : ∀ g, mapB g B = B) (ha : belowL 0 args = true) (H : List AB) : CallOK P f args H (mapV (pickI 0 H.length []) v) (H ++ [B]) := by
  have k := h.pick (fun i => rfl) (plain_lowL ha 0) [] rfl H (fun i hi => by simp at hi)
  rw [mapL_low _ ha] at k
  have e : (([B] : List AB).drop ([] : List AB).length).map (mapB (pickI ([] : List AB).length H.length [])) = [B] := by
    show [mapB _ B] = [B]
    rw [hB]
  rw [e] at k
  exact k
end
end Go.Ax

/- Finite floats of 32 bits as whole numbers of the least unit. -/
namespace Go.Ax
open Go Ieee

/-- A finite number in units of the least one. -/
def fint (x : Nat) : Option Int :=
  match single.read x with
  | .number s m i => some (signed s m (i + 149).toNat)
  | _ => none
theorem least32 : single.leastPlace = -149 := by decide
theorem bin32 : single.binade = 8388608 := rfl
theorem inf32 : single.infRung = 2139095040 := rfl
theorem frac32 : single.fractionBits = 23 := rfl
theorem read_form (x : Nat) : (∃ s m r, single.read x = .number s m (-149 + (r : Nat)) ∧ m < 16777216 ∧ (r = 0 ∨ 8388608 ≤ m) ∧ r ≤ 253) ∨ (∃ s, single.read x = .infinity s) ∨ ∃ s t, single.read x = .nan s t := by
  unfold Format.read
  rw [least32, bin32, inf32]
  generalize x % single.signWeight = k
  generalize (x / single.signWeight % 2 == 1) = s
  dsimp only
  split
  · exact .inl ⟨s, k, 0, by simp, by omega, .inl rfl, by omega⟩
  · split
    · refine .inl ⟨s, 8388608 + k % 8388608, k / 8388608 - 1, rfl, by omega, .inr (by omega), by omega⟩
    · split
      · exact .inr (.inl ⟨s, rfl⟩)
      · exact .inr (.inr ⟨s, _, rfl⟩)
theorem fint_form {x : Nat} {a : Int} (h : fint x = some a) : ∃ s m r, single.read x = .number s m (-149 + (r : Nat)) ∧ a = signed s m r ∧ m < 16777216 ∧ (r = 0 ∨ 8388608 ≤ m) ∧ r ≤ 253 := by
  unfold fint at h
  rcases read_form x with ⟨s, m, r, e, h1, h2, h3⟩ | ⟨s, e⟩ | ⟨s, t, e⟩
  · rw [e] at h
    simp only [Option.some.injEq] at h
    refine ⟨s, m, r, e, ?_, h1, h2, h3⟩
    rw [← h]
    congr 1
    omega
  · rw [e] at h; cases h
  · rw [e] at h; cases h
theorem fint_of {x : Nat} {s : Bool} {m r : Nat} (e : single.read x = .number s m (-149 + (r : Nat))) : fint x = some (signed s m r) := by
  unfold fint
  rw [e]
  simp only [Option.some.injEq]
  congr 1
  omega
theorem signed_eq (s : Bool) (m r : Nat) : signed s m r = (if s then -1 else 1) * ((m : Int) * 2 ^ r) := by
  unfold signed
  rw [Nat.shiftLeft_eq]
  cases s <;> simp
theorem signed_scale (s : Bool) (m r b : Nat) : signed s m (r + b) = signed s m r * 2 ^ b := by
  rw [signed_eq, signed_eq, Int.pow_add]
  cases s <;> simp [Int.mul_assoc, Int.neg_mul]
theorem pow_pos' (b : Nat) : (0 : Int) < 2 ^ b := Int.pow_pos (by decide)
theorem scale_inj {a c : Int} {b : Nat} : a * 2 ^ b = c * 2 ^ b ↔ a = c := Int.mul_eq_mul_right_iff (Int.ne_of_gt (pow_pos' b))
theorem scale_lt {a c : Int} {b : Nat} : a * 2 ^ b < c * 2 ^ b ↔ a < c := ⟨fun h => Int.lt_of_mul_lt_mul_right h (Int.le_of_lt (pow_pos' b)), fun h => Int.mul_lt_mul_of_pos_right h (pow_pos' b)⟩
/-- Two finite numbers in units of one place. -/
theorem two_units {s t : Bool} {m n r q : Nat} : ∃ b, signed s m r = signed s m (-149 + (r : Int) - min (-149 + (r : Int)) (-149 + (q : Int))).toNat * 2 ^ b ∧ signed t n q = signed t n (-149 + (q : Int) - min (-149 + (r : Int)) (-149 + (q : Int))).toNat * 2 ^ b ∧ (min (-149 + (r : Int)) (-149 + (q : Int))) = -149 + (b : Nat) := by
  refine ⟨min r q, ?_, ?_, by omega⟩
  · rw [← signed_scale]
    congr 1
    omega
  · rw [← signed_scale]
    congr 1
    omega
theorem order_fint {x y : Nat} {a b : Int} (hx : fint x = some a) (hy : fint y = some b) : single.order x y = some (compare a b) := by
  obtain ⟨s, m, r, e1, rfl, _⟩ := fint_form hx
  obtain ⟨t, n, q, e2, rfl, _⟩ := fint_form hy
  unfold Format.order
  rw [e1, e2]
  obtain ⟨k, h1, h2, _⟩ := two_units (s := s) (t := t) (m := m) (n := n) (r := r) (q := q)
  simp only [Datum.order, Option.some.injEq]
  rw [h1, h2]
  generalize signed s m _ = u
  generalize signed t n _ = v
  simp only [compare, compareOfLessAndEq, scale_lt, scale_inj]
theorem feq_fint {x y : Nat} {a b : Int} (hx : fint x = some a) (hy : fint y = some b) : feq .f32 x y = (a == b) := by
  unfold feq
  rw [show FloatKind.f32.format = single from rfl, order_fint hx hy]
  rw [Bool.eq_iff_iff]
  simp [compare, compareOfLessAndEq]
  constructor
  · intro h
    by_cases h1 : a < b
    · simp [h1] at h
    · by_cases h2 : a = b
      · exact h2
      · simp [h1, h2] at h
  · rintro rfl; simp
theorem flt_fint {x y : Nat} {a b : Int} (hx : fint x = some a) (hy : fint y = some b) : flt .f32 x y = decide (a < b) := by
  unfold flt
  rw [show FloatKind.f32.format = single from rfl, order_fint hx hy]
  rw [Bool.eq_iff_iff]
  simp [compare, compareOfLessAndEq]
  constructor
  · intro h
    by_cases h1 : a < b
    · exact h1
    · by_cases h2 : a = b
      · simp [h2] at h
      · simp [h1, h2] at h
  · intro h h2; omega
theorem feq_fin {x y : Nat} {a : Int} (h : feq .f32 x y = true) (hx : fint x = some a) : fint y = some a := by
  rcases read_form y with ⟨s, m, r, e, h1, h2, h3⟩ | ⟨s, e⟩ | ⟨s, t, e⟩
  · have hy := fint_of e
    rw [feq_fint hx hy, beq_iff_eq] at h
    rw [hy, h]
  · exfalso
    obtain ⟨s', m', r', e', _⟩ := fint_form hx
    unfold feq Format.order at h
    rw [show FloatKind.f32.format = single from rfl, e, e'] at h
    cases s <;> simp [Datum.order] at h
  · exfalso
    obtain ⟨s', m', r', e', _⟩ := fint_form hx
    unfold feq Format.order at h
    rw [show FloatKind.f32.format = single from rfl, e, e'] at h
    simp [Datum.order] at h
theorem feq_fin' {x y : Nat} {a : Int} (h : feq .f32 x y = true) (hy : fint y = some a) : fint x = some a := by
  rcases read_form x with ⟨s, m, r, e, h1, h2, h3⟩ | ⟨s, e⟩ | ⟨s, t, e⟩
  · have hx := fint_of e
    rw [feq_fint hx hy, beq_iff_eq] at h
    rw [hx, h]
  · exfalso
    obtain ⟨s', m', r', e', _⟩ := fint_form hy
    unfold feq Format.order at h
    rw [show FloatKind.f32.format = single from rfl, e, e'] at h
    cases s <;> simp [Datum.order] at h
  · exfalso
    obtain ⟨s', m', r', e', _⟩ := fint_form hy
    unfold feq Format.order at h
    rw [show FloatKind.f32.format = single from rfl, e, e'] at h
    simp [Datum.order] at h
theorem fint_zero : fint 0 = some 0 := by decide +kernel

/-! ### What is written -/
/-- A number that the format has. -/
def Rep (n : Nat) : Prop := ∃ m r, n = m * 2 ^ r ∧ m < 16777216 ∧ (r = 0 ∨ 8388608 ≤ m) ∧ r ≤ 253
theorem fint_rep {x : Nat} {a : Int} (h : fint x = some a) : Rep a.natAbs := by
  obtain ⟨s, m, r, _, rfl, h1, h2, h3⟩ := fint_form h
  refine ⟨m, r, ?_, h1, h2, h3⟩
  unfold signed
  rw [Nat.shiftLeft_eq]
  have : ((m : Int) * 2 ^ r).natAbs = m * 2 ^ r := by
    have e : (m : Int) * 2 ^ r = ((m * 2 ^ r : Nat) : Int) := by push_cast; rfl
    rw [e, Int.natAbs_natCast]
  cases s <;> simp [this]
theorem fint_canon (g : Bool) {m r : Nat} (h1 : m < 16777216) (h2 : r = 0 ∨ 8388608 ≤ m) (h3 : r ≤ 253) : fint (canon single g m r) = some (signed g m r) := by
  refine fint_of ?_
  rw [read_canon single g m r (by rw [frac32]; exact h1) (by rw [frac32]; exact h2) (by rw [bin32, inf32]; omega), least32]
theorem pow_cancel {a b c d : Nat} (h : a * 2 ^ c = b * 2 ^ d) (hcd : c ≤ d) : a = b * 2 ^ (d - c) := by
  have : b * 2 ^ d = b * 2 ^ (d - c) * 2 ^ c := by rw [Nat.mul_assoc, ← Nat.pow_add]; congr 2; omega
  rw [this] at h
  exact Nat.eq_of_mul_eq_mul_right (Nat.two_pow_pos c) h
theorem nearest_rep (g : Bool) (mag p : Nat) (h : Rep (mag * 2 ^ p)) : fint (single.nearest g mag (-149 + (p : Nat))) = some (signed g mag p) := by
  obtain ⟨m, r, e, h1, h2, h3⟩ := h
  have key : single.nearest g mag (-149 + (p : Nat)) = canon single g m r := by
    by_cases hz : mag = 0
    · subst hz
      have hm : m = 0 := by
        rcases Nat.eq_zero_or_pos m with h | h
        · exact h
        · have := Nat.mul_pos h (Nat.two_pow_pos r)
          simp at e; omega
      subst hm
      have hr : r = 0 := by rcases h2 with h | h <;> omega
      subst hr
      unfold Format.nearest
      simp [canon]
    rcases Nat.lt_or_ge r p with hrp | hrp
    · have em := pow_cancel e.symm (Nat.le_of_lt hrp)
      rcases h2 with h2 | h2
      · subst h2
        rw [Nat.sub_zero] at em
        -- a number at the least places
        by_cases hfull : 8388608 ≤ m
        · rw [em] at hfull h1 ⊢
          exact nearest_up single g mag p 0 _ (by rw [frac32]; exact hfull) (by rw [frac32]; exact h1) (by rw [least32]; omega) (by rw [bin32, inf32]; omega)
        · have hlog : mag.log2 + p ≤ 22 := by
            have h2 : mag * 2 ^ p < 2 ^ 23 := by rw [← em]; omega
            have h3 : 2 ^ (mag.log2 + p) ≤ mag * 2 ^ p := by rw [Nat.pow_add]; exact Nat.mul_le_mul_right _ (Nat.log2_self_le hz)
            have h4 : 2 ^ (mag.log2 + p) < 2 ^ 23 := Nat.lt_of_le_of_lt h3 h2
            have := (Nat.pow_lt_pow_iff_right (by decide : 1 < 2)).1 h4
            omega
          unfold Format.nearest
          rw [if_neg hz, least32, frac32]
          have hlast : max (-149 + (p : Int) + (mag.log2 : Nat) - (23 : Nat)) (-149) = -149 := by omega
          simp only [hlast]
          have e1 : (-149 + (p : Int) - -149).toNat = p := by omega
          have e2 : ((-149 : Int) - (-149 + (p : Int))).toNat = 0 := by omega
          have e3 : ((-149 : Int) - -149).toNat = 0 := by omega
          rw [e1, e2, e3, Nat.shiftLeft_eq, cut_zero, ← em, Nat.min_eq_left (by rw [inf32]; omega)]
          simp [canon]
      · rw [em] at h1 h2 ⊢
        exact nearest_up single g mag (p - r) r _ (by rw [frac32]; exact h2) (by rw [frac32]; exact h1) (by rw [least32]; omega) (by rw [bin32, inf32]; omega)
    · have em := pow_cancel e hrp
      rcases h2 with h2 | h2
      · subst h2
        have hp : p = 0 := by omega
        subst hp
        have em : mag = m * 2 ^ 0 := em
        rw [em]
        exact nearest_sub single g m 0 _ (by rw [frac32]; exact h1) (by rw [least32]; rfl) (by rw [inf32]; omega)
      · rw [em]
        exact nearest_down single g m (r - p) r _ (by rw [frac32]; exact h2) (by rw [frac32]; exact h1) (by rw [least32]; omega) (by rw [bin32, inf32]; omega)
  rw [key, fint_canon g h1 h2 h3, signed_eq, signed_eq]
  have : (m : Int) * 2 ^ r = (mag : Int) * 2 ^ p := by exact_mod_cast e.symm
  rw [this]
theorem signed_abs (n : Int) (p : Nat) : signed (decide (n < 0)) n.natAbs p = n * 2 ^ p := by
  rw [signed_eq]
  by_cases h : n < 0
  · simp [h]
    have : (n.natAbs : Int) = -n := by omega
    rw [this, Int.neg_mul, Int.neg_neg]
  · simp [h]
    have : (n.natAbs : Int) = n := by omega
    rw [this]
theorem sum_fint {s t : Bool} {m n r q : Nat} (h : Rep (signed s m r + signed t n q).natAbs) : ∃ z, ((Datum.number s m (-149 + (r : Nat))).sum (.number t n (-149 + (q : Nat)))).map single.write = some z ∧ fint z = some (signed s m r + signed t n q) := by
  obtain ⟨b, h1, h2, h3⟩ := two_units (s := s) (t := t) (m := m) (n := n) (r := r) (q := q)
  simp only [Datum.sum, Option.map_some]
  refine ⟨_, rfl, ?_⟩
  rw [h1, h2, ← Int.add_mul] at h ⊢
  rw [h3] at h ⊢
  generalize signed s m _ + signed t n _ = T at h ⊢
  have hT : (T * 2 ^ b).natAbs = T.natAbs * 2 ^ b := by
    rw [Int.natAbs_mul, Int.natAbs_pow]; rfl
  rw [hT] at h
  show fint (single.nearest _ T.natAbs (-149 + (b : Nat))) = _
  rw [nearest_rep _ _ _ h]
  by_cases h0 : T = 0
  · subst h0
    simp [signed_eq]
  · rw [if_neg h0]
    rw [signed_abs]
theorem fadd_fint {x y : Nat} {a b : Int} (hx : fint x = some a) (hy : fint y = some b) (h : Rep (a + b).natAbs) : fint (fadd .f32 x y) = some (a + b) := by
  obtain ⟨s, m, r, e1, rfl, _⟩ := fint_form hx
  obtain ⟨t, n, q, e2, rfl, _⟩ := fint_form hy
  obtain ⟨z, h1, h2⟩ := sum_fint h
  unfold fadd Format.add
  rw [show FloatKind.f32.format = single from rfl, e1, e2, h1]
  exact h2
theorem signed_neg (t : Bool) (n q : Nat) : signed (!t) n q = - signed t n q := by
  rw [signed_eq, signed_eq]
  cases t <;> simp
theorem fsub_fint {x y : Nat} {a b : Int} (hx : fint x = some a) (hy : fint y = some b) (h : Rep (a - b).natAbs) : fint (fsub .f32 x y) = some (a - b) := by
  obtain ⟨s, m, r, e1, rfl, _⟩ := fint_form hx
  obtain ⟨t, n, q, e2, rfl, _⟩ := fint_form hy
  have e : signed s m r - signed t n q = signed s m r + signed (!t) n q := by rw [signed_neg]; rfl
  rw [e] at h ⊢
  obtain ⟨z, h1, h2⟩ := sum_fint h
  unfold fsub Format.sub
  rw [show FloatKind.f32.format = single from rfl, e1, e2]
  show fint ((((Datum.number s m (-149 + (r : Nat))).sum (.number (!t) n (-149 + (q : Nat)))).map single.write).getD _) = _
  rw [h1]
  exact h2
theorem rep_zero : Rep 0 := ⟨0, 0, by simp, by omega, .inl rfl, by omega⟩
theorem fint_finB {x : Nat} {a : Int} (h : fint x = some a) : feq .f32 (fsub .f32 x x) 0 = true := by
  have := fsub_fint h h (by simp; exact rep_zero)
  rw [feq_fint this fint_zero]
  simp
theorem finB_fint {x : Nat} (h : feq .f32 (fsub .f32 x x) 0 = true) : ∃ a, fint x = some a := by
  rcases read_form x with ⟨s, m, r, e, h1, h2, h3⟩ | ⟨s, e⟩ | ⟨s, t, e⟩
  · exact ⟨_, fint_of e⟩
  · exfalso
    unfold fsub Format.sub at h
    rw [show FloatKind.f32.format = single from rfl, e] at h
    have : (((Datum.infinity s).sum (Datum.infinity s).opposite).map single.write).getD (qnan .f32) = qnan .f32 := by cases s <;> rfl
    rw [this] at h
    have e : feq .f32 (qnan .f32) 0 = false := by decide +kernel
    rw [e] at h; cases h
  · exfalso
    unfold fsub Format.sub at h
    rw [show FloatKind.f32.format = single from rfl, e] at h
    have : (((Datum.nan s t).sum (Datum.nan s t).opposite).map single.write).getD (qnan .f32) = qnan .f32 := rfl
    rw [this] at h
    have e : feq .f32 (qnan .f32) 0 = false := by decide +kernel
    rw [e] at h; cases h
end Go.Ax

/- Values of cells: zeros and ones; masks. -/
namespace Go.Ax
open Go Go.Proofs

def oneI : Int := 2 ^ 149
theorem fint_one : fint 1065353216 = some oneI := by decide +kernel
theorem rep_one : Rep oneI.natAbs := ⟨8388608, 126, by decide +kernel, by omega, .inr (by omega), by omega⟩
theorem oneI_ne : oneI ≠ 0 := by decide +kernel
/-- What both parts of a number come to. -/
def cv (z : Nat × Nat) (a b : Int) : Prop := fint z.1 = some a ∧ fint z.2 = some b
theorem cv.inj {z : Nat × Nat} {a b c d : Int} (h : cv z a b) (k : cv z c d) : a = c ∧ b = d := by
  have h1 := h.1.symm.trans k.1
  have h2 := h.2.symm.trans k.2
  simp only [Option.some.injEq] at h1 h2
  exact ⟨h1, h2⟩
theorem cv_pEq {z w : Nat × Nat} {a b c d : Int} (h : cv z a b) (k : cv w c d) : pEq z.1 w.1 z.2 w.2 = ((a == c) && (b == d)) := by
  unfold pEq
  rw [feq_fint h.1 k.1, feq_fint h.2 k.2]
theorem zC_cv {z : Nat × Nat} : zC z = true ↔ cv z 0 0 := by
  unfold zC pEq
  rw [Bool.and_eq_true]
  constructor
  · rintro ⟨h1, h2⟩
    exact ⟨feq_fin' h1 fint_zero, feq_fin' h2 fint_zero⟩
  · rintro ⟨h1, h2⟩
    rw [feq_fint h1 fint_zero, feq_fint h2 fint_zero]
    exact ⟨rfl, rfl⟩
theorem oC_cv {z : Nat × Nat} : oC z = true ↔ cv z oneI 0 := by
  unfold oC pEq
  rw [Bool.and_eq_true]
  constructor
  · rintro ⟨h1, h2⟩
    exact ⟨feq_fin' h1 fint_one, feq_fin' h2 fint_zero⟩
  · rintro ⟨h1, h2⟩
    rw [feq_fint h1 fint_one, feq_fint h2 fint_zero]
    exact ⟨by simp, rfl⟩
theorem zeroB_zC (z : Nat × Nat) : zeroB z = zC z := rfl
theorem plus_fint {x : Nat} {a : Int} (h : fint x = some a) : fint (plusF x) = some a := by
  unfold plusF
  cases hf : feq .f32 x 0 with
  | false => exact h
  | true =>
    rw [feq_fint h fint_zero, beq_iff_eq] at hf
    subst hf
    exact fint_zero
theorem plus_cv {z : Nat × Nat} {a b : Int} (h : cv z a b) : cv (plusF z.1, plusF z.2) a b := ⟨plus_fint h.1, plus_fint h.2⟩
theorem whole_cv {z : Nat × Nat} : wholeB z = true ↔ ∃ a b, cv z a b := by
  rw [wholeB_iff]
  constructor
  · rintro ⟨h1, h2⟩
    obtain ⟨a, ha⟩ := finB_fint h1
    obtain ⟨b, hb⟩ := finB_fint h2
    exact ⟨a, b, ha, hb⟩
  · rintro ⟨a, b, h1, h2⟩
    exact ⟨fint_finB h1, fint_finB h2⟩
theorem cv_zero : cv (0, 0) 0 0 := ⟨fint_zero, fint_zero⟩
theorem cv_one : cv (oneF, 0) oneI 0 := ⟨fint_one, fint_zero⟩
theorem zC_of {z : Nat × Nat} {a : Int} (h : cv z a 0) : zC z = (a == 0) := by
  have := cv_pEq h cv_zero
  unfold zC
  rw [this]; simp
theorem oC_of {z : Nat × Nat} {a : Int} (h : cv z a 0) : oC z = (a == oneI) := by
  have := cv_pEq h cv_one
  unfold oC
  have e : pEq z.1 1065353216 z.2 0 = pEq z.1 (oneF, 0).1 z.2 (oneF, 0).2 := rfl
  rw [e, this]; simp
/-- A wave by the values of its cells. -/
theorem wave_cv {n : Int} {X : Nat → Nat × Nat} : isWaveB n X = true ↔ (n = 1 ∨ n = 2 ∨ n = 4 ∨ n = 8) ∧ ∀ j, j < 64 → (∃ a b, cv (X j) a b) ∧ (n.toNat * n.toNat ≤ j → cv (X j) 0 0) := by
  rw [isWaveB_iff]
  refine and_congr_right fun _ => forall_congr' fun j => imp_congr_right fun _ => ?_
  rw [whole_cv, zeroB_zC, zC_cv]
/-- A mask by the values of its cells. -/
theorem mask_cv {n : Int} {X : Nat → Nat × Nat} : isMaskB n X = true ↔ (n = 1 ∨ n = 2 ∨ n = 4 ∨ n = 8) ∧ ∃ m : Nat → Bool, ∀ j, j < 64 → cv (X j) (cond (m j) oneI 0) 0 ∧ (n.toNat * n.toNat ≤ j → m j = false) := by
  unfold isMaskB
  rw [Bool.and_eq_true, wave_cv, maskF_iff]
  constructor
  · rintro ⟨h1, h2, h3⟩
    refine ⟨h2, fun j => oC (X j), fun j hj => ?_⟩
    have hm := h1 j hj
    rw [Nat.zero_add, zC_cv, oC_cv] at hm
    have hz := (h3 j hj).2
    rcases hm with hm | hm
    · have : oC (X j) = false := by rw [oC_of hm]; simpa using oneI_ne.symm
      show cv (X j) (cond (oC (X j)) oneI 0) 0 ∧ (n.toNat * n.toNat ≤ j → oC (X j) = false)
      rw [this]
      exact ⟨hm, fun _ => rfl⟩
    · have : oC (X j) = true := oC_cv.2 hm
      show cv (X j) (cond (oC (X j)) oneI 0) 0 ∧ (n.toNat * n.toNat ≤ j → oC (X j) = false)
      rw [this]
      exact ⟨hm, fun hn => absurd (hm.inj (hz hn)).1 oneI_ne⟩
  · rintro ⟨h1, m, h2⟩
    refine ⟨fun j hj => ?_, h1, fun j hj => ?_⟩
    · rw [Nat.zero_add, zC_cv, oC_cv]
      have := (h2 j hj).1
      cases hm : m j with
      | false => rw [hm] at this; exact .inl this
      | true => rw [hm] at this; exact .inr this
    · refine ⟨⟨_, _, (h2 j hj).1⟩, fun hn => ?_⟩
      have := (h2 j hj).1
      rwa [(h2 j hj).2 hn] at this
/-- Where a mask is open. -/
theorem mask_open {n : Int} {X : Nat → Nat × Nat} (h : isMaskB n X = true) {j : Nat} (hj : j < 64) : cv (X j) (cond (oC (X j)) oneI 0) 0 ∧ (n.toNat * n.toNat ≤ j → oC (X j) = false) ∧ zC (X j) = !oC (X j) := by
  obtain ⟨_, m, h2⟩ := mask_cv.1 h
  obtain ⟨h3, h4⟩ := h2 j hj
  have h0 : oC (X j) = m j := by
    rw [oC_of h3]
    cases m j
    · simpa using oneI_ne.symm
    · simp
  have h5 : zC (X j) = !m j := by
    rw [zC_of h3]
    cases m j
    · rfl
    · simpa using oneI_ne
  rw [h0, h5]
  exact ⟨h3, h4, rfl⟩
theorem sub_one {x : Nat} {b : Bool} (h : fint x = some (cond b oneI 0)) : fint (fsub .f32 oneF x) = some (cond b 0 oneI) := by
  have := fsub_fint fint_one h (by cases b <;> first | exact rep_one | (simp; exact rep_zero))
  rw [show oneF = 1065353216 from rfl, this]
  cases b <;> simp
theorem sub_zero {x : Nat} (h : fint x = some 0) : fint (fsub .f32 0 x) = some 0 := by
  have := fsub_fint fint_zero h (by simp; exact rep_zero)
  simpa using this
theorem add_zero_right {x y : Nat} {a : Int} (h : fint x = some a) (k : fint y = some 0) : fint (fadd .f32 x y) = some a := by
  have := fadd_fint h k (by rw [Int.add_zero]; exact fint_rep h)
  simpa using this
theorem add_zero_left {x y : Nat} {a : Int} (h : fint x = some a) (k : fint y = some 0) : fint (fadd .f32 y x) = some a := by
  have := fadd_fint k h (by rw [Int.zero_add]; exact fint_rep h)
  simpa using this
end Go.Ax

/- OpenCells, of both sides: what it comes to. -/
namespace Go.Ax
open Go Go.Proofs

noncomputable def tabJ : Table := tabOf (jdeep Try.prog rowsK [31, 41] 3000 8)
theorem tabJ_sound : SoundT Try.prog tabJ := jdeep_sound rowsK_at 8
def cntW (p : Nat → Bool) (s : Nat) : Nat → Int
  | 0 => 0
  | k + 1 => cond (p (s + k)) (wrapQ false .i64 (cntW p s k + 1)) (cntW p s k)
def openP (sp : Bool) (X : Nat → Nat × Nat) (j : Nat) : Bool := match sp with
  | true => !zC (X j)
  | false => oC (X j)
def openO (sp : Bool) (X : Nat → Nat × Nat) (N j : Nat) : Bool := match Nat.blt j N with
  | true => cond (openP sp X j) true true
  | false => !openP sp X j
def openN (sp : Bool) (N : Nat) (X : Nat → Nat × Nat) : List Bool := match sp with
  | true => (List.range N).map fun k => openO sp X N (N - (k + 1))
  | false => (List.range 64).map fun k => openO sp X N (63 - k)
noncomputable def openR (f : FuncId) (n : Int) (X : Nat → Nat × Nat) : Res := tabJ f [wvT true n X] [] [] fun v H nd => .ret v H nd
theorem open_run (f : FuncId) (sp : Bool) (hf : (f, sp) ∈ ([(31, false), (41, true)] : List (FuncId × Bool))) (N : Nat) (n : Int) (hn : (N, n) ∈ doNs) (X : Nat → Nat × Nat) :
    ((condsP (openR f n X) [true], leafD 0 [0] ((openR f n X).at [true])), (condsP (openR f n X) [false], leafD 0 [0] ((openR f n X).at [false]))) =
    (([!isMaskB n (reX X)], some (.tup [.slnil, .i true .i64 1], [], [])), ([!!isMaskB n (reX X)], some (.tup [.sl true 0 0 n.toNat 1, .i true .i64 0], [.cells true (.ints .i64 ((List.range n.toNat).map fun r => cntW (openP sp X) (n.toNat * r) n.toNat))], openN sp N X))) := by
  simp only [doNs, List.mem_cons, Prod.mk.injEq, List.not_mem_nil, or_false] at hn hf
  rcases hf with ⟨rfl, rfl⟩ | ⟨rfl, rfl⟩ <;> rcases hn with ⟨rfl, rfl⟩ | ⟨rfl, rfl⟩ | ⟨rfl, rfl⟩ | ⟨rfl, rfl⟩ <;> kernel_rfl
end Go.Ax

/- One way of an evaluation up to a place, or to the end. -/
namespace Go.Ax
open Go Go.Proofs

section
variable {P : Program} {T : Table}
theorem jupto_toLp (stop : List Item → Bool) (n : Nat) (L : List Item) (t : List AV) (H : List AB) : jupto P T stop n (toLp L) t H = jupto P T stop n L t H := by
  unfold toLp
  split
  · cases n with
    | zero => rfl
    | succ n =>
      unfold jupto jRun
      rw [cNext_loop stop 99]
  · rfl
theorem jupto_eq {stop : List Item → Bool} {n : Nat} {L R : List Item} (h : toLp L = toLp R) (t : List AV) (H : List AB) : jupto P T stop n L t H = jupto P T stop n R t H := by
  rw [← jupto_toLp, h, jupto_toLp]
theorem way_reach {stop : List Item → Bool} {n : Nat} {L R todo' : List Item} {p M nd : List Bool} {t0 t' : List AV} {H0 H' : List AB} (hT : SoundT P T) (hL : toLp L = toLp R) (hc : allT (condsP (jupto P T stop n R t0 H0) p) = true)
    (hl : lfM M ((jupto P T stop n R t0 H0).at p) = (true, todo', t'.map AV.bare, H', nd)) (hn : allT nd = true) : Reach P L t0 H0 todo' t' H' := by
  simp only [lfM, Prod.mk.injEq] at hl
  obtain ⟨a1, a2, a3, a4, a5⟩ := hl
  have hs := isStop_at a1 hc
  rw [← jupto_eq hL] at hs
  have hr := jupto_reach hT hs (by rw [jupto_eq hL, a5]; exact hn)
  rw [jupto_eq hL, a2, a4] at hr
  exact (hr.weak (blur_eqv M _)).weak (eqv_of_bare a3)
theorem endOfJ {stop : List Item → Bool} {n : Nat} {todo : List Item} {t0 : List AV} {H0 : List AB} {rs : List ResultVar} {r : Res} {x : Option (List AV × List Bool)} {H : List AB} {nd : List Bool} (hT : SoundT P T)
    (h : endOf P rs r = some (x, H, nd)) (hs : (jupto P T stop n todo t0 H0).sel = r.sel) (hn : allT nd = true) : ∃ t, Ends P todo t0 H0 t H ∧ resV P t H rs = x := by
  unfold endOf at h
  split at h <;> (try (cases h; done))
  split at h <;> cases h
  exact ⟨_, jupto_ends hT hs hn, rfl⟩
theorem way_ends {stop : List Item → Bool} {n : Nat} {L R : List Item} {p nd : List Bool} {t0 : List AV} {H0 H' : List AB} {rs : List ResultVar} {x : Option (List AV × List Bool)} (hT : SoundT P T) (hL : toLp L = toLp R) (hc : allT (condsP (jupto P T stop n R t0 H0) p) = true)
    (hl : endOf P rs ((jupto P T stop n R t0 H0).at p) = some (x, H', nd)) (hn : allT nd = true) : ∃ t, Ends P L t0 H0 t H' ∧ resV P t H' rs = x := by
  refine endOfJ (stop := stop) (n := n) hT hl ?_ hn
  rw [jupto_eq hL]
  exact sel_of_conds _ _ hc
end
end Go.Ax

/- laws.sum and laws.likeInts: rows. -/
namespace Go.Ax
open Go Go.Proofs

theorem ro_ints {σ τ : List (Nat × Nat)} {r : Bool} {k : IntKind} {xs : List Int} {z : Nat} {o : Option Obj} (h : BlkRel σ z (.cells r (.ints k xs)) o) : BlkRel τ z (.cells false (.ints k xs)) o := by
  obtain ⟨c, e, fr, h1, h2, h3, _⟩ := h
  refine ⟨c, e, fr, h1, fun j a ha => ?_, h3, fun h => by cases h⟩
  obtain ⟨v, hv, hr⟩ := h2 j a ha
  refine ⟨v, hv, below_free ?_ hr⟩
  simp only [Cells.toL, List.getElem?_map, Option.map_eq_some_iff] at ha
  obtain ⟨y, _, rfl⟩ := ha
  rfl
theorem ro_f32 {σ τ : List (Nat × Nat)} {r : Bool} {xs : List Nat} {z : Nat} {o : Option Obj} (h : BlkRel σ z (.cells r (.f32 xs)) o) : BlkRel τ z (.cells false (.f32 xs)) o := by
  obtain ⟨c, e, fr, h1, h2, h3, _⟩ := h
  refine ⟨c, e, fr, h1, fun j a ha => ?_, h3, fun h => by cases h⟩
  obtain ⟨v, hv, hr⟩ := h2 j a ha
  refine ⟨v, hv, below_free ?_ hr⟩
  simp only [Cells.toL, List.getElem?_map, Option.map_eq_some_iff] at ha
  obtain ⟨y, _, rfl⟩ := ha
  rfl
theorem getB_lt {H : List AB} {i : Nat} {r : Bool} {A : Cells} (h : getB H i = .cells r A) : i < H.length := by
  rcases Nat.lt_or_ge i H.length with h' | h'
  · exact h'
  · rw [getB_none h'] at h; cases h
def lb (xs : List Int) : List AB := [.cells false (.ints .i64 xs)]
def lb2 (xs ys : List Int) : List AB := [.cells false (.ints .i64 xs), .cells false (.ints .i64 ys)]
/-- A call that reads one list. -/
theorem call_read1 {P : Program} {f : FuncId} {xs : List Int} {v : AV} (h : CallOK P f [.sl false 0 0 xs.length 1] (lb xs) v (lb xs)) (hv : below 0 v = true) {H : List AB} {id : Nat} {r l : Bool} (hg : getB H id = .cells r (.ints .i64 xs)) : CallOK P f [.sl l id 0 xs.length 1] H v H := by
  have k := h.pick (fun i => by match i with
    | 0 => rfl
    | i + 1 => rfl) rfl [id] rfl H (fun i hi => by
      have : i = 0 := by simp [lb] at hi; exact hi
      subst this
      refine ⟨getB_lt hg, fun σ τ z o hb => ?_⟩
      have e : ([id] : List Nat).getD 0 0 = id := rfl
      rw [e, hg] at hb
      exact ro_ints hb)
  have e1 : (H ++ ((lb xs).drop (lb xs).length).map (mapB (pickI (lb xs).length H.length [id]))) = H := by simp [lb]
  rw [e1, mapV_low _ hv] at k
  exact k.bare rfl
theorem call_read2 {P : Program} {f : FuncId} {xs ys : List Int} {v : AV} (h : CallOK P f [.sl false 0 0 xs.length 1, .sl false 1 0 ys.length 1] (lb2 xs ys) v (lb2 xs ys)) (hv : below 0 v = true) {H : List AB} {id id' : Nat} {r r' l l' : Bool} (hg : getB H id = .cells r (.ints .i64 xs)) (hg' : getB H id' = .cells r' (.ints .i64 ys)) :
    CallOK P f [.sl l id 0 xs.length 1, .sl l' id' 0 ys.length 1] H v H := by
  have k := h.pick (fun i => by match i with
    | 0 => rfl
    | 1 => rfl
    | i + 2 => rfl) rfl [id, id'] rfl H (fun i hi => by
      match i, hi with
      | 0, _ =>
        refine ⟨getB_lt hg, fun σ τ z o hb => ?_⟩
        have e : ([id, id'] : List Nat).getD 0 0 = id := rfl
        rw [e, hg] at hb
        exact ro_ints hb
      | 1, _ =>
        refine ⟨getB_lt hg', fun σ τ z o hb => ?_⟩
        have e : ([id, id'] : List Nat).getD 1 0 = id' := rfl
        rw [e, hg'] at hb
        exact ro_ints hb
      | i + 2, hi => simp only [lb2, List.length_cons, List.length_nil] at hi; omega)
  have e1 : (H ++ ((lb2 xs ys).drop (lb2 xs ys).length).map (mapB (pickI (lb2 xs ys).length H.length [id, id']))) = H := by simp [lb2]
  rw [e1, mapV_low _ hv] at k
  exact k.bare rfl

/-! ### sum -/
noncomputable def suC : Code := Try.f33.body.getD .skip
noncomputable def su0 (xs : List Int) : Res := jupto Try.prog noT atLoop 100 [.code suC] (.sl false 0 0 xs.length 1 :: undefs 17) (lb xs)
noncomputable def suL : List Item := (su0 []).todo
noncomputable def suR : List Item := toLp suL
theorem suR_eq : toLp suR = suR := by kernel_rfl
def suT (xs : List Int) (acc : Int) (i : Nat) : List AV := [.sl false 0 0 xs.length 1, .any, .any, .i false .i64 acc, .i false .i64 (Int.ofNat i)] ++ List.replicate 13 .any
def suN (xs : List Int) (acc : Int) (i : Nat) : List AV := [.sl false 0 0 xs.length 1, .any, .any, .i false .i64 (wrapQ false .i64 (acc + xs.getD (0 + (Int.ofNat i).toNat * 1) 0)), .i false .i64 (wrapQ false .i64 (Int.ofNat i + 1))] ++ List.replicate 13 .any
def suM : List Bool := [false, true, true, false, false] ++ List.replicate 13 true
noncomputable def suU (xs : List Int) (acc : Int) (i : Nat) : Res := jupto Try.prog noT atLoop 100 suR (suT xs acc i) (lb xs)
theorem su0_ok (xs : List Int) : lfM suM (su0 xs) = (true, suL, (suT xs 0 0).map AV.bare, lb xs, []) := by kernel_rfl
theorem su_step (xs : List Int) (acc : Int) (i : Nat) : (condsP (suU xs acc i) [true], lfM suM ((suU xs acc i).at [true]), condsP (suU xs acc i) [false], endOf Try.prog Try.f33.results.toList ((suU xs acc i).at [false])) =
    ([ltQ false (Int.ofNat i) xs.length], (true, suR, (suN xs acc i).map AV.bare, lb xs, [decide (0 + (Int.ofNat i).toNat * 1 < (Cells.ints IntKind.i64 xs).len), decide (0 ≤ Int.ofNat i) && decide (Int.ofNat i < ↑xs.length)]),
     [!ltQ false (Int.ofNat i) xs.length], some (some ([.i false .i64 acc], []), lb xs, [])) := by kernel_rfl
def suA (xs : List Int) : Nat → Int
  | 0 => 0
  | i + 1 => wrapQ false .i64 (suA xs i + xs.getD i 0)
theorem ofNat_next {i : Nat} (h : i ≤ 5000) : wrapQ false .i64 (Int.ofNat i + 1) = Int.ofNat (i + 1) := by
  have : IntKind.i64.wrap (Int.ofNat i + 1) = Int.ofNat (i + 1) := by rw [wrap64_id] <;> simp <;> omega
  exact this
theorem su_go (xs : List Int) (hx : xs.length ≤ 5000) : ∀ (m i : Nat), i + m = xs.length → ∀ L, toLp L = suR → ∃ t H, Ends Try.prog L (suT xs (suA xs i) i) (lb xs) t H ∧ resV Try.prog t H Try.f33.results.toList = some ([.i false .i64 (suA xs xs.length)], []) ∧ H = lb xs
  | 0, i, hi, L, hL => by
    have : i = xs.length := by omega
    subst this
    have h := su_step xs (suA xs xs.length) xs.length
    simp only [Prod.mk.injEq] at h
    obtain ⟨_, _, c2, l2⟩ := h
    obtain ⟨t, e1, e2⟩ := way_ends (P := Try.prog) (T := noT) (stop := atLoop) (n := 100) (L := L) (R := suR) (noT_sound _) (hL.trans suR_eq.symm) (p := [false]) (t0 := suT xs (suA xs xs.length) xs.length) (H0 := lb xs) (by
      show allT (condsP (suU xs (suA xs xs.length) xs.length) [false]) = true
      rw [c2, ltQ_eq]; simp [allT]) l2 rfl
    exact ⟨t, _, e1, e2, rfl⟩
  | m + 1, i, hi, L, hL => by
    have h := su_step xs (suA xs i) i
    simp only [Prod.mk.injEq] at h
    obtain ⟨c1, l1, _, _⟩ := h
    have hr := way_reach (P := Try.prog) (T := noT) (stop := atLoop) (n := 100) (L := L) (R := suR) (noT_sound _) (hL.trans suR_eq.symm) (p := [true]) (t0 := suT xs (suA xs i) i) (H0 := lb xs) (by
      show allT (condsP (suU xs (suA xs i) i) [true]) = true
      rw [c1, ltQ_eq]; simp [allT]; omega) l1 (by simp [allT, Cells.len]; omega)
    have hN : suN xs (suA xs i) i = suT xs (suA xs (i + 1)) (i + 1) := by
      unfold suN suT
      rw [ofNat_next (by omega)]
      simp [suA]
    rw [hN] at hr
    obtain ⟨t, H, e1, e2⟩ := su_go xs hx m (i + 1) (by omega) suR suR_eq
    exact ⟨t, H, hr.ends e1, e2⟩
theorem sum_ok (xs : List Int) (hx : xs.length ≤ 5000) : CallOK Try.prog 33 [.sl false 0 0 xs.length 1] (lb xs) (.i false .i64 (suA xs xs.length)) (lb xs) := by
  have hr := way_reach (P := Try.prog) (T := noT) (stop := atLoop) (n := 100) (L := [.code suC]) (R := [.code suC]) (noT_sound _) rfl (p := []) (t0 := .sl false 0 0 xs.length 1 :: undefs 17) (H0 := lb xs) (t' := suT xs 0 0) (H' := lb xs) (M := suM) (nd := []) (todo' := suL) (by
    show allT (condsP (su0 xs) []) = true
    have : condsP (su0 xs) [] = [] := by cases su0 xs <;> rfl
    rw [this]; rfl) (by
    have h := su0_ok xs
    have e : (su0 xs).at [] = su0 xs := by cases su0 xs <;> rfl
    show lfM suM ((su0 xs).at []) = _
    rw [e]; exact h) rfl
  obtain ⟨t, H, e1, e2, rfl⟩ := su_go xs hx xs.length 0 (by omega) suL rfl
  have hb : Try.f33.body = some suC := rfl
  exact call_of_ends (args := [.sl false 0 0 xs.length 1]) (m := []) Try.func33 hb (hr.ends e1) e2 rfl
/-- Lists of whole numbers. -/
def intsAt (H : List AB) : AV → Option (List Int × List Bool)
  | .sl _ id off len z => match getB H id with
    | .cells _ (.ints k xs) => match Nat.beq (ikIx k) 3 with
      | true => some (xs, [decide (off = 0) && decide (z = 1), decide (len = xs.length), decide (len ≤ 5000)])
      | false => none
    | _ => none
  | _ => none
theorem intsAt_spec {H : List AB} {a : AV} {xs : List Int} {q : List Bool} (h : intsAt H a = some (xs, q)) (hq : allT q = true) : ∃ l id r, a = .sl l id 0 xs.length 1 ∧ getB H id = .cells r (.ints .i64 xs) ∧ xs.length ≤ 5000 := by
  unfold intsAt at h
  split at h <;> (try (cases h; done))
  rename_i l id off len z
  split at h <;> (try (cases h; done))
  rename_i r k ys hg
  split at h <;> cases h
  rename_i hk
  have hk := ikIx_inj (k := k) (k' := .i64) hk
  subst hk
  simp only [allT, Bool.and_eq_true, decide_eq_true_eq, Bool.and_true] at hq
  obtain ⟨⟨rfl, rfl⟩, rfl, h5⟩ := hq
  exact ⟨l, id, r, rfl, hg, h5⟩
def sumT : Table := fun _ args H nd K =>
  match args with
  | [a] => match intsAt H a with
    | some (xs, q) => K (.i false .i64 (suA xs xs.length)) H (q ++ nd)
    | none => .fail
  | _ => .fail
theorem sum_at : SoundAt Try.prog 33 sumT := fun args H nd K => by
  unfold sumT
  split
  case h_2 => exact .inl rfl
  split
  case h_2 => exact .inl rfl
  rename_i a _ xs q hi
  refine .inr ⟨_, _, _, rfl, fun hn => ?_⟩
  rw [allT_append, Bool.and_eq_true] at hn
  obtain ⟨l, id, r, rfl, hg, h5⟩ := intsAt_spec hi hn.1
  exact ⟨hn.2, call_read1 (sum_ok xs h5) rfl hg⟩

/-! ### likeInts -/
noncomputable def lkC : Code := Try.f42.body.getD .skip
noncomputable def lk0 (xs ys : List Int) : Res := jupto Try.prog noT atLoop 100 [.code lkC] (.sl false 0 0 xs.length 1 :: .sl false 1 0 ys.length 1 :: undefs 24) (lb2 xs ys)
noncomputable def lkL : List Item := ((lk0 [] []).at [false]).todo
noncomputable def lkR : List Item := toLp lkL
theorem lkR_eq : toLp lkR = lkR := by kernel_rfl
def lkT (xs ys : List Int) (i : Nat) : List AV := [.sl false 0 0 xs.length 1, .sl false 1 0 ys.length 1, .any, .any, .any, .i false .i64 (Int.ofNat i)] ++ List.replicate 20 .any
def lkN (xs ys : List Int) (i : Nat) : List AV := [.sl false 0 0 xs.length 1, .sl false 1 0 ys.length 1, .any, .any, .any, .i false .i64 (wrapQ false .i64 (Int.ofNat i + 1))] ++ List.replicate 20 .any
def lkM : List Bool := [false, false, true, true, true, false] ++ List.replicate 20 true
noncomputable def lkU (xs ys : List Int) (i : Nat) : Res := jupto Try.prog noT atLoop 100 lkR (lkT xs ys i) (lb2 xs ys)
theorem lk0_ok (xs ys : List Int) : (condsP (lk0 xs ys) [false], lfM lkM ((lk0 xs ys).at [false]), condsP (lk0 xs ys) [true], endOf Try.prog Try.f42.results.toList ((lk0 xs ys).at [true])) =
    ([!!eqQ false xs.length ys.length], (true, lkL, (lkT xs ys 0).map AV.bare, lb2 xs ys, []), [!eqQ false xs.length ys.length], some (some ([.b true false], []), lb2 xs ys, [])) := by kernel_rfl
def lkQ (xs ys : List Int) (i : Nat) : List Bool := [decide (0 + (Int.ofNat i).toNat * 1 < (Cells.ints IntKind.i64 ys).len), decide (0 ≤ Int.ofNat i) && decide (Int.ofNat i < ↑ys.length),
  decide (0 + (Int.ofNat i).toNat * 1 < (Cells.ints IntKind.i64 xs).len), decide (0 ≤ Int.ofNat i) && decide (Int.ofNat i < ↑xs.length)]
def lkE (xs ys : List Int) (i : Nat) : Bool := eqQ false (xs.getD (0 + (Int.ofNat i).toNat * 1) 0) (ys.getD (0 + (Int.ofNat i).toNat * 1) 0)
theorem lk_step (xs ys : List Int) (i : Nat) : (condsP (lkU xs ys i) [true, false], lfM lkM ((lkU xs ys i).at [true, false]), condsP (lkU xs ys i) [false], endOf Try.prog Try.f42.results.toList ((lkU xs ys i).at [false]), condsP (lkU xs ys i) [true, true], endOf Try.prog Try.f42.results.toList ((lkU xs ys i).at [true, true])) =
    ([ltQ false (Int.ofNat i) xs.length, !!lkE xs ys i], (true, lkR, (lkN xs ys i).map AV.bare, lb2 xs ys, lkQ xs ys i),
     [!ltQ false (Int.ofNat i) xs.length], some (some ([.b true true], []), lb2 xs ys, []),
     [ltQ false (Int.ofNat i) xs.length, !lkE xs ys i], some (some ([.b true false], []), lb2 xs ys, lkQ xs ys i)) := by kernel_rfl
theorem lk_go (xs ys : List Int) (hl : xs.length = ys.length) (hx : xs.length ≤ 5000) : ∀ (m i : Nat), i + m = xs.length → xs.take i = ys.take i → ∀ L, toLp L = lkR → ∃ t b, Ends Try.prog L (lkT xs ys i) (lb2 xs ys) t (lb2 xs ys) ∧ resV Try.prog t (lb2 xs ys) Try.f42.results.toList = some ([.b b (xs == ys)], [])
  | 0, i, hi, hp, L, hL => by
    have : i = xs.length := by omega
    subst this
    have h := lk_step xs ys xs.length
    simp only [Prod.mk.injEq] at h
    obtain ⟨_, _, c2, l2, _⟩ := h
    obtain ⟨t, e1, e2⟩ := way_ends (P := Try.prog) (T := noT) (stop := atLoop) (n := 100) (L := L) (R := lkR) (noT_sound _) (hL.trans lkR_eq.symm) (p := [false]) (t0 := lkT xs ys xs.length) (H0 := lb2 xs ys) (by
      show allT (condsP (lkU xs ys xs.length) [false]) = true
      rw [c2, ltQ_eq]; simp [allT]) l2 rfl
    refine ⟨t, true, e1, ?_⟩
    have : xs = ys := by
      have h1 : xs.take xs.length = xs := List.take_length
      have h2 : ys.take xs.length = ys := by rw [hl]; exact List.take_length
      rw [← h1, hp, h2]
    rw [e2, this]; simp
  | m + 1, i, hi, hp, L, hL => by
    have h := lk_step xs ys i
    simp only [Prod.mk.injEq] at h
    obtain ⟨c1, l1, _, _, c3, l3⟩ := h
    have hq : allT (lkQ xs ys i) = true := by simp [lkQ, allT, Cells.len]; omega
    have hlt : ltQ false (Int.ofNat i) xs.length = true := by rw [ltQ_eq]; simp; omega
    have hix : i < xs.length := by omega
    have hiy : i < ys.length := by omega
    have hE : lkE xs ys i = (xs[i] == ys[i]) := by
      unfold lkE
      rw [eqQ_eq]
      simp [List.getD_eq_getElem?_getD, hix, hiy]
    cases he : lkE xs ys i with
    | true =>
      have hr := way_reach (P := Try.prog) (T := noT) (stop := atLoop) (n := 100) (L := L) (R := lkR) (noT_sound _) (hL.trans lkR_eq.symm) (p := [true, false]) (t0 := lkT xs ys i) (H0 := lb2 xs ys) (by
        show allT (condsP (lkU xs ys i) [true, false]) = true
        rw [c1, hlt, he]; rfl) l1 hq
      have hN : lkN xs ys i = lkT xs ys (i + 1) := by
        unfold lkN lkT
        rw [ofNat_next (by omega)]
      rw [hN] at hr
      have he' := hE.symm.trans he
      rw [beq_iff_eq] at he'
      obtain ⟨t, b, e1, e2⟩ := lk_go xs ys hl hx m (i + 1) (by omega) (by
        rw [List.take_succ_eq_append_getElem hix, List.take_succ_eq_append_getElem hiy, hp, he']) lkR lkR_eq
      exact ⟨t, b, hr.ends e1, e2⟩
    | false =>
      obtain ⟨t, e1, e2⟩ := way_ends (P := Try.prog) (T := noT) (stop := atLoop) (n := 100) (L := L) (R := lkR) (noT_sound _) (hL.trans lkR_eq.symm) (p := [true, true]) (t0 := lkT xs ys i) (H0 := lb2 xs ys) (by
        show allT (condsP (lkU xs ys i) [true, true]) = true
        rw [c3, hlt, he]; rfl) l3 hq
      refine ⟨t, true, e1, ?_⟩
      have : (xs == ys) = false := by
        rw [hE] at he
        rw [beq_eq_false_iff_ne] at he ⊢
        intro h
        subst h
        exact he rfl
      rw [e2, this]
theorem like_ok (xs ys : List Int) (hx : xs.length ≤ 5000) : CallOK Try.prog 42 [.sl false 0 0 xs.length 1, .sl false 1 0 ys.length 1] (lb2 xs ys) (.b false (xs == ys)) (lb2 xs ys) := by
  have h := lk0_ok xs ys
  simp only [Prod.mk.injEq] at h
  obtain ⟨c1, l1, c2, l2⟩ := h
  have hb : Try.f42.body = some lkC := rfl
  by_cases hl : xs.length = ys.length
  · have hr := way_reach (P := Try.prog) (T := noT) (stop := atLoop) (n := 100) (L := [.code lkC]) (R := [.code lkC]) (noT_sound _) rfl (p := [false]) (t0 := .sl false 0 0 xs.length 1 :: .sl false 1 0 ys.length 1 :: undefs 24) (H0 := lb2 xs ys) (by
      show allT (condsP (lk0 xs ys) [false]) = true
      rw [c1, eqQ_eq, hl]; simp [allT]) l1 rfl
    obtain ⟨t, b, e1, e2⟩ := lk_go xs ys hl hx xs.length 0 (by omega) rfl lkL rfl
    have := call_of_ends (args := [.sl false 0 0 xs.length 1, .sl false 1 0 ys.length 1]) (m := []) Try.func42 hb (hr.ends e1) e2 rfl
    exact this.weaken fun σ x r => by cases r; exact .b _
  · obtain ⟨t, e1, e2⟩ := way_ends (P := Try.prog) (T := noT) (stop := atLoop) (n := 100) (L := [.code lkC]) (R := [.code lkC]) (noT_sound _) rfl (p := [true]) (t0 := .sl false 0 0 xs.length 1 :: .sl false 1 0 ys.length 1 :: undefs 24) (H0 := lb2 xs ys) (by
      show allT (condsP (lk0 xs ys) [true]) = true
      rw [c2, eqQ_eq]; simp [allT]; omega) l2 rfl
    have := call_of_ends (args := [.sl false 0 0 xs.length 1, .sl false 1 0 ys.length 1]) (m := []) Try.func42 hb e1 e2 rfl
    have e : (xs == ys) = false := by
      rw [beq_eq_false_iff_ne]
      intro h; exact hl (by rw [h])
    rw [e]
    exact this.weaken fun σ x r => by cases r; exact .b _
theorem like_nil : joinR 0 (tabX 42 [.slnil, .slnil] [] [] fun v H nd => .ret v H nd) = some (.b true true, []) := by kernel_rfl
def likeT : Table := fun _ args H nd K =>
  match args with
  | [a, b] => match intsAt H a, intsAt H b with
    | some (xs, q), some (ys, q') => K (.b false (xs == ys)) H (q ++ (q' ++ nd))
    | _, _ => match a, b with
      | .slnil, .slnil => K (.b true true) H nd
      | _, _ => .fail
  | _ => .fail
theorem like_at : SoundAt Try.prog 42 likeT := fun args H nd K => by
  unfold likeT
  split
  case h_2 => exact .inl rfl
  split
  · rename_i a b xs q ys q' hi hj
    refine .inr ⟨_, _, _, rfl, fun hn => ?_⟩
    rw [allT_append, allT_append, Bool.and_eq_true, Bool.and_eq_true] at hn
    obtain ⟨l, id, r, rfl, hg, h5⟩ := intsAt_spec hi hn.1
    obtain ⟨l', id', r', rfl, hg', _⟩ := intsAt_spec hj hn.2.1
    exact ⟨hn.2.2, call_read2 (like_ok xs ys h5) rfl hg hg'⟩
  · split
    case h_2 => exact .inl rfl
    exact .inr ⟨_, _, _, rfl, fun hn => ⟨hn, call_of_join tabX_sound like_nil rfl rfl H⟩⟩
end Go.Ax

/- OpenCells: contract and row; AddWaves where it must go well. -/
namespace Go.Ax
open Go Go.Proofs

def cntN (p : Nat → Bool) (s : Nat) : Nat → Nat
  | 0 => 0
  | k + 1 => cntN p s k + (p (s + k)).toNat
theorem cntN_le (p : Nat → Bool) (s : Nat) : ∀ k, cntN p s k ≤ k
  | 0 => Nat.le_refl _
  | k + 1 => by
    have := cntN_le p s k
    rw [cntN]
    cases p (s + k) <;> simp <;> omega
theorem cntW_eq (p : Nat → Bool) (s : Nat) : ∀ k, k ≤ 5000 → cntW p s k = Int.ofNat (cntN p s k)
  | 0, _ => rfl
  | k + 1, h => by
    have hl := cntN_le p s k
    rw [cntW, cntN, cntW_eq p s k (by omega), ofNat_next (by omega)]
    cases p (s + k) <;> simp
theorem cntN_congr {p q : Nat → Bool} {s : Nat} : ∀ {k : Nat}, (∀ i, i < k → p (s + i) = q (s + i)) → cntN p s k = cntN q s k
  | 0, _ => rfl
  | k + 1, h => by
    rw [cntN, cntN, cntN_congr (k := k) fun i hi => h i (by omega), h k (by omega)]
def openL (n : Int) (X : Nat → Nat × Nat) : List Int := (List.range n.toNat).map fun r => Int.ofNat (cntN (fun j => oC (X j)) (n.toNat * r) n.toNat)
theorem cell_lt {n : Int} (hs : sideB n = true) {r k : Nat} (hr : r < n.toNat) (hk : k < n.toNat) : n.toNat * r + k < n.toNat * n.toNat ∧ n.toNat * n.toNat ≤ 64 := by
  rcases sideB_iff.1 hs with rfl | rfl | rfl | rfl <;> simp at hr hk ⊢ <;> omega
theorem open_cells {n : Int} {X : Nat → Nat × Nat} (h : isMaskB n X = true) (sp : Bool) : ((List.range n.toNat).map fun r => cntW (openP sp X) (n.toNat * r) n.toNat) = openL n X := by
  have hs : sideB n = true := by
    cases hs : sideB n with
    | true => rfl
    | false => rw [(noSide_mask hs).1] at h; cases h
  refine List.map_congr_left fun r hr => ?_
  have hr : r < n.toNat := by simpa using hr
  rw [cntW_eq _ _ _ (by rcases sideB_iff.1 hs with rfl | rfl | rfl | rfl <;> decide)]
  congr 1
  refine cntN_congr fun i hi => ?_
  obtain ⟨h1, h2⟩ := cell_lt hs hr hi
  have := (mask_open h (j := n.toNat * r + i) (by omega)).2.2
  cases sp with
  | false => rfl
  | true => simp only [openP, this, Bool.not_not]
theorem openN_ok {n : Int} {X : Nat → Nat × Nat} (h : isMaskB n X = true) (sp : Bool) : allT (openN sp (n.toNat * n.toNat) X) = true := by
  have key : ∀ j, j < 64 → (sp = true → j < n.toNat * n.toNat) → openO sp X (n.toNat * n.toNat) j = true := fun j hj hsp => by
    unfold openO
    cases hb : Nat.blt j (n.toNat * n.toNat) with
    | true => cases openP sp X j <;> rfl
    | false =>
      have hn := blt_false hb
      cases sp with
      | true => exact absurd (hsp rfl) hn
      | false =>
        have := (mask_open h hj).2.1 (by omega)
        simp [openP, this]
  have h64 : n.toNat * n.toNat ≤ 64 := by
    have hs : sideB n = true := by
      cases hs : sideB n with
      | true => rfl
      | false => rw [(noSide_mask hs).1] at h; cases h
    rcases sideB_iff.1 hs with rfl | rfl | rfl | rfl <;> decide
  refine allT_of fun b hb => ?_
  unfold openN at hb
  cases sp with
  | true =>
    obtain ⟨k, hk, rfl⟩ := List.mem_map.1 hb
    have hk : k < n.toNat * n.toNat := by simpa using hk
    exact key _ (by omega) fun _ => by omega
  | false =>
    obtain ⟨k, hk, rfl⟩ := List.mem_map.1 hb
    have hk : k < 64 := by simpa using hk
    exact key _ (by omega) fun h => by cases h
noncomputable def tabJN : Table := tabOf (jdeep Try.prog rowsKN [] 3000 8)
theorem tabJN_sound : SoundT Try.prog tabJN := jdeep_sound rowsKN_at 8
theorem open_no (f : FuncId) (hf : f = 31 ∨ f = 41) (n : Int) (X : Nat → Nat × Nat) : joinR 0 (tabJN f [wvT false n X] [] [] fun v H nd => .ret v H nd) = some (.tup [.slnil, .i true .i64 1], [!sideB n]) := by
  rcases hf with rfl | rfl <;> kernel_rfl
theorem open_ok (f : FuncId) (hf : f = 31 ∨ f = 41) {n : Int} {X : Nat → Nat × Nat} (h : isMaskB n X = true) (H : List AB) : CallOK Try.prog f [wv n X] H (.tup [.sl false H.length 0 n.toNat 1, .i true .i64 0]) (H ++ [.cells true (.ints .i64 (openL n X))]) := by
  have hs : sideB n = true := by
    cases hs : sideB n with
    | true => rfl
    | false => rw [(noSide_mask hs).1] at h; cases h
  obtain ⟨sp, hsp⟩ : ∃ sp, (f, sp) ∈ ([(31, false), (41, true)] : List (FuncId × Bool)) := by
    rcases hf with rfl | rfl
    · exact ⟨false, by simp⟩
    · exact ⟨true, by simp⟩
  have hr := open_run f sp hsp _ n (side_cases hs) X
  simp only [Prod.mk.injEq] at hr
  obtain ⟨_, h1, h2⟩ := hr
  have k := call_of_leaf (H0 := []) (ks := [0]) (dirs := [false]) tabJ_sound (Prod.ext h1 h2) (by rw [isMaskB_re, h]; rfl) (openN_ok h sp)
  rw [open_cells h sp] at k
  have k2 := ((CallOK.fresh k (fun g => rfl) (by simp [belowL, wvT_below]) H).deep (args' := [wv n X]) rfl)
  refine k2.weaken fun σ x r => ?_
  have e : mapV (pickI 0 H.length []) (.tup [.sl true 0 0 n.toNat 1, .i true .i64 0]) = .tup [.sl true (0 - 0 + H.length) 0 n.toNat 1, .i true .i64 0] := by
    simp [mapV, mapL, pickI]
  rw [e] at r
  refine tup_bare ?_ r
  simp [AV.bare]
theorem open_bad (f : FuncId) (hf : f = 31 ∨ f = 41) {n : Int} {X : Nat → Nat × Nat} (h : isMaskB n X = false) (H : List AB) : CallOK Try.prog f [wv n X] H (.tup [.slnil, .i true .i64 1]) H := by
  cases hs : sideB n with
  | true =>
    obtain ⟨sp, hsp⟩ : ∃ sp, (f, sp) ∈ ([(31, false), (41, true)] : List (FuncId × Bool)) := by
      rcases hf with rfl | rfl
      · exact ⟨false, by simp⟩
      · exact ⟨true, by simp⟩
    have hr := open_run f sp hsp _ n (side_cases hs) X
    simp only [Prod.mk.injEq] at hr
    obtain ⟨⟨h1, h2⟩, _⟩ := hr
    have k := call_of_leaf (H0 := []) (ks := [0]) (dirs := [true]) tabJ_sound (Prod.ext h1 h2) (by rw [isMaskB_re, h]; rfl) rfl
    exact ((k.lift rfl (by simp [belowL, wvT_below]) H rfl).deep (args' := [wv n X]) rfl)
  | false => exact ((call_of_join tabJN_sound (open_no f hf n X) (by simp [allT, hs]) (by simp [belowL, wvT_below]) H).deep (args' := [wv n X]) rfl)
noncomputable def openT : Table := fun _ args H nd K =>
  match args with
  | [.agg l] => match ofW l with
    | some (n, X) => .ite (isMaskB n X) (K (.tup [.sl false H.length 0 n.toNat 1, .i true .i64 0]) (H ++ [.cells true (.ints .i64 (openL n X))]) nd) (K (.tup [.slnil, .i true .i64 1]) H nd)
    | none => .fail
  | _ => .fail
theorem open_at (f : FuncId) (hf : f = 31 ∨ f = 41) : SoundAt Try.prog f openT := fun args H nd K => by
  unfold openT
  split
  case h_2 => exact .inl rfl
  split
  case h_2 => exact .inl rfl
  rename_i l _ n X hl
  cases h : isMaskB n X with
  | true => exact .inr ⟨_, _, _, rfl, fun hn => ⟨hn, (open_ok f hf h H).deep (by simp only [List.map_cons, ofW_spec hl])⟩⟩
  | false => exact .inr ⟨_, _, _, rfl, fun hn => ⟨hn, (open_bad f hf h H).deep (by simp only [List.map_cons, ofW_spec hl])⟩⟩

/-! ### AddWaves -/
noncomputable def gYesWave : List AV → Option (AV × List Bool)
  | [.agg l] => match ofW l with
    | some (n, X) => some (.b true true, [isWaveB n X])
    | none => none
  | _ => none
theorem yesWave_at (f : FuncId) (hf : f = 18 ∨ f = 208) : SoundAt Try.prog f (pureT gYesWave) := fun args H nd K => by
  refine pureT_sound (fun args v n h hn H => ?_) args H nd K
  unfold gYesWave at h
  split at h <;> (try (cases h; done))
  split at h <;> cases h
  rename_i n0 X0 hl
  refine ((is_ok f hf n0 X0 H).deep (by simp only [List.map_cons, ofW_spec hl])).weaken fun σ x r => ?_
  simp only [allT, Bool.and_true] at hn
  rw [hn] at r
  cases r; exact .b _
noncomputable def rowsYes : List (FuncId × Table) := [(18, pureT gYesWave), (208, pureT gYesWave)]
theorem rowsYes_at : ∀ p ∈ rowsYes, SoundAt Try.prog p.1 p.2 := fun p hp => by
  simp only [rowsYes, List.mem_cons, List.not_mem_nil, or_false] at hp
  rcases hp with rfl | rfl
  · exact yesWave_at 18 (.inl rfl)
  · exact yesWave_at 208 (.inr rfl)
noncomputable def tabYes : Table := tabOf (cdeep Try.prog rowsYes [] 3000 8)
theorem tabYes_sound : SoundT Try.prog tabYes := cdeep_sound rowsYes_at 8
def addZ (N : Nat) (X Y : Nat → Nat × Nat) (j : Nat) : Nat × Nat := match Nat.ble N j with
  | true => (0, 0)
  | false => (fadd .f32 (X j).1 (Y j).1, fadd .f32 (X j).2 (Y j).2)
def addV (N : Nat) (n : Int) (X Y : Nat → Nat × Nat) : AV := .tup [.agg (.i true .i64 n :: (List.range 64).map fun j => match Nat.ble N j with
    | true => .c true .f32 0 0
    | false => .c false .f32 (plusF (fadd .f32 (X j).1 (Y j).1)) (plusF (fadd .f32 (X j).2 (Y j).2))), .i true .i64 0]
theorem add_run (N : Nat) (n : Int) (hn : (N, n) ∈ doNs) (X Y : Nat → Nat × Nat) : joinR 0 (tabYes 37 [wvT true n X, wvT true n Y] [] [] fun v H nd => .ret v H nd) = some (addV N n X Y, [isWaveB n (reX (addZ N X Y)), isWaveB n (reX Y), isWaveB n (reX X)]) := by
  simp only [doNs, List.mem_cons, Prod.mk.injEq, List.not_mem_nil, or_false] at hn
  rcases hn with ⟨rfl, rfl⟩ | ⟨rfl, rfl⟩ | ⟨rfl, rfl⟩ | ⟨rfl, rfl⟩ <;> kernel_rfl
def addX (n : Int) (X Y : Nat → Nat × Nat) (j : Nat) : Nat × Nat := (plusF (addZ (n.toNat * n.toNat) X Y j).1, plusF (addZ (n.toNat * n.toNat) X Y j).2)
theorem add_ok (n : Int) (X Y : Nat → Nat × Nat) (h1 : isWaveB n X = true) (h2 : isWaveB n Y = true) (h3 : isWaveB n (addZ (n.toNat * n.toNat) X Y) = true) (H : List AB) : CallOK Try.prog 37 [wv n X, wv n Y] H (.tup [wv n (addX n X Y), .i true .i64 0]) H := by
  have hs : sideB n = true := by
    unfold isWaveB at h1
    rw [Bool.and_eq_true] at h1
    exact h1.1
  refine ((call_of_join tabYes_sound (add_run _ n (side_cases hs) X Y) (by simp [allT, isWaveB_re, h1, h2, h3]) (by simp [belowL, wvT_below]) H).deep (args' := [wv n X, wv n Y]) rfl).weaken fun σ x r => ?_
  unfold addV at r
  refine tup2_weak ?_ rfl r
  simp only [waveL, List.map_cons, List.map_map, AV.bare]
  congr 1
  apply List.map_congr_left
  intro j _
  simp only [Function.comp, cx, addX, addZ]
  cases Nat.ble (n.toNat * n.toNat) j with
  | true => simp [AV.bare, plus_zero]
  | false => rfl
noncomputable def gAdd : List AV → Option (AV × List Bool)
  | [.agg l, .agg l'] => match ofW l, ofW l' with
    | some (n, X), some (m, Y) => some (.tup [wv n (addX n X Y), .i true .i64 0], [eqQ false m n, isWaveB n X, isWaveB n Y, isWaveB n (addZ (n.toNat * n.toNat) X Y)])
    | _, _ => none
  | _ => none
theorem add_at : SoundAt Try.prog 37 (pureT gAdd) := fun args H nd K => by
  refine pureT_sound (fun args v n h hn H => ?_) args H nd K
  unfold gAdd at h
  split at h <;> (try (cases h; done))
  split at h <;> cases h
  rename_i n0 X0 m0 Y0 hl hl'
  simp only [allT, Bool.and_eq_true, Bool.and_true, eqQ_beq, beq_iff_eq] at hn
  obtain ⟨rfl, h1, h2, h3⟩ := hn
  exact (add_ok m0 X0 Y0 h1 h2 h3 H).deep (by simp only [List.map_cons, ofW_spec hl, ofW_spec hl'])
end Go.Ax

/- spec.l03Mask, l03Spoil, DrawComplementOf, DrawOpenCells: some wave. -/
namespace Go.Ax
open Go Go.Proofs

theorem srcOK_bare {P : Program} {f : FuncId} {sc sc' : List AV} {c : Cd} {a a' : Nat} {h h' : Int} {v : AV} (k : SrcOK P f sc c a h v a' h') (e : sc'.map AV.bare = sc.map AV.bare) (hl : belowL 0 sc' = true) : SrcOK P f sc' c a h v a' h' := by
  obtain ⟨H2, k1, k2, k3, _⟩ := k
  exact ⟨H2, k1.bare (by simp only [List.map_cons, e]), k2, k3, hl⟩
theorem mask_nd (n : Int) (m : Nat) (h : (n, m) ∈ ([(1, 2), (2, 5), (4, 17), (8, 65)] : List (Int × Nat))) (c : Cd) (a : Nat) (hh : Int) : ndsOf formW (tab11 1) 126 [.i true .i64 n] c a hh = some (List.replicate m (okB c c.off c.len)) := by
  simp only [List.mem_cons, Prod.mk.injEq, List.not_mem_nil, or_false] at h
  rcases h with ⟨rfl, rfl⟩ | ⟨rfl, rfl⟩ | ⟨rfl, rfl⟩ | ⟨rfl, rfl⟩ <;> kernel_rfl
theorem mask_at : SoundAt Try.prog 126 (exT formW 126 normS) :=
  exT_at fun sc sc' q hs hq => by
    unfold normS at hs
    split at hs <;> (try (cases hs; done))
    split at hs <;> cases hs
    rename_i n _ hch
    have hq := chk_spec hch hq
    refine ⟨rfl, rfl, fun c a h hc => ?_⟩
    have key : ∀ n m, (n, m) ∈ ([(1, 2), (2, 5), (4, 17), (8, 65)] : List (Int × Nat)) → ∃ x a' h', SrcOK Try.prog 126 [.i false .i64 n] c a h (formW.val x) a' h' := fun n m hm => by
      obtain ⟨x, a', h', e⟩ := src_ex (tab11_sound 1) (mask_nd n m hm c a h) hc rfl
      exact ⟨x, a', h', srcOK_bare e rfl rfl⟩
    rcases sideB_iff.1 hq with rfl | rfl | rfl | rfl
    · exact key 1 2 (by simp)
    · exact key 2 5 (by simp)
    · exact key 4 17 (by simp)
    · exact key 8 65 (by simp)
noncomputable def msNd (k : Bool) (v : Int) : List Bool :=
  let l := [k, decide (1 + v.toNat * 1 < 65), !decide (1 + v.toNat * 1 = 0), decide (0 ≤ v) && decide (v < ((64 : Nat) : Int)), k, k, k, k]
  l ++ (l ++ (l ++ (l ++ (l ++ (l ++ [k, k])))))
theorem ms_nd (n : Int) (X : Nat → Nat × Nat) (c : Cd) (a : Nat) (h : Int) : ndsOf formW (tab11 4) 125 [wv n X] c a h = some (msNd (okB c c.off c.len) (nxV c (nxA c a 20) (nxS h 20) 64)) := by kernel_rfl
theorem ms_at : SoundAt Try.prog 125 (exT formW 125 normW) := normW_at fun n X c a h hc => by
  refine src_ex' (tab11_sound 4) (ms_nd n X c a h) ?_ (by simp [belowL, wv_low])
  have hk : okB c c.off c.len = true := by simp [okB, hc]
  have hb := nxV_bound hc (nxA c a 20) (nxS h 20) 64
  have hb2 := hb.2 (by decide)
  generalize nxV c (nxA c a 20) (nxS h 20) 64 = v at *
  have e1 : decide (1 + v.toNat * 1 < 65) = true := by simp; omega
  have e2 : (!decide (1 + v.toNat * 1 = 0)) = true := by simp
  have e3 : (decide (0 ≤ v) && decide (v < ((64 : Nat) : Int))) = true := by simp; omega
  unfold msNd
  rw [hk, e1, e2, e3]
  rfl
noncomputable def rows12 (mx : Int) : List (FuncId × Table) := (126, exT formW 126 normS) :: (125, exT formW 125 normW) :: rows11 mx
theorem rows12_at (mx : Int) : allAt Try.prog (rows12 mx) := ⟨mask_at, ms_at, rows11_at mx⟩
noncomputable def tab12 (mx : Int) : Table := tabOf (cdeep Try.prog (rows12 mx) inlS 2000 6)
theorem tab12_sound (mx : Int) : SoundT Try.prog (tab12 mx) := cdeep_sound (allAt_mem (rows12_at mx)) 6
end Go.Ax

/- Drawing functions that branch ahead of a region of the mixed kind; spec.l03Pair, DrawUnionOf, DrawBehindMask. -/
namespace Go.Ax
open Go Go.Proofs

noncomputable def mx0 (T : Table) (C : Code) (rid nt : Nat) (c : Cd) : Res := cupto Try.prog T (atReg rid) 100 [.code C] (.sl false 0 c.off c.len 0 :: undefs nt) [codeB c false]
noncomputable def mx1 (T : Table) (E : List FuncId) (src m : Nat) (L : List Item) (x : Leaf) : Res := runM Try.prog T E src ((opsOf L).toList.take m) x.t x.H [] fun t H nd => runOps Try.prog T (opsOf L) ((opsOf L).toList.drop m) t H nd fun t H nd => .stop [] t H nd
noncomputable def mx2 (T : Table) (L : List Item) (r : Res) : Res := cupto Try.prog T (fun _ => false) 100 (tlOf L) r.tOf r.HOf
noncomputable def mxLeaf {α : Type} (T : Table) (E : List FuncId) (src m : Nat) (L : List Item) (F : Form α) (rs : List ResultVar) (x : Leaf) : List Item × Bool × Bool × List Item × List Bool × Option (List Bool) :=
  (x.todo, rwAt x.H src, (mx1 T E src m L x).isStop, (mx1 T E src m L x).todo, x.nd ++ (mx1 T E src m L x).nds, endN (endF F rs (mx2 T L (mx1 T E src m L x))))
theorem mix_draw {α : Type} {T0 T : Table} {C : Code} {rid nt src m : Nat} {E : List FuncId} {L : List Item} {F : Form α} {f : FuncId} {fn : Func} {c : Cd} {qs : List Nat} (hT0 : SoundT Try.prog T0) (hT : SoundT Try.prog T) (hc : goodB c = true)
    (hfn : Try.prog.funcs[f]? = some fn) (hb : fn.body = some C) (hnt : fn.ntmps = nt + 1)
    (hL : L = .code (.region rid (opsOf L) true) :: tlOf L) (hd : (drawOK (opsOf L) m && effOK E (opsOf L) m && Try.prog.follows .mixedOrders && Nat.ble m (opsOf L).size) = true)
    (h0 : (mx0 T0 C rid nt c).allStop = true) (hl : (mx0 T0 C rid nt c).stops.map (mxLeaf T E src m L F fn.results.toList) = qs.map fun q => (L, true, true, [], List.replicate q (okB c c.off c.len), some [])) : ∃ x, DrawOK Try.prog f c (F.val x) := by
  obtain ⟨x, hx, hs⟩ := Res.stops_sel h0
  have hmem : mxLeaf T E src m L F fn.results.toList x ∈ qs.map fun q => (L, true, true, [], List.replicate q (okB c c.off c.len), some []) := by
    rw [← hl]
    exact List.mem_map.2 ⟨x, hx, rfl⟩
  obtain ⟨q, _, hq⟩ := List.mem_map.1 hmem
  simp only [mxLeaf, Prod.mk.injEq] at hq
  obtain ⟨a2, a3, b1, b2, hnd, hn⟩ := hq
  have hall := nd_ok hc hnd.symm
  rw [allT_append, Bool.and_eq_true] at hall
  have r0 := cupto_reach hT0 hs hall.1
  rw [← a2, hL] at r0
  simp only [Bool.and_eq_true] at hd
  obtain ⟨⟨⟨d1, d2⟩, d3⟩, d4⟩ := hd
  have e1 := Res.isStop_eq b1.symm
  rw [← b2] at e1
  have hsel : (mx1 T E src m L x).sel = .stop [] (mx1 T E src m L x).tOf (mx1 T E src m L x).HOf (mx1 T E src m L x).nds := by
    conv => lhs; rw [e1]
    rfl
  have r1 := mix_reach (k := tlOf L) (id := rid) hT d3 (Nat.le_of_ble_eq_true d4) d1 d2 a3.symm hsel hall.2
  cases hr : endF F fn.results.toList (mx2 T L (mx1 T E src m L x)) with
  | none => rw [hr] at hn; cases hn
  | some y =>
    obtain ⟨x, nd⟩ := y
    rw [hr] at hn
    simp only [endN, Option.map_some, Option.some.injEq] at hn
    subst hn
    unfold endF at hr
    split at hr <;> (try (cases hr; done))
    rename_i rx H nd0 he
    split at hr <;> (try (cases hr; done))
    rename_i vs m
    split at hr <;> (try (cases hr; done))
    rename_i y hy
    simp only [Option.some.injEq, Prod.mk.injEq, List.append_eq_nil_iff] at hr
    obtain ⟨rfl, rfl, rfl⟩ := hr
    obtain ⟨t, g1, g2⟩ := endOf_ends hT he rfl rfl
    have hcall := call_of_ends (args := [.sl false 0 c.off c.len 0]) hfn hb (by rw [hnt]; exact (r0.trans r1).ends g1) g2 rfl
    have hw := hcall.weaken fun σ z r => F.rel hy σ z r
    exact ⟨y, fun Hr => hw.read (F.low y) rfl Hr⟩
def formWW : Form ((Int × (Nat → Nat × Nat)) × (Int × (Nat → Nat × Nat))) where
  get := fun
    | .tup [a, b] => match formW.get a, formW.get b with
      | some x, some y => some (x, y)
      | _, _ => none
    | _ => none
  val := fun x => .tup [wv x.1.1 x.1.2, wv x.2.1 x.2.2]
  rel := fun {v x} h σ y r => by
    split at h <;> (try (cases h; done))
    split at h <;> cases h
    rename_i a b x1 x2 h1 h2
    cases r with | tup hr =>
    generalize hal : Array.toList _ = al at hr
    cases hr with | cons r1 hr => cases hr with | cons r2 hr => cases hr with | nil =>
    refine .tup ?_
    rw [hal]
    exact .cons (formW.rel h1 σ _ r1) (.cons (formW.rel h2 σ _ r2) .nil)
  low := fun x => by simp [below, belowL, wv_low]
end Go.Ax

/- spec.l03Pair, DrawUnionOf, DrawComplementOf, DrawOpenCells. -/
namespace Go.Ax
open Go Go.Proofs

noncomputable def prC : Code := Try.f114.body.getD .skip
noncomputable def prL : List Item := ((mx0 (tab12 7) prC 6 26 ⟨[], 0, 0⟩).stops.map (·.todo)).headD []
theorem prL_eq : prL = .code (.region 6 (opsOf prL) true) :: tlOf prL := by kernel_rfl
theorem pr_draw : (drawOK (opsOf prL) 6 && effOK [126, 125] (opsOf prL) 6 && Try.prog.follows .mixedOrders && Nat.ble 6 (opsOf prL).size) = true := by kernel_rfl
theorem pr_all (c : Cd) : (mx0 (tab12 7) prC 6 26 c).allStop = true := by kernel_rfl
def prQ : List Nat := (List.replicate 7 [8, 8, 8, 8, 8, 8, 8, 7]).flatten
theorem pr_leaves (c : Cd) : (mx0 (tab12 7) prC 6 26 c).stops.map (mxLeaf (tab12 1) [126, 125] 3 6 prL formWW Try.f114.results.toList) = prQ.map fun q => (prL, true, true, [], List.replicate q (okB c c.off c.len), some []) := by kernel_rfl
instance : Inhabited ((Int × (Nat → Nat × Nat)) × (Int × (Nat → Nat × Nat))) := ⟨((0, fun _ => (0, 0)), (0, fun _ => (0, 0)))⟩
theorem pair_ok {c : Cd} (hc : goodB c = true) : ∃ x, DrawOK Try.prog 114 c (formWW.val x) :=
  mix_draw (tab12_sound 7) (tab12_sound 1) hc Try.func114 rfl rfl prL_eq pr_draw (pr_all c) (pr_leaves c)
noncomputable def tabU : Table := tabOf (cdeep Try.prog [(114, drawT formWW)] [] 200 2)
theorem tabU_sound : SoundT Try.prog tabU := cdeep_sound (fun p hp => by
  simp only [List.mem_cons, List.not_mem_nil, or_false] at hp
  subst hp
  exact drawT_at fun c hc => pair_ok hc) 2
noncomputable def unC : Code := Try.f24.body.getD .skip
noncomputable def unL : List Item := ((mx0 tabU unC 2 12 ⟨[], 0, 0⟩).stops.map (·.todo)).headD []
theorem unL_eq : unL = .code (.region 2 (opsOf unL) true) :: tlOf unL := by kernel_rfl
theorem un_draw : (drawOK (opsOf unL) 3 && effOK [0] (opsOf unL) 3 && Try.prog.follows .mixedOrders && Nat.ble 3 (opsOf unL).size) = true := by kernel_rfl
theorem un_all (c : Cd) : (mx0 tabU unC 2 12 c).allStop = true := by kernel_rfl
theorem un_leaves (c : Cd) : (mx0 tabU unC 2 12 c).stops.map (mxLeaf tabU [0] 1 3 unL formWW Try.f24.results.toList) = [1].map fun q => (unL, true, true, [], List.replicate q (okB c c.off c.len), some []) := by kernel_rfl
theorem drawUnion_ok {c : Cd} (hc : goodB c = true) : ∃ x, DrawOK Try.prog 24 c (formWW.val x) :=
  mix_draw tabU_sound tabU_sound hc Try.func24 rfl rfl unL_eq un_draw (un_all c) (un_leaves c)
theorem drawCompl_nd (c : Cd) : ((drawEx formW (tab12 7 38 [.sl false 0 c.off c.len 0] [codeB c false] [] fun v H nd => .ret v H nd)).map fun r => r.2) = some (List.replicate 28 (okB c c.off c.len)) := by kernel_rfl
theorem drawCompl_ok {c : Cd} (hc : goodB c = true) : ∃ x, DrawOK Try.prog 38 c (formW.val x) := drawOK_some (F := formW) (tab12_sound 7) hc (drawCompl_nd c)
theorem drawOpen_nd (c : Cd) : ((drawEx formW (tab12 7 40 [.sl false 0 c.off c.len 0] [codeB c false] [] fun v H nd => .ret v H nd)).map fun r => r.2) = some (List.replicate 28 (okB c c.off c.len)) := by kernel_rfl
theorem drawOpen_ok {c : Cd} (hc : goodB c = true) : ∃ x, DrawOK Try.prog 40 c (formW.val x) := drawOK_some (F := formW) (tab12_sound 7) hc (drawOpen_nd c)
end Go.Ax
