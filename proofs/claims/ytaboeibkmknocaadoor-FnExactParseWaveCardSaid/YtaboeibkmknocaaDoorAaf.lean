/- Ways of straight code joined into one state. -/
import Derived.Test.YtaboeibkmknocaaDoorAaa
import Derived.Test.YtaboeibkmknocaaDoorAad
import Derived.Test.YtaboeibkmknocaaDoorAae
import Derived.Test.YtaboeibkmknocaaDoorProg
import Derived.KernelRfl
import Derived.Shelf.Pu.SyntaxError
import Derived.Shelf.Pu.RangeError
import Derived.Shelf.Strings.Split
import Derived.Shelf.Strings.Cut
import Derived.Ground.MpProg
import Derived.Ground.NamesProg
namespace Go.Ax
open Go

/-! ### Values -/
def mergeA (b : Bool) (x y : AV) : AV :=
  match mergeV b x y with
  | some z => z
  | none => .any
theorem mergeA_left {σ : List (Nat × Nat)} {x y : AV} {v : Value} (r : Rel σ x v) : Rel σ (mergeA true x y) v := by
  unfold mergeA
  split
  · rename_i z hz; exact mergeV_left hz r
  · exact .any
theorem mergeA_right {σ : List (Nat × Nat)} {x y : AV} {v : Value} (r : Rel σ y v) : Rel σ (mergeA false x y) v := by
  unfold mergeA
  split
  · rename_i z hz; exact mergeV_right hz r
  · exact .any
def mergeAs (b : Bool) : List AV → List AV → List AV
  | x :: xs, y :: ys => mergeA b x y :: mergeAs b xs ys
  | _, _ => []
theorem mergeAs_len (b : Bool) : ∀ (xs ys : List AV), (mergeAs b xs ys).length ≤ xs.length ∧ (mergeAs b xs ys).length ≤ ys.length
  | [], _ => by simp [mergeAs]
  | _ :: _, [] => by simp [mergeAs]
  | x :: xs, y :: ys => by
    have := mergeAs_len b xs ys
    simp [mergeAs]; omega
theorem mergeAs_get (b : Bool) : ∀ (xs ys : List AV) (n : Nat), n < (mergeAs b xs ys).length → getL (mergeAs b xs ys) n = mergeA b (getL xs n) (getL ys n)
  | [], _, n, h => by simp [mergeAs] at h
  | _ :: _, [], n, h => by simp [mergeAs] at h
  | x :: xs, y :: ys, 0, _ => rfl
  | x :: xs, y :: ys, n + 1, h => by
    simp only [mergeAs, List.length_cons] at h
    exact mergeAs_get b xs ys n (by omega)
/-- The values that all ways of operations come to. -/
def joinD : Res → Option (List AV × List Bool)
  | .ret v _ nd => match v with
    | .tup vs => some (vs, nd)
    | _ => none
  | .ite b x y => match joinD x, joinD y with
    | some (vs, nd), some (vs', nd') => some (mergeAs b vs vs', guardL b nd ++ guardL (!b) nd')
    | some (vs, nd), none => some (vs, b :: nd)
    | none, some (vs, nd) => some (vs, (!b) :: nd)
    | none, none => none
  | .stop _ _ _ _ => none
  | .fail => none
theorem joinD_spec : ∀ {r : Res} {vs : List AV} {nd : List Bool}, joinD r = some (vs, nd) → allT nd = true →
    ∃ vs' H' nd', r.sel = .ret (.tup vs') H' nd' ∧ allT nd' = true ∧ vs.length ≤ vs'.length ∧ ∀ (n : Nat), n < vs.length → ∀ (σ : List (Nat × Nat)) (v : Value), Rel σ (getL vs' n) v → Rel σ (getL vs n) v
  | .ret v H0 nd0, vs, nd, h, hn => by
    simp only [joinD] at h
    split at h <;> cases h
    exact ⟨_, H0, _, rfl, hn, Nat.le_refl _, fun _ _ _ _ r => r⟩
  | .stop _ _ _ _, vs, nd, h, hn => by cases h
  | .fail, vs, nd, h, hn => by cases h
  | .ite b x y, vs, nd, h, hn => by
    simp only [joinD] at h
    split at h
    · rename_i v1 nd1 v2 nd2 h1 h2
      cases h
      rw [allT_append, Bool.and_eq_true] at hn
      have hl := mergeAs_len b v1 v2
      cases b with
      | true =>
        obtain ⟨vs', H', nd', e1, e2, e3, e4⟩ := joinD_spec h1 (guardL_true hn.1)
        exact ⟨vs', H', nd', e1, e2, by omega, fun n hlt σ v r => by rw [mergeAs_get _ _ _ _ hlt]; exact mergeA_left (e4 n (by omega) σ v r)⟩
      | false =>
        obtain ⟨vs', H', nd', e1, e2, e3, e4⟩ := joinD_spec h2 (guardL_true hn.2)
        exact ⟨vs', H', nd', e1, e2, by omega, fun n hlt σ v r => by rw [mergeAs_get _ _ _ _ hlt]; exact mergeA_right (e4 n (by omega) σ v r)⟩
    · rename_i v1 nd1 h1 h2
      cases h
      simp only [allT, Bool.and_eq_true] at hn
      obtain ⟨rfl, hn⟩ := hn
      exact joinD_spec (r := x) h1 hn
    · rename_i v1 nd1 h1 h2
      cases h
      simp only [allT, Bool.and_eq_true] at hn
      obtain ⟨hb, hn⟩ := hn
      have : b = false := by simpa using hb
      subst this
      exact joinD_spec (r := y) h2 hn
    · cases h

/-! ### Temporaries written -/
noncomputable def putDs : List Nat → List AV → Tm → Tm
  | d :: ds, v :: vs, t => putDs ds vs (st t d v)
  | [], _, t => t
  | _ :: _, [], t => t
def putDsL : List Nat → List AV → List AV → List AV
  | d :: ds, v :: vs, t => putDsL ds vs (setL t d v)
  | [], _, t => t
  | _ :: _, [], t => t
theorem putDs_R : ∀ (ds : List Nat) (vs : List AV) {τ : Tm} {t : List AV}, R τ t → R (putDs ds vs τ) (putDsL ds vs t)
  | [], _, _, _, h => h
  | _ :: _, [], _, _, h => h
  | d :: ds, v :: vs, _, _, h => putDs_R ds vs (h.set d v)
theorem putDsL_len : ∀ (ds : List Nat) (vs t : List AV), (putDsL ds vs t).length = t.length
  | [], _, _ => rfl
  | _ :: _, [], _ => rfl
  | d :: ds, v :: vs, t => by rw [putDsL, putDsL_len ds vs, setL_length]
theorem putDsL_out : ∀ (ds : List Nat) (vs t : List AV) (n : Nat), n ∉ ds → getL (putDsL ds vs t) n = getL t n
  | [], _, _, _, _ => rfl
  | _ :: _, [], _, _, _ => rfl
  | d :: ds, v :: vs, t, n, h => by
    simp only [List.mem_cons, not_or] at h
    rw [putDsL, putDsL_out ds vs _ n h.2, getL_setL_ne (Ne.symm h.1)]
theorem putDsL_in : ∀ (ds : List Nat) (vs t : List AV) (n : Nat), vs.length = ds.length → n ∈ ds → n < t.length → ∃ i, ds[i]? = some n ∧ getL (putDsL ds vs t) n = getL vs i
  | [], _, _, _, _, h, _ => by cases h
  | _ :: _, [], _, _, h, _, _ => by cases h
  | d :: ds, v :: vs, t, n, hl, h, ht => by
    by_cases hn : n ∈ ds
    · obtain ⟨i, h1, h2⟩ := putDsL_in ds vs (setL t d v) n (by simpa using hl) hn (by rw [setL_length]; exact ht)
      exact ⟨i + 1, by simpa using h1, h2⟩
    · have : n = d := by
        rcases List.mem_cons.1 h with h | h
        · exact h
        · exact absurd h hn
      subst this
      refine ⟨0, rfl, ?_⟩
      rw [putDsL, putDsL_out ds vs _ n hn, getL_setL_same ht]; rfl

/-! ### Memory -/
/-- G is H but for cells named in W. -/
def Pt (H G : List AB) (W : List (Nat × Nat)) : Prop := H.length = G.length ∧ ∀ i, (∃ C D, getB H i = .cells true C ∧ getB G i = .cells true D ∧ D.toL.length = C.toL.length ∧ ∀ j, (i, j) ∉ W → D.toL[j]? = C.toL[j]?) ∨ ((∀ C, getB H i ≠ .cells true C) ∧ getB G i = getB H i)
theorem Pt.refl (H : List AB) (W : List (Nat × Nat)) : Pt H H W := ⟨rfl, fun i => by
  by_cases h : ∃ C, getB H i = .cells true C
  · obtain ⟨C, h⟩ := h
    exact .inl ⟨C, C, h, h, rfl, fun _ _ => rfl⟩
  · exact .inr ⟨fun C hc => h ⟨C, hc⟩, rfl⟩⟩
theorem Pt.trans {H G K : List AB} {W V : List (Nat × Nat)} (h : Pt H G W) (k : Pt G K V) : Pt H K (W ++ V) := ⟨h.1.trans k.1, fun i => by
  rcases h.2 i with ⟨C, D, h1, h2, h3, h4⟩ | ⟨h1, h2⟩
  · rcases k.2 i with ⟨C', D', k1, k2, k3, k4⟩ | ⟨k1, k2⟩
    · rw [h2] at k1; cases k1
      refine .inl ⟨C, D', h1, k2, k3.trans h3, fun j hj => ?_⟩
      simp only [List.mem_append, not_or] at hj
      rw [k4 j hj.2, h4 j hj.1]
    · exact absurd h2 (k1 D)
  · rcases k.2 i with ⟨C', D', k1, k2, k3, k4⟩ | ⟨k1, k2⟩
    · rw [h2] at k1; exact absurd k1 (h1 C')
    · exact .inr ⟨h1, k2.trans h2⟩⟩
theorem Pt.mono {H G : List AB} {W V : List (Nat × Nat)} (h : Pt H G W) (hs : ∀ p ∈ W, p ∈ V) : Pt H G V := ⟨h.1, fun i => by
  rcases h.2 i with ⟨C, D, h1, h2, h3, h4⟩ | h
  · exact .inl ⟨C, D, h1, h2, h3, fun j hj => h4 j fun hw => hj (hs _ hw)⟩
  · exact .inr h⟩
theorem Pt.set {H : List AB} {id off : Nat} {A B : Cells} {v : AV} (hg : getB H id = .cells true A) (hs : A.set off v = some B) : Pt H (setB H id (.cells true B)) [(id, off)] := by
  have hlt : id < H.length := by
    rcases Nat.lt_or_ge id H.length with h | h
    · exact h
    · rw [getB_none h] at hg; cases hg
  refine ⟨(setB_length _ _ _).symm, fun i => ?_⟩
  by_cases hi : id = i
  · subst hi
    rw [getB_setB_same hlt]
    have hb := Cells.set_toL hs
    refine .inl ⟨A, B, hg, rfl, ?_, fun j hj => ?_⟩
    · rcases hb with h | h <;> rw [h, List.length_set]
    · have hne : off ≠ j := fun e => hj (by subst e; simp)
      rcases hb with h | h <;> rw [h, List.getElem?_set_ne hne]
  · rw [getB_setB_ne hi]
    by_cases h : ∃ C, getB H i = .cells true C
    · obtain ⟨C, h⟩ := h
      exact .inl ⟨C, C, h, h, rfl, fun _ _ => rfl⟩
    · exact .inr ⟨fun C hc => h ⟨C, hc⟩, rfl⟩

/-- The cells that were written on one way or the other, joined. -/
def mergeH (b : Bool) (Ha Hb : List AB) : List (Nat × Nat) → List AB → Option (List AB)
  | [], H => some H
  | (id, off) :: ws, H => match getB Ha id with
    | .cells true A => match getB Hb id with
      | .cells true B => match getB H id with
        | .cells true C => match mergeV b (A.get off) (B.get off) with
          | some z => match C.set off z with
            | some D => mergeH b Ha Hb ws (setB H id (.cells true D))
            | none => none
          | none => none
        | _ => none
      | _ => none
    | _ => none
/-- What a joined cell holds. -/
def Met (b : Bool) (Ha Hb G : List AB) (i j : Nat) : Prop := ∃ A B D z, getB Ha i = .cells true A ∧ getB Hb i = .cells true B ∧ getB G i = .cells true D ∧ mergeV b (A.get j) (B.get j) = some z ∧ (j < D.toL.length → D.toL[j]? = some z ∨ D.toL[j]? = some z.bare)
theorem mergeH_spec (b : Bool) (Ha Hb : List AB) : ∀ (ws : List (Nat × Nat)) (H G : List AB), mergeH b Ha Hb ws H = some G → Pt H G ws ∧ ∀ i j, (i, j) ∈ ws → Met b Ha Hb G i j
  | [], H, G, h => by
    cases h
    exact ⟨Pt.refl _ _, fun i j hj => by cases hj⟩
  | (id, off) :: ws, H, G, h => by
    simp only [mergeH] at h
    split at h <;> (try (cases h; done))
    rename_i A hA
    split at h <;> (try (cases h; done))
    rename_i B hB
    split at h <;> (try (cases h; done))
    rename_i C hC
    split at h <;> (try (cases h; done))
    rename_i z hz
    split at h <;> (try (cases h; done))
    rename_i D hD
    obtain ⟨p, m⟩ := mergeH_spec b Ha Hb ws _ G h
    have p0 := Pt.set hC hD
    have hlt : id < H.length := by
      rcases Nat.lt_or_ge id H.length with h | h
      · exact h
      · rw [getB_none h] at hC; cases hC
    refine ⟨p0.trans p, fun i j hj => ?_⟩
    by_cases hm : (i, j) ∈ ws
    · exact m i j hm
    · have e : (i, j) = (id, off) := by
        rcases List.mem_cons.1 hj with h | h
        · exact h
        · exact absurd h hm
      cases e
      rcases p.2 id with ⟨C', D', k1, k2, k3, k4⟩ | ⟨k1, k2⟩
      · rw [getB_setB_same hlt] at k1
        cases k1
        refine ⟨A, B, D', z, hA, hB, k2, hz, fun hl => ?_⟩
        rw [k4 off hm]
        rw [k3] at hl
        rcases Cells.set_toL hD with h | h
        · left; rw [h, List.length_set] at hl; rw [h, List.getElem?_set_self hl]
        · right; rw [h, List.length_set] at hl; rw [h, List.getElem?_set_self hl]
      · rw [getB_setB_same hlt] at k1
        exact absurd rfl (k1 D)
theorem mergeH_left {H Ha Hb G : List AB} {W : List (Nat × Nat)} (ha : Pt H Ha W) (h : mergeH true Ha Hb W H = some G) : HEq Ha G := by
  obtain ⟨p, m⟩ := mergeH_spec true Ha Hb W H G h
  refine ⟨ha.1.symm.trans p.1, fun i => ?_⟩
  rcases ha.2 i with ⟨C, A, a1, a2, a3, a4⟩ | ⟨a1, a2⟩
  · rcases p.2 i with ⟨C', D, p1, p2, p3, p4⟩ | ⟨p1, p2⟩
    · rw [a1] at p1; cases p1
      rw [a2, p2]
      refine ⟨rfl, rfl, fun σ z o hb => ?_⟩
      obtain ⟨c, e, fr, h1, h2, h3⟩ := hb
      refine ⟨c, e, fr, h1, fun j a hj => ?_, h3⟩
      by_cases hw : (i, j) ∈ W
      · obtain ⟨A', B', D', z', m1, m2, m3, m4, m5⟩ := m i j hw
        rw [a2] at m1; cases m1
        rw [p2] at m3; cases m3
        have hjl : j < D.toL.length := (List.getElem?_eq_some_iff.1 hj).1
        have hA : A.toL[j]? = some (A.get j) := Cells.get_some (by rw [← Cells.len_eq, a3, ← p3]; exact hjl)
        obtain ⟨v, hv, hr⟩ := h2 j _ hA
        have hr := mergeV_left m4 hr
        rcases m5 hjl with h | h <;> rw [h] at hj <;> cases hj
        · exact ⟨v, hv, hr⟩
        · exact ⟨v, hv, hr.bare⟩
      · rw [p4 j hw, ← a4 j hw] at hj
        exact h2 j a hj
    · exact absurd a1 (p1 C)
  · rcases p.2 i with ⟨C', D, p1, p2, p3, p4⟩ | ⟨p1, p2⟩
    · exact absurd p1 (a1 C')
    · rw [a2, p2]; exact ⟨rfl, rfl, fun _ _ _ h => h⟩
theorem mergeH_right {H Ha Hb G : List AB} {W : List (Nat × Nat)} (hb : Pt H Hb W) (h : mergeH false Ha Hb W H = some G) : HEq Hb G := by
  obtain ⟨p, m⟩ := mergeH_spec false Ha Hb W H G h
  refine ⟨hb.1.symm.trans p.1, fun i => ?_⟩
  rcases hb.2 i with ⟨C, A, a1, a2, a3, a4⟩ | ⟨a1, a2⟩
  · rcases p.2 i with ⟨C', D, p1, p2, p3, p4⟩ | ⟨p1, p2⟩
    · rw [a1] at p1; cases p1
      rw [a2, p2]
      refine ⟨rfl, rfl, fun σ z o hb => ?_⟩
      obtain ⟨c, e, fr, h1, h2, h3⟩ := hb
      refine ⟨c, e, fr, h1, fun j a hj => ?_, h3⟩
      by_cases hw : (i, j) ∈ W
      · obtain ⟨A', B', D', z', m1, m2, m3, m4, m5⟩ := m i j hw
        rw [a2] at m2; cases m2
        rw [p2] at m3; cases m3
        have hjl : j < D.toL.length := (List.getElem?_eq_some_iff.1 hj).1
        have hA : A.toL[j]? = some (A.get j) := Cells.get_some (by rw [← Cells.len_eq, a3, ← p3]; exact hjl)
        obtain ⟨v, hv, hr⟩ := h2 j _ hA
        have hr := mergeV_right m4 hr
        rcases m5 hjl with h | h <;> rw [h] at hj <;> cases hj
        · exact ⟨v, hv, hr⟩
        · exact ⟨v, hv, hr.bare⟩
      · rw [p4 j hw, ← a4 j hw] at hj
        exact h2 j a hj
    · exact absurd a1 (p1 C)
  · rcases p.2 i with ⟨C', D, p1, p2, p3, p4⟩ | ⟨p1, p2⟩
    · exact absurd p1 (a1 C')
    · rw [a2, p2]; exact ⟨rfl, rfl, fun _ _ _ h => h⟩
end Go.Ax

/- Regions and straight code: all ways joined. -/
namespace Go.Ax
open Go

structure JS where
  t : Tm
  H : List AB
  ds : List Nat
  ws : List (Nat × Nat)
  nd : List Bool
def dsts (l : List Oper) : List Nat := l.filterMap (·.dst)
theorem mem_dsts {l : List Oper} {o : Oper} {d : Nat} (ho : o ∈ l) (hd : o.dst = some d) : d ∈ dsts l := List.mem_filterMap.2 ⟨o, ho, hd⟩
/-- Operations that may come behind the first one that writes. -/
def tailOK (o : Oper) : Bool :=
  match o.guard with
  | some _ => false
  | none => match o.op with
    | .alloc _ => false
    | .box _ _ => false
    | .buildSlice _ _ _ => false
    | .makeSlice _ _ _ => false
    | .call c => match c.callee with
      | .builtin .append => false
      | .builtin _ => true
      | _ => false
    | _ => true

section
variable (P : Program) (T : Table)
noncomputable def tRun : List Oper → Tm → List AB → List Bool → Option (Tm × List AB × List (Nat × Nat) × List Bool)
  | [], t, H, nd => some (t, H, [], nd)
  | o :: rest, t, H, nd => match o.guard with
    | some _ => none
    | none => match o.op.operands.all okOpd with
      | false => none
      | true => match o.op with
        | .store ty a x => match evB t a with
          | .p l id off => match l && okCell (evB t x) with
            | true => match aStore P ty (.p true id off) (evB t x) H with
              | some (v, H', n) => match tRun rest (putB t o.dst v) H' (n ++ nd) with
                | some (t', H', ws, nd) => some (t', H', (id, off) :: ws, nd)
                | none => none
              | none => none
            | false => none
          | _ => none
        | op => match aop P op (evB t) H with
          | some (v, n) => tRun rest (putB t o.dst v) H (n ++ nd)
          | none => none
noncomputable def jReg (ops : Array Oper) (draw : Bool) : CF (Tm → List AB → Option JS) :=
  match cOpsQ P T ops (ops.toList.take (qM draw ops)) with
  | .mk f => .mk fun t H => match joinD (f t H [] fun t nd => .ret (.tup ((dsts (ops.toList.take (qM draw ops))).map (gt t))) [] nd) with
    | some (vs, nd) => match Nat.beq vs.length (dsts (ops.toList.take (qM draw ops))).length with
      | true => match tRun P (ops.toList.drop (qM draw ops)) (putDs (dsts (ops.toList.take (qM draw ops))) vs t) H nd with
        | some (t', H', ws, nd) => some ⟨t', H', dsts (ops.toList.take (qM draw ops)) ++ dsts (ops.toList.drop (qM draw ops)), ws, nd⟩
        | none => none
      | false => none
    | none => none
end

section
variable {P : Program} {T : Table} {ops : Array Oper}
theorem pt_store {ty : TypeId} {id off : Nat} {x v : AV} {H H' : List AB} {n : List Bool} (hx : okCell x = true) (h : aStore P ty (.p true id off) x H = some (v, H', n)) : Pt H H' [(id, off)] := by
  unfold aStore at h
  simp only [Bool.true_or] at h
  split at h <;> (try (cases h; done))
  rename_i A hg
  split at h <;> (try (cases h; done))
  split at h <;> (try (cases h; done))
  rename_i B hB
  split at h <;> (try (cases h; done))
  unfold consN at h
  split at h <;> cases h
  rw [okCell_cells hx] at hB
  exact Pt.set hg hB
theorem wants_none {o : Oper} {t : List AV} (hg : o.guard = none) : Wants ops o t true := fun σ tm _ => by simp [Region.wanted, hg]
theorem tRun_sound : ∀ (l : List Oper) (k : Nat) (τ : Tm) (t : List AV) (H : List AB) (nd : List Bool) {τ' : Tm} {H' : List AB} {ws : List (Nat × Nat)} {nd' : List Bool}, l = ops.toList.drop k → k ≤ ops.size → R τ t → tRun P l τ H nd = some (τ', H', ws, nd') →
    ∃ t', R τ' t' ∧ t'.length = t.length ∧ (∀ n, n ∉ dsts l → getL t' n = getL t n) ∧ Pt H H' ws ∧ (allT nd' = true → allT nd = true ∧ Chain P ops k t H ops.size t' H')
  | [], k, τ, t, H, nd, τ', H', ws, nd', hl, hk, hR, h => by
    have : ops.size ≤ k := by
      have := congrArg List.length hl
      simp at this; omega
    have : k = ops.size := by omega
    subst this
    simp only [tRun, Option.some.injEq, Prod.mk.injEq] at h
    obtain ⟨rfl, rfl, rfl, rfl⟩ := h
    exact ⟨t, hR, rfl, fun _ _ => rfl, Pt.refl _ _, fun h => ⟨h, .nil⟩⟩
  | o :: rest, k, τ, t, H, nd, τ', H', ws, nd', hl, hk, hR, h => by
    obtain ⟨ho, hrest⟩ := drop_cons hl
    have ho' : ops[k]? = some o := by simpa using ho
    have hks : k < ops.size := (Array.getElem?_eq_some_iff.1 ho').1
    rw [tRun] at h
    split at h <;> (try (cases h; done))
    rename_i hg
    split at h <;> (try (cases h; done))
    rename_i hok
    have shape : ∀ {v : AV} {t' : List AV}, (∀ n, n ∉ dsts rest → getL t' n = getL (putT t o.dst v) n) → ∀ n, n ∉ dsts (o :: rest) → getL t' n = getL t n := fun {v t'} hs n hn => by
      have h1 : n ∉ dsts rest := fun h => hn (by
        obtain ⟨x, hx, hd⟩ := List.mem_filterMap.1 h
        exact mem_dsts (List.mem_cons_of_mem _ hx) hd)
      have h2 : o.dst ≠ some n := fun h => hn (mem_dsts List.mem_cons_self h)
      rw [hs n h1, getL_putT_ne h2]
    split at h
    · rename_i ty a x hop
      split at h <;> (try (cases h; done))
      rename_i l id off ha
      split at h <;> (try (cases h; done))
      rename_i hlx
      rw [Bool.and_eq_true] at hlx
      obtain ⟨rfl, hx⟩ := hlx
      split at h <;> (try (cases h; done))
      rename_i v H1 n1 hst
      split at h <;> cases h
      rename_i τ2 H2 ws2 nd2 hr
      obtain ⟨t', r1, r2, r3, r4, r5⟩ := tRun_sound rest (k + 1) _ (putT t o.dst v) H1 (n1 ++ nd) hrest hks (hR.put o.dst v) hr
      refine ⟨t', r1, by rw [r2, putT_length], shape r3, (pt_store hx hst).trans r4, fun hn => ?_⟩
      obtain ⟨r6, r7⟩ := r5 hn
      rw [allT_append, Bool.and_eq_true] at r6
      refine ⟨r6.2, .cons ?_ r7⟩
      intro σ w a0 Q next s r q
      simp only [wpOp, ho', wants_none hg σ a0.tmps (relL_looks (ops := ops) r o), if_true]
      refine .inl ?_
      rw [hR.ev] at ha hst
      have he : eop P o.op (evA t) H = some (v, H1, n1) := by
        rw [hop]; show aStore P ty (evA t a) (evA t x) H = _
        rw [ha]; exact hst
      obtain ⟨rv, w', e1, σ', e2, e3, e4⟩ := eop_out (ρ := a0.eval) he r6.1 s (opds_ok hok r)
      show o.upon P a0 next Q ((execOp a0.eval o).run P w)
      rcases e1 with e1 | ⟨e1, rfl⟩
      · rw [e1]
        exact q _ _ σ' (RelL.put (RelL.mono e4.ext r) e2) (put_defers _ _ _) e3 e4
      · rw [e1]
        exact q _ _ σ' (RelL.put (RelL.mono e4.ext r) e2) (put_defers _ _ _) e3 e4
    · split at h <;> (try (cases h; done))
      rename_i v n1 hao
      obtain ⟨t', r1, r2, r3, r4, r5⟩ := tRun_sound rest (k + 1) _ (putT t o.dst v) H (n1 ++ nd) hrest hks (hR.put o.dst v) h
      refine ⟨t', r1, by rw [r2, putT_length], shape r3, r4, fun hn => ?_⟩
      obtain ⟨r6, r7⟩ := r5 hn
      rw [allT_append, Bool.and_eq_true] at r6
      refine ⟨r6.2, .cons ?_ r7⟩
      intro σ w a0 Q next s r q
      simp only [wpOp, ho', wants_none hg σ a0.tmps (relL_looks (ops := ops) r o), if_true]
      refine .inl ?_
      rw [hR.ev] at hao
      obtain ⟨rv, w', e1, e2, e3⟩ := aop_gives (ρ := a0.eval) hao r6.1 s (opds_ok hok r)
      show o.upon P a0 next Q ((execOp a0.eval o).run P w)
      rw [e1]
      exact q _ _ σ (r.put e2) (put_defers _ _ _) (e3.sim s) e3.fr
theorem QChain.toChain {k m j : Nat} {t t1 t' : List AV} {H H' : List AB} (c : QChain P ops H k t m t1) : Chain P ops m t1 H j t' H' → Chain P ops k t H j t' H' := by
  induction c with
  | nil => exact fun h => h
  | @cons k m t t1 v h c ih =>
    intro d
    refine .cons ?_ (ih d)
    obtain ⟨o, ho, hq⟩ := h
    intro σ w a Q next s r q
    refine hq σ w a Q next s (fun n _ => r.getD n) (by have := r.length; simpa using this.symm) fun rv w' hr s' f' => ?_
    have hgd : gDst ops k = o.dst := by simp [gDst, ho]
    exact q _ _ σ (by rw [hgd]; exact r.put hr) (put_defers _ _ _) s' f'
/-- A region out of its two parts. -/
theorem region_of {id : Nat} {draw : Bool} {t t1 t' : List AV} {H H' : List AB} (hd : draw = false ∨ (P.follows .mixedOrders && drawOK ops (qM draw ops)) = true) (qc : QChain P ops H 0 t (qM draw ops) t1) (c : Chain P ops (qM draw ops) t1 H ops.size t' H') : RegionOK P id ops draw t H t' H' := by
  intro σ w a Q s r q
  by_cases hdr : draw = false
  · subst hdr
    refine wp_region ?_
    have := (qc.toChain c).wpOps s r q
    rwa [Nat.sub_zero, ← List.range_eq_range'] at this
  · have hdt : draw = true := by simpa using hdr
    subst hdt
    rcases hd with hd | hd
    · cases hd
    rw [Bool.and_eq_true] at hd
    obtain ⟨hf, hok⟩ := hd
    have hm : qM true ops ≤ ops.size := qM_le true ops
    obtain ⟨val, _, hst, hv⟩ := qc.vals
    have c3 := c
    rw [hst, Nat.sub_zero] at c3
    refine wp_region_any hf ?_
    have hnl : ∀ i, ¬ Ls (Array.replicate ops.size false) i := fun i => by
      unfold Ls
      rw [Array.getD_eq_getD_getElem?]
      by_cases hi : i < ops.size
      · simp [hi]
      · simp [hi]
    have hsm : Same w { w with drawn := w.drawn + 1 } := Same.drew w
    refine any_pre hok hm (fun i hi => hv i (Nat.zero_le _) hi) c3 ops.size _ a _ (by simp) (fun i o _ hl => absurd hl (hnl i)) ?_ (fun i _ => hnl i) (hsm.sim s) ?_ (fun x => ⟨fun i _ hl => absurd hl (hnl i), fun _ => r.getD x⟩)
      fun a' w' σ' r' d' s' f' => q a' w' σ' r' d' s' (hsm.fr.trans f')
    · have := List.length_filter_le (fun i => !(Array.replicate ops.size false).getD i false) (List.range ops.size)
      simp only [List.length_range] at this
      exact this
    · have := r.length; simpa using this.symm
theorem RegionOK.weak {id : Nat} {draw : Bool} {t t1 t' : List AV} {H H' : List AB} (h : RegionOK P id ops draw t H t1 H') (e : Eqv t1 t') : RegionOK P id ops draw t H t' H' := fun σ w a Q s r q =>
  h σ w a Q s r fun a' w' σ' r' => q a' w' σ' (e.relL r')
theorem getL_map_gt {τ : Tm} {t : List AV} (h : R τ t) (ds : List Nat) : ds.map (gt τ) = ds.map (getL t) := List.map_congr_left fun n _ => h.get n
theorem jReg_sound (hT : SoundT P T) {id : Nat} {draw : Bool} (hd : draw = false ∨ (P.follows .mixedOrders && drawOK ops (qM draw ops)) = true) {τ : Tm} {t : List AV} {H : List AB} {s : JS} (h : R τ t) (e : (jReg P T ops draw).app τ H = some s) :
    ∃ t', R s.t t' ∧ t'.length = t.length ∧ (∀ n, n ∉ s.ds → getL t' n = getL t n) ∧ Pt H s.H s.ws ∧ (allT s.nd = true → RegionOK P id ops draw t H t' s.H) := by
  unfold jReg at e
  have hq := cOpsQ_eq (P := P) (T := T) ops (ops.toList.take (qM draw ops))
  cases hf : cOpsQ P T ops (ops.toList.take (qM draw ops)) with
  | mk f =>
    rw [hf] at e hq
    dsimp only [CF.app] at e hq
    generalize hm : qM draw ops = m at *
    have hms : m ≤ ops.size := by have := qM_le draw ops; rw [hm] at this; exact this
    split at e <;> (try (cases e; done))
    rename_i vs nd hj
    split at e <;> (try (cases e; done))
    rename_i hlen
    have hlen := Nat.eq_of_beq_eq_true hlen
    split at e <;> cases e
    rename_i τ2 H2 ws nd2 hr
    generalize hds : dsts (ops.toList.take m) = ds at *
    obtain ⟨t', r1, r2, r3, r4, r5⟩ := tRun_sound (P := P) (ops := ops) (ops.toList.drop m) m _ (putDsL ds vs t) H nd rfl hms (putDs_R ds vs h) hr
    refine ⟨t', r1, by rw [r2, putDsL_len], fun n hn => ?_, r4, fun hnd => ?_⟩
    · simp only [List.mem_append, not_or] at hn
      rw [r3 n hn.2, putDsL_out _ _ _ _ hn.1]
    · obtain ⟨hnd1, c⟩ := r5 hnd
      obtain ⟨vs', H', nd', e1, e2, e3, e4⟩ := joinD_spec hj hnd1
      rw [hq, bRunQ_eq (K' := fun t nd => .ret (.tup (ds.map (getL t))) [] nd) (fun τ t nd hR => by rw [getL_map_gt hR]) _ _ t H [] h] at e1
      rcases runQ_sound (P := P) (H := H) hT (fun t nd => .ret (.tup (ds.map (getL t))) [] nd) hms (ops.toList.take m) 0 t [] (by simp) (Nat.zero_le _) with hfail | ⟨t0, nd0, h1, h2⟩
      · rw [hfail] at e1; cases e1
      rw [h1] at e1
      cases e1
      obtain ⟨_, t'', qc, eq1⟩ := h2 e2
      have hlen2 : t''.length = t.length := by
        obtain ⟨val, _, hst, _⟩ := qc.vals
        rw [hst, stAt_length]
      have hout : ∀ n, n ∉ ds → getL t'' n = getL t n := fun n hn => by
        obtain ⟨val, _, hst, _⟩ := qc.vals
        rw [hst]
        refine stAt_untouched ops val _ 0 t fun i _ hi hg => hn ?_
        rw [← hds]
        unfold gDst at hg
        cases ho : ops[i]? with
        | none => rw [ho] at hg; cases hg
        | some o =>
          rw [ho] at hg
          refine mem_dsts (o := o) ?_ hg
          rw [List.mem_take_iff_getElem]
          have hi' : i < m := by omega
          refine ⟨i, by simp; omega, ?_⟩
          have := (Array.getElem?_eq_some_iff.1 ho).2
          simpa using this
      have hE : Eqv t'' (putDsL ds vs t) := by
        refine ⟨by rw [putDsL_len, hlen2], fun σ n v hr => ?_⟩
        by_cases hn : n ∈ ds
        · rcases Nat.lt_or_ge n t.length with hlt | hge
          · obtain ⟨i, hi, hgi⟩ := putDsL_in ds vs t n hlen hn hlt
            rw [hgi]
            have hil : i < ds.length := (List.getElem?_eq_some_iff.1 hi).1
            refine e4 i (by omega) σ v ?_
            have hgm : getL (ds.map (getL t0)) i = getL t0 n := by
              rw [getL_eq, List.getD_eq_getElem?_getD, List.getElem?_map, hi]; rfl
            rw [hgm]
            exact eq1.2 σ n v hr
          · rw [getL_none (by rw [hlen2]; exact hge)] at hr
            rw [getL_none (by rw [putDsL_len]; exact hge)]; exact hr
        · rw [putDsL_out _ _ _ _ hn, ← hout n hn]; exact hr
      obtain ⟨t3, c3, e3'⟩ := c.conv hE
      subst hm
      exact (region_of hd qc c3).weak e3'
end

/-! ### Straight code -/
def strR (P : Program) (ops : Array Oper) (draw : Bool) : Bool := (ops.toList.drop (qM draw ops)).all tailOK && (!draw || (P.follows .mixedOrders && drawOK ops (qM draw ops)))
/-- Code that falls through. -/
def strC (P : Program) : Nat → Code → Bool
  | 0, _ => false
  | n + 1, c => match c with
    | .skip => true
    | .seq a b => strC P n a && strC P n b
    | .block _ c => strC P n c
    | .region _ ops draw => strR P ops draw
    | .cond _ a b => strC P n a && strC P n b
    | _ => false
section
variable (P : Program) (T : Table)
noncomputable def mergeDs (b : Bool) (ta tb : Tm) : List Nat → List AV
  | [] => []
  | d :: ds => mergeA b (gt ta d) (gt tb d) :: mergeDs b ta tb ds
noncomputable def jJoin (x : Bool) (t : Tm) (H : List AB) : Option JS → Option JS → Option JS
  | some ⟨t1, H1, ds1, ws1, nd1⟩, some ⟨t2, H2, ds2, ws2, nd2⟩ => match mergeH x H1 H2 (ws1 ++ ws2) H with
    | some H' => some ⟨putDs (ds1 ++ ds2) (mergeDs x t1 t2 (ds1 ++ ds2)) t, H', ds1 ++ ds2, ws1 ++ ws2, guardL x nd1 ++ guardL (!x) nd2⟩
    | none => none
  | some ⟨t1, H1, ds1, ws1, nd1⟩, none => some ⟨t1, H1, ds1, ws1, x :: nd1⟩
  | none, some ⟨t2, H2, ds2, ws2, nd2⟩ => some ⟨t2, H2, ds2, ws2, (!x) :: nd2⟩
  | none, none => none
noncomputable def jC : Nat → Code → CF (Tm → List AB → Option JS)
  | 0, _ => .mk fun _ _ => none
  | n + 1, c => match c with
    | .skip => .mk fun t H => some ⟨t, H, [], [], []⟩
    | .seq a b => match jC n a, jC n b with
      | .mk f, .mk g => .mk fun t H => match f t H with
        | some ⟨t1, H1, ds1, ws1, nd1⟩ => match g t1 H1 with
          | some ⟨t2, H2, ds2, ws2, nd2⟩ => some ⟨t2, H2, ds1 ++ ds2, ws1 ++ ws2, nd2 ++ nd1⟩
          | none => none
        | none => none
    | .block _ c => jC n c
    | .region _ ops draw => match strR P ops draw with
      | true => jReg P T ops draw
      | false => .mk fun _ _ => none
    | .cond c a b => match okOpd c, cOpd c, jC n a, jC n b with
      | false, _, _, _ => .mk fun _ _ => none
      | true, .mk q, .mk f, .mk g => .mk fun t H => match q t with
        | .b l x => match l with
          | true => match x with
            | true => f t H
            | false => g t H
          | false => jJoin x t H (f t H) (g t H)
        | _ => none
    | _ => .mk fun _ _ => none
end
section
variable {P : Program} {T : Table}
def JOK (P : Program) (c : Code) (t : List AV) (H : List AB) (s : JS) : Prop := ∃ t', R s.t t' ∧ t'.length = t.length ∧ (∀ n, n ∉ s.ds → getL t' n = getL t n) ∧ Pt H s.H s.ws ∧ (allT s.nd = true → ∀ k, Reach P (.code c :: k) t H k t' s.H)
theorem mergeDs_len (b : Bool) (ta tb : Tm) : ∀ ds, (mergeDs b ta tb ds).length = ds.length
  | [] => rfl
  | d :: ds => by simp [mergeDs, mergeDs_len b ta tb ds]
theorem mergeDs_get (b : Bool) (ta tb : Tm) : ∀ (ds : List Nat) (i n : Nat), ds[i]? = some n → getL (mergeDs b ta tb ds) i = mergeA b (gt ta n) (gt tb n)
  | [], i, n, h => by simp at h
  | d :: ds, 0, n, h => by simp at h; subst h; rfl
  | d :: ds, i + 1, n, h => by simp at h; exact mergeDs_get b ta tb ds i n h
theorem join_eqv {x : Bool} {τ1 τ2 : Tm} {t t1 t2 : List AV} {ds : List Nat} (h1 : R τ1 t1) (h2 : R τ2 t2) (l1 : t1.length = t.length) (l2 : t2.length = t.length) (o1 : ∀ n, n ∉ ds → getL t1 n = getL t n) (o2 : ∀ n, n ∉ ds → getL t2 n = getL t n) :
    Eqv (if x then t1 else t2) (putDsL ds (mergeDs x τ1 τ2 ds) t) := by
  refine ⟨by cases x <;> simp [putDsL_len, l1, l2], fun σ n v r => ?_⟩
  by_cases hn : n ∈ ds
  · rcases Nat.lt_or_ge n t.length with hlt | hge
    · obtain ⟨i, hi, hgi⟩ := putDsL_in ds (mergeDs x τ1 τ2 ds) t n (mergeDs_len _ _ _ _) hn hlt
      rw [hgi, mergeDs_get _ _ _ _ _ _ hi, h1.get, h2.get]
      cases x with
      | true => exact mergeA_left r
      | false => exact mergeA_right r
    · rw [getL_none (by rw [putDsL_len]; exact hge)]
      rw [getL_none (by cases x <;> simp [l1, l2, hge])] at r
      exact r
  · rw [putDsL_out _ _ _ _ hn]
    cases x with
    | true => simp only [if_true] at r; rw [← o1 n hn]; exact r
    | false => simp only [Bool.false_eq_true, if_false] at r; rw [← o2 n hn]; exact r
theorem jJoin_sound {c : Operand} {a b : Code} {x : Bool} {τ : Tm} {t : List AV} {H : List AB} {l : Bool} {ra rb : Option JS} {s : JS} (hR : R τ t) (hok : okOpd c = true) (hv : evA t c = .b l x) (ha : ∀ s, ra = some s → JOK P a t H s) (hb : ∀ s, rb = some s → JOK P b t H s) (e : jJoin x τ H ra rb = some s) : JOK P (.cond c a b) t H s := by
  have hc := fun k => cond_reach (P := P) (x := a) (y := b) (k := k) (H := H) hok hv
  unfold jJoin at e
  split at e
  · rename_i t1 H1 ds1 ws1 nd1 t2 H2 ds2 ws2 nd2
    split at e <;> cases e
    rename_i H' hm
    obtain ⟨u1, a1, a2, a3, a4, a5⟩ := ha _ rfl
    obtain ⟨u2, b1, b2, b3, b4, b5⟩ := hb _ rfl
    dsimp only at a1 a3 a4 a5 b1 b3 b4 b5
    have o1 : ∀ n, n ∉ ds1 ++ ds2 → getL u1 n = getL t n := fun n hn => a3 n fun h => hn (List.mem_append_left _ h)
    have o2 : ∀ n, n ∉ ds1 ++ ds2 → getL u2 n = getL t n := fun n hn => b3 n fun h => hn (List.mem_append_right _ h)
    refine ⟨putDsL (ds1 ++ ds2) (mergeDs x t1 t2 (ds1 ++ ds2)) t, putDs_R _ _ hR, putDsL_len _ _ _, fun n hn => putDsL_out _ _ _ _ hn, (mergeH_spec _ _ _ _ _ _ hm).1, fun hn k => ?_⟩
    dsimp only at hn ⊢
    rw [allT_append, Bool.and_eq_true] at hn
    have he := join_eqv (x := x) a1 b1 a2 b2 o1 o2
    cases x with
    | true =>
      have := (hc k).trans (a5 (guardL_true hn.1) k)
      exact (this.weak he).post (mergeH_left (a4.mono fun p hp => List.mem_append_left _ hp) hm)
    | false =>
      have := (hc k).trans (b5 (guardL_true hn.2) k)
      exact (this.weak he).post (mergeH_right (b4.mono fun p hp => List.mem_append_right _ hp) hm)
  · rename_i t1 H1 ds1 ws1 nd1
    cases e
    obtain ⟨u1, a1, a2, a3, a4, a5⟩ := ha _ rfl
    refine ⟨u1, a1, a2, a3, a4, fun hn k => ?_⟩
    dsimp only at hn
    simp only [allT, Bool.and_eq_true] at hn
    obtain ⟨rfl, hn⟩ := hn
    exact (hc k).trans (a5 hn k)
  · rename_i t2 H2 ds2 ws2 nd2
    cases e
    obtain ⟨u1, a1, a2, a3, a4, a5⟩ := hb _ rfl
    refine ⟨u1, a1, a2, a3, a4, fun hn k => ?_⟩
    dsimp only at hn
    simp only [allT, Bool.and_eq_true] at hn
    obtain ⟨hx, hn⟩ := hn
    have : x = false := by simpa using hx
    subst this
    exact (hc k).trans (a5 hn k)
  · cases e
theorem jC_sound (hT : SoundT P T) : ∀ (n : Nat) (c : Code) (τ : Tm) (t : List AV) (H : List AB) (s : JS), R τ t → (jC P T n c).app τ H = some s → JOK P c t H s
  | 0, _, _, _, _, _, _, e => by cases e
  | n + 1, c, τ, t, H, s, hR, e => by
    unfold jC at e
    split at e
    · cases e
      exact ⟨t, hR, rfl, fun _ _ => rfl, Pt.refl _ _, fun _ k => (Reach.refl k t H).head fun _ _ _ _ => step_skip⟩
    · rename_i a b
      have ia := jC_sound hT n a
      have ib := jC_sound hT n b
      cases hf : jC P T n a with
      | mk f => cases hg : jC P T n b with
        | mk g =>
          rw [hf] at e ia; rw [hg] at e ib
          dsimp only [CF.app] at e ia ib
          split at e <;> (try (cases e; done))
          rename_i t1 H1 ds1 ws1 nd1 h1
          split at e <;> cases e
          rename_i t2 H2 ds2 ws2 nd2 h2
          obtain ⟨u1, a1, a2, a3, a4, a5⟩ := ia _ _ _ _ hR h1
          obtain ⟨u2, b1, b2, b3, b4, b5⟩ := ib _ _ _ _ a1 h2
          refine ⟨u2, b1, b2.trans a2, fun m hm => ?_, a4.trans b4, fun hn k => ?_⟩
          · simp only [List.mem_append, not_or] at hm
            rw [b3 m hm.2, a3 m hm.1]
          · dsimp only at hn
            rw [allT_append, Bool.and_eq_true] at hn
            exact ((a5 hn.2 (.code b :: k)).trans (b5 hn.1 k)).head fun _ _ _ _ => step_seq
    · rename_i id c
      obtain ⟨u1, a1, a2, a3, a4, a5⟩ := jC_sound hT n c τ t H s hR e
      refine ⟨u1, a1, a2, a3, a4, fun hn k => ?_⟩
      have h1 := a5 hn (.inBlock id :: k)
      have h2 : Reach P (.inBlock id :: k) u1 s.H k u1 s.H := (Reach.refl k u1 s.H).head fun _ _ _ _ => step_inBlock
      exact (h1.trans h2).head fun _ _ _ _ => step_block
    · rename_i id ops draw
      split at e
      case h_2 => cases e
      rename_i hs
      unfold strR at hs
      rw [Bool.and_eq_true] at hs
      have hd : draw = false ∨ (P.follows .mixedOrders && drawOK ops (qM draw ops)) = true := by
        cases draw with
        | false => exact .inl rfl
        | true => exact .inr (by simpa using hs.2)
      obtain ⟨u1, a1, a2, a3, a4, a5⟩ := jReg_sound (id := id) hT hd hR e
      exact ⟨u1, a1, a2, a3, a4, fun hn k => region_reach (a5 hn)⟩
    · rename_i c a b
      have ia := jC_sound hT n a
      have ib := jC_sound hT n b
      have hO := cOpd_eq c τ
      rw [hR.ev] at hO
      cases hok : okOpd c with
      | false => rw [hok] at e; cases e
      | true =>
        cases hq : cOpd c with
        | mk q => cases hf : jC P T n a with
          | mk f => cases hg : jC P T n b with
            | mk g =>
              rw [hok, hq, hf, hg] at e
              rw [hq] at hO; rw [hf] at ia; rw [hg] at ib
              dsimp only [CF.app] at e ia ib hO
              rw [hO] at e
              split at e <;> (try (cases e; done))
              rename_i l x hv
              have one : ∀ (z : Code), z = (if x then a else b) → JOK P z t H s → JOK P (.cond c a b) t H s := fun z hz h => by
                obtain ⟨u1, a1, a2, a3, a4, a5⟩ := h
                refine ⟨u1, a1, a2, a3, a4, fun hn k => ?_⟩
                have := cond_reach (P := P) (x := a) (y := b) (k := k) (H := H) hok hv
                rw [← hz] at this
                exact this.trans (a5 hn k)
              split at e
              · split at e
                · exact one a rfl (ia _ _ _ _ hR e)
                · exact one b rfl (ib _ _ _ _ hR e)
              · exact jJoin_sound hR hok hv (fun s h => ia _ _ _ _ hR h) (fun s h => ib _ _ _ _ hR h) e
    · cases e
end
end Go.Ax

/- Code run, straight parts joined. -/
namespace Go.Ax
open Go

def hasG (ops : Array Oper) : Bool := ops.toList.any fun o => o.guard.isSome
section
variable (P : Program) (T : Table) (stop : List Item → Bool)
noncomputable def tryReg (ops : Array Oper) (draw : Bool) (t : Tm) (H : List AB) : Option JS :=
  match hasG ops && strR P ops draw with
  | true => (jReg P T ops draw).app t H
  | false => none
noncomputable def tryCond (c : Operand) (a b : Code) (t : Tm) (H : List AB) : Option JS :=
  match strC P 50 (.cond c a b) with
  | true => (jC P T 50 (.cond c a b)).app t H
  | false => none
/-- Like 'cRun'. -/
noncomputable def jRun : Nat → List Item → Tm → List AB → List Bool → KB → (List Item → KB) → Res
  | 0, _, _, _, _, _, _ => .fail
  | n + 1, todo, t, H, nd, KE, KS =>
    match cNext stop 100 todo with
    | .done => KE t H nd
    | .stop k => KS k t H nd
    | .region _ ops draw k => match tryReg P T ops draw t H with
      | some ⟨t', H', _, _, nd'⟩ => match stop k with
        | true => KS k t' H' (nd' ++ nd)
        | false => jRun n k t' H' (nd' ++ nd) KE KS
      | none => match cRegion P T ops draw, stop k with
        | .mk f, true => f t H nd (KS k)
        | .mk f, false => f t H nd fun t H nd => jRun n k t H nd KE KS
    | .cond c a b k => match tryCond P T c a b t H with
      | some ⟨t', H', _, _, nd'⟩ => match stop k with
        | true => KS k t' H' (nd' ++ nd)
        | false => jRun n k t' H' (nd' ++ nd) KE KS
      | none => match okOpd c, cOpd c, stop (.code a :: k), stop (.code b :: k) with
        | true, .mk f, sa, sb => match f t with
          | .b l x => match l with
            | true => match x with
              | true => match sa with
                | true => KS (.code a :: k) t H nd
                | false => jRun n (.code a :: k) t H nd KE KS
              | false => match sb with
                | true => KS (.code b :: k) t H nd
                | false => jRun n (.code b :: k) t H nd KE KS
            | false => .ite x
              (match sa with
                | true => KS (.code a :: k) t H nd
                | false => jRun n (.code a :: k) t H nd KE KS)
              (match sb with
                | true => KS (.code b :: k) t H nd
                | false => jRun n (.code b :: k) t H nd KE KS)
          | _ => .fail
        | false, _, _, _ => .fail
    | .fail => .fail
end
section
variable {P : Program} {T : Table}
theorem jRun_sound {stop : List Item → Bool} (hT : SoundT P T) (KE : KB) (KS : List Item → KB) : ∀ (n : Nat) (todo : List Item) (τ : Tm) (t : List AV) (H : List AB) (nd : List Bool), R τ t → (jRun P T stop n todo τ H nd KE KS).sel = .fail ∨
    (∃ t' H' nd', (jRun P T stop n todo τ H nd KE KS).sel = (KE (ofL t') H' nd').sel ∧ (allT nd' = true → allT nd = true ∧ Ends P todo t H t' H')) ∨
    (∃ todo' t' H' nd', (jRun P T stop n todo τ H nd KE KS).sel = (KS todo' (ofL t') H' nd').sel ∧ (allT nd' = true → allT nd = true ∧ Reach P todo t H todo' t' H'))
  | 0, _, _, _, _, _, _ => .inl rfl
  | n + 1, todo, τ, t, H, nd, h => by
    have hN := cNext_ok (P := P) stop t H 100 todo
    have goon : ∀ (k : List Item) (τ1 : Tm) (t1 : List AV) (H1 : List AB) (nd1 : List Bool), R τ1 t1 →
        ((match stop k with
          | true => KS k τ1 H1 nd1
          | false => jRun P T stop n k τ1 H1 nd1 KE KS).sel = .fail ∨
        (∃ t' H' nd', (match stop k with
          | true => KS k τ1 H1 nd1
          | false => jRun P T stop n k τ1 H1 nd1 KE KS).sel = (KE (ofL t') H' nd').sel ∧ (allT nd' = true → allT nd1 = true ∧ Ends P k t1 H1 t' H')) ∨
        (∃ todo' t' H' nd', (match stop k with
          | true => KS k τ1 H1 nd1
          | false => jRun P T stop n k τ1 H1 nd1 KE KS).sel = (KS todo' (ofL t') H' nd').sel ∧ (allT nd' = true → allT nd1 = true ∧ Reach P k t1 H1 todo' t' H'))) := fun k τ1 t1 H1 nd1 h1 => by
      cases stop k with
      | true => exact .inr (.inr ⟨k, t1, H1, nd1, by rw [h1.uniq], fun hn => ⟨hn, .refl _ _ _⟩⟩)
      | false => exact jRun_sound hT KE KS n k τ1 t1 H1 nd1 h1
    have joined : ∀ (k : List Item) (s : JS) (c : Code), Reach P todo t H (.code c :: k) t H → JOK P c t H s →
        ((match stop k with
          | true => KS k s.t s.H (s.nd ++ nd)
          | false => jRun P T stop n k s.t s.H (s.nd ++ nd) KE KS).sel = .fail ∨
        (∃ t' H' nd', (match stop k with
          | true => KS k s.t s.H (s.nd ++ nd)
          | false => jRun P T stop n k s.t s.H (s.nd ++ nd) KE KS).sel = (KE (ofL t') H' nd').sel ∧ (allT nd' = true → allT nd = true ∧ Ends P todo t H t' H')) ∨
        (∃ todo' t' H' nd', (match stop k with
          | true => KS k s.t s.H (s.nd ++ nd)
          | false => jRun P T stop n k s.t s.H (s.nd ++ nd) KE KS).sel = (KS todo' (ofL t') H' nd').sel ∧ (allT nd' = true → allT nd = true ∧ Reach P todo t H todo' t' H'))) := fun k s c hto hj => by
      obtain ⟨u, a1, _, _, _, a5⟩ := hj
      rcases goon k s.t u s.H (s.nd ++ nd) a1 with h3 | ⟨t', H', nd', h3, h4⟩ | ⟨todo', t', H', nd', h3, h4⟩
      · exact .inl h3
      · refine .inr (.inl ⟨t', H', nd', h3, fun hn => ?_⟩)
        obtain ⟨h5, h6⟩ := h4 hn
        rw [allT_append, Bool.and_eq_true] at h5
        exact ⟨h5.2, (hto.trans (a5 h5.1 k)).ends h6⟩
      · refine .inr (.inr ⟨todo', t', H', nd', h3, fun hn => ?_⟩)
        obtain ⟨h5, h6⟩ := h4 hn
        rw [allT_append, Bool.and_eq_true] at h5
        exact ⟨h5.2, (hto.trans (a5 h5.1 k)).trans h6⟩
    unfold jRun
    cases hc : cNext stop 100 todo with
    | done =>
      rw [hc] at hN
      exact .inr (.inl ⟨t, H, nd, by rw [h.uniq], fun hn => ⟨hn, hN⟩⟩)
    | stop k =>
      rw [hc] at hN
      exact .inr (.inr ⟨k, t, H, nd, by rw [h.uniq], fun hn => ⟨hn, hN⟩⟩)
    | fail => exact .inl rfl
    | region id ops draw k =>
      rw [hc] at hN
      have hN : Reach P todo t H (.code (.region id ops draw) :: k) t H := hN
      dsimp only
      cases hs : tryReg P T ops draw τ H with
      | some s =>
        refine joined k s _ hN ?_
        unfold tryReg at hs
        split at hs
        case h_2 => cases hs
        rename_i hst
        rw [Bool.and_eq_true] at hst
        have hst := hst.2
        unfold strR at hst
        rw [Bool.and_eq_true] at hst
        have hd : draw = false ∨ (P.follows .mixedOrders && drawOK ops (qM draw ops)) = true := by
          cases draw with
          | false => exact .inl rfl
          | true => exact .inr (by simpa using hst.2)
        obtain ⟨u1, a1, a2, a3, a4, a5⟩ := jReg_sound (id := id) hT hd h hs
        exact ⟨u1, a1, a2, a3, a4, fun hn k => region_reach (a5 hn)⟩
      | none =>
      dsimp only
      have hR := fun K => cRegion_sound hT id ops draw k h H nd K
      cases hf : cRegion P T ops draw with
      | mk f =>
        rw [hf] at hR
        dsimp only [CF.app] at hR
        cases hs : stop k with
        | true =>
          dsimp only
          rcases hR (KS k) with h1 | ⟨t1, H1, nd1, h1, h2⟩
          · exact .inl h1
          · exact .inr (.inr ⟨k, t1, H1, nd1, h1, fun hn => ⟨(h2 hn).1, hN.trans (h2 hn).2⟩⟩)
        | false =>
          dsimp only
          rcases hR (fun t H nd => jRun P T stop n k t H nd KE KS) with h1 | ⟨t1, H1, nd1, h1, h2⟩
          · exact .inl h1
          rw [h1]
          have := goon k (ofL t1) t1 H1 nd1 (ofL_R t1)
          rw [hs] at this
          rcases this with h3 | ⟨t', H', nd', h3, h4⟩ | ⟨todo', t', H', nd', h3, h4⟩
          · exact .inl h3
          · refine .inr (.inl ⟨t', H', nd', h3, fun hn => ?_⟩)
            obtain ⟨h5, h6⟩ := h4 hn
            exact ⟨(h2 h5).1, (hN.trans (h2 h5).2).ends h6⟩
          · refine .inr (.inr ⟨todo', t', H', nd', h3, fun hn => ?_⟩)
            obtain ⟨h5, h6⟩ := h4 hn
            exact ⟨(h2 h5).1, (hN.trans (h2 h5).2).trans h6⟩
    | cond c a b k =>
      rw [hc] at hN
      have hN : Reach P todo t H (.code (.cond c a b) :: k) t H := hN
      dsimp only
      cases hs : tryCond P T c a b τ H with
      | some s =>
        refine joined k s _ hN ?_
        unfold tryCond at hs
        split at hs
        case h_2 => cases hs
        exact jC_sound hT 50 _ _ _ _ _ h hs
      | none =>
      dsimp only
      have hO := cOpd_eq c τ
      rw [h.ev] at hO
      cases hok : okOpd c with
      | false => exact .inl rfl
      | true =>
        cases hf : cOpd c with
        | mk f =>
          rw [hf] at hO
          dsimp only [CF.app] at hO ⊢
          rw [hO]
          cases hv : evA t c
          case b l v =>
            have two : ∀ z : Code, z = (if v then a else b) →
                ((match stop (.code z :: k) with
                  | true => KS (.code z :: k) τ H nd
                  | false => jRun P T stop n (.code z :: k) τ H nd KE KS).sel = .fail ∨
                (∃ t' H' nd', (match stop (.code z :: k) with
                  | true => KS (.code z :: k) τ H nd
                  | false => jRun P T stop n (.code z :: k) τ H nd KE KS).sel = (KE (ofL t') H' nd').sel ∧ (allT nd' = true → allT nd = true ∧ Ends P todo t H t' H')) ∨
                (∃ todo' t' H' nd', (match stop (.code z :: k) with
                  | true => KS (.code z :: k) τ H nd
                  | false => jRun P T stop n (.code z :: k) τ H nd KE KS).sel = (KS todo' (ofL t') H' nd').sel ∧ (allT nd' = true → allT nd = true ∧ Reach P todo t H todo' t' H'))) := fun z hz => by
              have hcr := hN.trans (cond_reach (P := P) (x := a) (y := b) (k := k) (H := H) hok hv)
              rw [← hz] at hcr
              rcases goon (.code z :: k) τ t H nd h with h3 | ⟨t', H', nd', h3, h4⟩ | ⟨todo', t', H', nd', h3, h4⟩
              · exact .inl h3
              · exact .inr (.inl ⟨t', H', nd', h3, fun hn => ⟨(h4 hn).1, hcr.ends (h4 hn).2⟩⟩)
              · exact .inr (.inr ⟨todo', t', H', nd', h3, fun hn => ⟨(h4 hn).1, hcr.trans (h4 hn).2⟩⟩)
            cases l with
            | true => cases v with
              | true => exact two _ rfl
              | false => exact two _ rfl
            | false => cases v with
              | true => exact two _ rfl
              | false => exact two _ rfl
          all_goals exact .inl rfl
end

/-! ### Calls -/
section
variable (P : Program)
noncomputable def jFun (T : Table) (n : Nat) (f : FuncId) : CF (List AV → List AB → List Bool → KF → Res) :=
  match P.funcs[f]? with
  | some fn => match fn.body with
    | some c => .mk fun args H nd K => match Nat.ble args.length fn.ntmps with
      | true => jRun P T (fun _ => false) n [.code c] (stAll (mkT fn.ntmps fn.ntmps) 0 args) H nd (retB P fn K) (fun _ _ _ _ => .fail)
      | false => .fail
    | none => .mk fun _ _ _ _ => .fail
  | none => .mk fun _ _ _ _ => .fail
/-- Like 'cdeep'. -/
noncomputable def jdeep (l : List (FuncId × Table)) (inl : List FuncId) (n : Nat) : Nat → CTab
  | 0 => fun _ => .mk fun _ _ _ _ => .fail
  | d + 1 => fun f => match lookC l f with
    | some T => .mk (T f)
    | none => match jFun P (tabOf (jdeep l inl n d)) n f with
      | .mk F => match inl.any (Nat.beq f) with
        | true => .mk F
        | false => .mk fun args H nd K => match joinR H.length (F args (roH H) [] fun v H' nd' => .ret v H' nd') with
          | some (v, nd') => K v H (nd' ++ nd)
          | none => .fail
end
section
variable {P : Program}
theorem jFun_sound {T : Table} (hT : SoundT P T) (n : Nat) : SoundT P (tabOf (jFun P T n)) := by
  intro f args H nd K
  unfold tabOf jFun
  cases hf : P.funcs[f]? with
  | none => exact .inl rfl
  | some fn =>
    dsimp only
    cases hc : fn.body with
    | none => exact .inl rfl
    | some c =>
      dsimp only [CF.app]
      cases hle : Nat.ble args.length fn.ntmps with
      | false => exact .inl rfl
      | true =>
        have hle := Nat.le_of_ble_eq_true hle
        have hR := stAll_R args _ _ 0 (mkT_R fn.ntmps fn.ntmps (Nat.le_refl _))
        rw [args_list args fn.ntmps hle] at hR
        dsimp only
        rcases jRun_sound hT (retB P fn K) (fun _ _ _ _ => .fail) n [.code c] _ _ H nd hR with h | ⟨t', H', nd', h1, h2⟩ | ⟨_, _, _, _, h1, _⟩
        · exact .inl h
        · rw [h1]
          unfold retB
          rw [resB_eq P (ofL_R t')]
          cases hr : resV P t' H' fn.results.toList with
          | none => exact .inl rfl
          | some z =>
            obtain ⟨vs, m⟩ := z
            refine .inr ⟨tupV vs, H', m ++ nd', rfl, fun hn => ?_⟩
            rw [allT_append, Bool.and_eq_true] at hn
            exact ⟨(h2 hn.2).1, call_of_ends hf hc (h2 hn.2).2 hr hn.1⟩
        · exact .inl h1
theorem jdeep_sound {l : List (FuncId × Table)} {inl : List FuncId} {n : Nat} (h : ∀ p ∈ l, SoundAt P p.1 p.2) : ∀ d, SoundT P (tabOf (jdeep P l inl n d))
  | 0 => fun _ _ _ _ _ => .inl rfl
  | d + 1 => fun f args H nd K => by
    have ih := jFun_sound (jdeep_sound (inl := inl) (n := n) h d) n
    have hq := quiet_sound ih
    unfold tabOf jdeep
    cases hl : lookC l f with
    | some T => exact h _ (lookC_some hl) args H nd K
    | none =>
      have h1 := ih f args H nd K
      have h2 := hq f args H nd K
      unfold quiet at h2
      unfold tabOf at h1 h2
      dsimp only
      cases hF : jFun P (tabOf (jdeep P l inl n d)) n f with
      | mk F =>
        have e : jFun P (fun f args H nd K => (jdeep P l inl n d f).app args H nd K) n f = .mk F := hF
        rw [e] at h1 h2
        dsimp only [CF.app] at h1 h2
        cases inl.any (Nat.beq f) with
        | true => exact h1
        | false => exact h2
/-- Like 'cupto'. -/
noncomputable def jupto (P : Program) (T : Table) (stop : List Item → Bool) (n : Nat) (todo : List Item) (t : List AV) (H : List AB) : Res :=
  jRun P T stop n todo (ofL t) H [] (fun τ H nd => .ret (.tup (listT τ)) H nd) (fun todo τ H nd => .stop todo (listT τ) H nd)
theorem jupto_reach {T : Table} {stop : List Item → Bool} {n : Nat} {todo todo' : List Item} {t t' : List AV} {H H' : List AB} {nd : List Bool} (hT : SoundT P T) (h : (jupto P T stop n todo t H).sel = .stop todo' t' H' nd) (hn : allT nd = true) : Reach P todo t H todo' t' H' := by
  rcases jRun_sound (stop := stop) hT (fun τ H nd => .ret (.tup (listT τ)) H nd) (fun todo τ H nd => .stop todo (listT τ) H nd) n todo _ t H [] (ofL_R t) with h1 | ⟨t1, H1, nd1, h1, h2⟩ | ⟨todo1, t1, H1, nd1, h1, h2⟩
  · unfold jupto at h; rw [h] at h1; cases h1
  · unfold jupto at h; rw [h] at h1; cases h1
  · unfold jupto at h; rw [h, (ofL_R t1).list] at h1; cases h1
    exact (h2 hn).2
theorem jupto_ends {T : Table} {stop : List Item → Bool} {n : Nat} {todo : List Item} {t t' : List AV} {H H' : List AB} {nd : List Bool} (hT : SoundT P T) (h : (jupto P T stop n todo t H).sel = .ret (.tup t') H' nd) (hn : allT nd = true) : Ends P todo t H t' H' := by
  rcases jRun_sound (stop := stop) hT (fun τ H nd => .ret (.tup (listT τ)) H nd) (fun todo τ H nd => .stop todo (listT τ) H nd) n todo _ t H [] (ofL_R t) with h1 | ⟨t1, H1, nd1, h1, h2⟩ | ⟨todo1, t1, H1, nd1, h1, h2⟩
  · unfold jupto at h; rw [h] at h1; cases h1
  · unfold jupto at h; rw [h, (ofL_R t1).list] at h1; cases h1
    exact (h2 hn).2
  · unfold jupto at h; rw [h] at h1; cases h1
end
end Go.Ax

/- Calls whose results lie in new blocks. -/
namespace Go.Ax
open Go

/-- Blocks out of use dropped, one behind the other. -/
def dropN (k0 : Nat) : List Nat → AV → List AB → Option (AV × List AB)
  | [], v, H => some (v, H)
  | k :: ks, v, H => match Nat.ble k0 k && Nat.blt k H.length with
    | true => dropN k0 ks (renV k v) (dropB k k H)
    | false => none
section
variable {P : Program}
theorem dropN_call {f : FuncId} {args : List AV} {H0 : List AB} : ∀ {ks : List Nat} {v v' : AV} {H H' : List AB}, dropN H0.length ks v H = some (v', H') → CallOK P f args H0 v H → CallOK P f args H0 v' H'
  | [], _, _, _, _, h, k => by cases h; exact k
  | i :: ks, v, v', H, H', h, k => by
    simp only [dropN] at h
    split at h
    · rename_i hb
      rw [Bool.and_eq_true] at hb
      exact dropN_call h (k.drop i (Nat.le_of_ble_eq_true hb.1) (blt_true hb.2))
    · cases h
def leafD (k0 : Nat) (ks : List Nat) : Res → Option (AV × List AB × List Bool)
  | .ret v H nd => match dropN k0 ks v H with
    | some (v', H') => some (v', H', nd)
    | none => none
  | _ => none
theorem call_of_leaf {T : Table} {f : FuncId} {args : List AV} {H0 H' : List AB} {ks : List Nat} {dirs conds nd : List Bool} {v : AV} (hT : SoundT P T)
    (h : (condsP (T f args H0 [] fun v H nd => .ret v H nd) dirs, leafD H0.length ks ((T f args H0 [] fun v H nd => .ret v H nd).at dirs)) = (conds, some (v, H', nd))) (hc : allT conds = true) (hn : allT nd = true) : CallOK P f args H0 v H' := by
  simp only [Prod.mk.injEq] at h
  obtain ⟨h1, h2⟩ := h
  have e := sel_of_conds _ dirs (by rw [h1]; exact hc)
  generalize hl : (T f args H0 [] fun v H nd => .ret v H nd).at dirs = r at h2 e
  unfold leafD at h2
  split at h2 <;> (try (cases h2; done))
  split at h2 <;> cases h2
  rename_i hd
  exact dropN_call hd (call_of_sel hT e hn)
theorem plain_low {a : AV} (h : below 0 a = true) (n : Nat) : plainV n a = true := by
  cases a
  case p => simp [below] at h
  case sl => simp [below] at h
  all_goals exact h
theorem plain_lowL : ∀ {l : List AV}, belowL 0 l = true → ∀ n, l.all (plainV n) = true
  | [], _, _ => rfl
  | a :: l, h, n => by
    simp only [belowL, Bool.and_eq_true] at h
    simp only [List.all_cons, Bool.and_eq_true]
    exact ⟨plain_low h.1 n, plain_lowL h.2 n⟩
/-- A call without memory whose result lies in one new block. -/
theorem CallOK.fresh {f : FuncId} {args : List AV} {v : AV} {B : AB} (h : CallOK P f args [] v [B]) (hB : ∀ g, mapB g B = B) (ha : belowL 0 args = true) (H : List AB) : CallOK P f args H (mapV (pickI 0 H.length []) v) (H ++ [B]) := by
  have k := h.pick (fun i => rfl) (plain_lowL ha 0) [] rfl H (fun i hi => by simp at hi)
  rw [mapL_low _ ha] at k
  have e : (([B] : List AB).drop ([] : List AB).length).map (mapB (pickI ([] : List AB).length H.length [])) = [B] := by
    show [mapB _ B] = [B]
    rw [hB]
  rw [e] at k
  exact k
end
end Go.Ax

/- One way of an evaluation up to a place, or to the end. -/
namespace Go.Ax
open Go Go.Proofs

noncomputable def tab0 : Table := tabOf (cdeep Tryd.prog [] [] 3000 8)
theorem tab0_sound : SoundT Tryd.prog tab0 := cdeep_sound (fun p hp => by cases hp) 8
section
variable {P : Program} {T : Table}
theorem jupto_toLp (stop : List Item → Bool) (n : Nat) (L : List Item) (t : List AV) (H : List AB) : jupto P T stop n (toLp L) t H = jupto P T stop n L t H := by
  unfold toLp
  split
  · cases n with
    | zero => rfl
    | succ n =>
      unfold jupto jRun
      rw [cNext_loop stop 99]
  · rfl
theorem jupto_eq {stop : List Item → Bool} {n : Nat} {L R : List Item} (h : toLp L = toLp R) (t : List AV) (H : List AB) : jupto P T stop n L t H = jupto P T stop n R t H := by
  rw [← jupto_toLp, h, jupto_toLp]
theorem way_reach {stop : List Item → Bool} {n : Nat} {L R todo' : List Item} {p M nd : List Bool} {t0 t' : List AV} {H0 H' : List AB} (hT : SoundT P T) (hL : toLp L = toLp R) (hc : allT (condsP (jupto P T stop n R t0 H0) p) = true)
    (hl : lfM M ((jupto P T stop n R t0 H0).at p) = (true, todo', t'.map AV.bare, H', nd)) (hn : allT nd = true) : Reach P L t0 H0 todo' t' H' := by
  simp only [lfM, Prod.mk.injEq] at hl
  obtain ⟨a1, a2, a3, a4, a5⟩ := hl
  have hs := isStop_at a1 hc
  rw [← jupto_eq hL] at hs
  have hr := jupto_reach hT hs (by rw [jupto_eq hL, a5]; exact hn)
  rw [jupto_eq hL, a2, a4] at hr
  exact (hr.weak (blur_eqv M _)).weak (eqv_of_bare a3)
theorem endOfJ {stop : List Item → Bool} {n : Nat} {todo : List Item} {t0 : List AV} {H0 : List AB} {rs : List ResultVar} {r : Res} {x : Option (List AV × List Bool)} {H : List AB} {nd : List Bool} (hT : SoundT P T)
    (h : endOf P rs r = some (x, H, nd)) (hs : (jupto P T stop n todo t0 H0).sel = r.sel) (hn : allT nd = true) : ∃ t, Ends P todo t0 H0 t H ∧ resV P t H rs = x := by
  unfold endOf at h
  split at h <;> (try (cases h; done))
  split at h <;> cases h
  exact ⟨_, jupto_ends hT hs hn, rfl⟩
theorem way_ends {stop : List Item → Bool} {n : Nat} {L R : List Item} {p nd : List Bool} {t0 : List AV} {H0 H' : List AB} {rs : List ResultVar} {x : Option (List AV × List Bool)} (hT : SoundT P T) (hL : toLp L = toLp R) (hc : allT (condsP (jupto P T stop n R t0 H0) p) = true)
    (hl : endOf P rs ((jupto P T stop n R t0 H0).at p) = some (x, H', nd)) (hn : allT nd = true) : ∃ t, Ends P L t0 H0 t H' ∧ resV P t H' rs = x := by
  refine endOfJ (stop := stop) (n := n) hT hl ?_ hn
  rw [jupto_eq hL]
  exact sel_of_conds _ _ hc
end
end Go.Ax

/- strconv's two errors, strings.Split and strings.Cut: what the kit's contracts ask of the program (written by the kit's tool for layings). -/
namespace Go.Ax
open Go Go.Proofs Go.Shelf
def laysSyn_ren : Go.Shelf.Ren := ⟨fun | 21 => 81 | 25 => 92 | n => n, fun | 9 => 9 | 39 => 122 | 24 => 89 | 44 => 136 | 3 => 3 | 4 => 4 | 37 => 102 | 0 => 0 | 47 => 140 | 67 => 144 | 5 => 5 | n => n, fun | 0 => 5 | n => n⟩
theorem laysSyn : Go.Proofs.LaysPu.n21 Tryd.prog laysSyn_ren := {
  mixed := by kernel_rfl
  f21 := Tryd.func81.trans (congrArg some (by kernel_rfl))
  f25 := Tryd.func92.trans (congrArg some (by kernel_rfl))
  t0 := Tryd.underlying0
  a0 := Tryd.isAgg0
  z0 := Tryd.sizeOf0
  v0 := Tryd.zeroValue0
  i0 := by kernel_rfl
  t3 := Tryd.underlying3
  a3 := Tryd.isAgg3
  z3 := Tryd.sizeOf3
  v3 := Tryd.zeroValue3
  i3 := by kernel_rfl
  t4 := Tryd.underlying4
  a4 := Tryd.isAgg4
  z4 := Tryd.sizeOf4
  v4 := Tryd.zeroValue4
  i4 := by kernel_rfl
  t5 := Tryd.underlying5
  a5 := Tryd.isAgg5
  z5 := Tryd.sizeOf5
  v5 := Tryd.zeroValue5
  i5 := by kernel_rfl
  t9 := Tryd.underlying9
  a9 := Tryd.isAgg9
  z9 := Tryd.sizeOf9
  v9 := Tryd.zeroValue9
  i9 := by kernel_rfl
  t24 := Tryd.underlying89
  a24 := Tryd.isAgg89
  z24 := Tryd.sizeOf89
  v24 := Tryd.zeroValue89
  i24 := by kernel_rfl
  t37 := Tryd.underlying102
  a37 := Tryd.isAgg102
  z37 := Tryd.sizeOf102
  v37 := Tryd.zeroValue102
  i37 := by kernel_rfl
  t39 := Tryd.underlying122
  a39 := Tryd.isAgg122
  z39 := Tryd.sizeOf122
  v39 := Tryd.zeroValue122
  i39 := by kernel_rfl
  t44 := Tryd.underlying136
  a44 := Tryd.isAgg136
  z44 := Tryd.sizeOf136
  v44 := Tryd.zeroValue136
  i44 := by kernel_rfl
  t47 := Tryd.underlying140
  a47 := Tryd.isAgg140
  z47 := Tryd.sizeOf140
  v47 := Tryd.zeroValue140
  i47 := by kernel_rfl
  t67 := Tryd.underlying144
  a67 := Tryd.isAgg144
  z67 := Tryd.sizeOf144
  v67 := Tryd.zeroValue144
  i67 := by kernel_rfl
  g0 := by kernel_rfl
  m0 := by kernel_rfl }
def laysRng_ren : Go.Shelf.Ren := ⟨fun | 22 => 82 | 25 => 92 | n => n, fun | 9 => 9 | 39 => 122 | 24 => 89 | 44 => 136 | 3 => 3 | 4 => 4 | 37 => 102 | 0 => 0 | 47 => 140 | 67 => 144 | 5 => 5 | n => n, fun | 1 => 6 | n => n⟩
theorem laysRng : Go.Proofs.LaysPu.n22 Tryd.prog laysRng_ren := {
  mixed := by kernel_rfl
  f22 := Tryd.func82.trans (congrArg some (by kernel_rfl))
  f25 := Tryd.func92.trans (congrArg some (by kernel_rfl))
  t0 := Tryd.underlying0
  a0 := Tryd.isAgg0
  z0 := Tryd.sizeOf0
  v0 := Tryd.zeroValue0
  i0 := by kernel_rfl
  t3 := Tryd.underlying3
  a3 := Tryd.isAgg3
  z3 := Tryd.sizeOf3
  v3 := Tryd.zeroValue3
  i3 := by kernel_rfl
  t4 := Tryd.underlying4
  a4 := Tryd.isAgg4
  z4 := Tryd.sizeOf4
  v4 := Tryd.zeroValue4
  i4 := by kernel_rfl
  t5 := Tryd.underlying5
  a5 := Tryd.isAgg5
  z5 := Tryd.sizeOf5
  v5 := Tryd.zeroValue5
  i5 := by kernel_rfl
  t9 := Tryd.underlying9
  a9 := Tryd.isAgg9
  z9 := Tryd.sizeOf9
  v9 := Tryd.zeroValue9
  i9 := by kernel_rfl
  t24 := Tryd.underlying89
  a24 := Tryd.isAgg89
  z24 := Tryd.sizeOf89
  v24 := Tryd.zeroValue89
  i24 := by kernel_rfl
  t37 := Tryd.underlying102
  a37 := Tryd.isAgg102
  z37 := Tryd.sizeOf102
  v37 := Tryd.zeroValue102
  i37 := by kernel_rfl
  t39 := Tryd.underlying122
  a39 := Tryd.isAgg122
  z39 := Tryd.sizeOf122
  v39 := Tryd.zeroValue122
  i39 := by kernel_rfl
  t44 := Tryd.underlying136
  a44 := Tryd.isAgg136
  z44 := Tryd.sizeOf136
  v44 := Tryd.zeroValue136
  i44 := by kernel_rfl
  t47 := Tryd.underlying140
  a47 := Tryd.isAgg140
  z47 := Tryd.sizeOf140
  v47 := Tryd.zeroValue140
  i47 := by kernel_rfl
  t67 := Tryd.underlying144
  a67 := Tryd.isAgg144
  z67 := Tryd.sizeOf144
  v67 := Tryd.zeroValue144
  i67 := by kernel_rfl
  g1 := by kernel_rfl
  m1 := by kernel_rfl }
def laysSplit_ren : Go.Shelf.Ren := ⟨fun | 146 => 16 | 221 => 37 | 268 => 49 | 138 => 50 | 143 => 51 | 195 => 62 | 197 => 63 | 218 => 64 | 219 => 65 | 260 => 75 | 217 => 76 | 225 => 77 | 224 => 78 | 267 => 79 | 266 => 88 | 314 => 89 | n => n, fun | 9 => 9 | 31 => 39 | 3 => 3 | 4 => 4 | 0 => 0 | 105 => 106 | 21 => 21 | 5 => 5 | 46 => 112 | 119 => 127 | 139 => 130 | 138 => 129 | 146 => 131 | 51 => 94 | n => n, fun | 1 => 2 | 3 => 3 | 4 => 4 | n => n⟩
theorem laysSplit : Go.Proofs.Lays.n146 Tryd.prog laysSplit_ren := {
  mixed := by kernel_rfl
  f138 := Tryd.func50.trans (congrArg some (by kernel_rfl))
  f143 := Tryd.func51.trans (congrArg some (by kernel_rfl))
  f146 := Tryd.func16.trans (congrArg some (by kernel_rfl))
  f195 := Tryd.func62.trans (congrArg some (by kernel_rfl))
  f197 := Tryd.func63.trans (congrArg some (by kernel_rfl))
  f217 := Tryd.func76.trans (congrArg some (by kernel_rfl))
  f218 := Tryd.func64.trans (congrArg some (by kernel_rfl))
  f219 := Tryd.func65.trans (congrArg some (by kernel_rfl))
  f221 := Tryd.func37.trans (congrArg some (by kernel_rfl))
  f224 := Tryd.func78.trans (congrArg some (by kernel_rfl))
  f225 := Tryd.func77.trans (congrArg some (by kernel_rfl))
  f260 := Tryd.func75.trans (congrArg some (by kernel_rfl))
  f266 := Tryd.func88.trans (congrArg some (by kernel_rfl))
  f267 := Tryd.func79.trans (congrArg some (by kernel_rfl))
  f268 := Tryd.func49.trans (congrArg some (by kernel_rfl))
  f314 := Tryd.func89.trans (congrArg some (by kernel_rfl))
  t0 := Tryd.underlying0
  a0 := Tryd.isAgg0
  z0 := Tryd.sizeOf0
  v0 := Tryd.zeroValue0
  t3 := Tryd.underlying3
  a3 := Tryd.isAgg3
  z3 := Tryd.sizeOf3
  v3 := Tryd.zeroValue3
  t4 := Tryd.underlying4
  a4 := Tryd.isAgg4
  z4 := Tryd.sizeOf4
  v4 := Tryd.zeroValue4
  t5 := Tryd.underlying5
  a5 := Tryd.isAgg5
  z5 := Tryd.sizeOf5
  v5 := Tryd.zeroValue5
  t9 := Tryd.underlying9
  a9 := Tryd.isAgg9
  z9 := Tryd.sizeOf9
  v9 := Tryd.zeroValue9
  t21 := Tryd.underlying21
  a21 := Tryd.isAgg21
  z21 := Tryd.sizeOf21
  v21 := Tryd.zeroValue21
  t31 := Tryd.underlying39
  a31 := Tryd.isAgg39
  z31 := Tryd.sizeOf39
  v31 := Tryd.zeroValue39
  t46 := Tryd.underlying112
  a46 := Tryd.isAgg112
  z46 := Tryd.sizeOf112
  v46 := Tryd.zeroValue112
  t51 := Tryd.underlying94
  a51 := Tryd.isAgg94
  z51 := Tryd.sizeOf94
  v51 := Tryd.zeroValue94
  t105 := Tryd.underlying106
  a105 := Tryd.isAgg106
  z105 := Tryd.sizeOf106
  v105 := Tryd.zeroValue106
  t119 := Tryd.underlying127
  a119 := Tryd.isAgg127
  z119 := Tryd.sizeOf127
  t138 := Tryd.underlying129
  a138 := Tryd.isAgg129
  z138 := Tryd.sizeOf129
  v138 := Tryd.zeroValue129
  t139 := Tryd.underlying130
  a139 := Tryd.isAgg130
  z139 := Tryd.sizeOf130
  v139 := Tryd.zeroValue130
  t146 := Tryd.underlying131
  a146 := Tryd.isAgg131
  z146 := Tryd.sizeOf131
  v146 := Tryd.zeroValue131
  g1 := by kernel_rfl
  g3 := by kernel_rfl
  g4 := by kernel_rfl }
def laysCut_ren : Go.Shelf.Ren := ⟨fun | 145 => 39 | 220 => 52 | 219 => 65 | 217 => 76 | 225 => 77 | 224 => 78 | 267 => 79 | 266 => 88 | 314 => 89 | n => n, fun | 9 => 9 | 4 => 4 | 59 => 78 | 3 => 3 | 5 => 5 | 46 => 112 | 146 => 131 | 51 => 94 | n => n, fun | 1 => 2 | n => n⟩
theorem laysCut : Go.Proofs.Lays.n145 Tryd.prog laysCut_ren := {
  mixed := by kernel_rfl
  f145 := Tryd.func39.trans (congrArg some (by kernel_rfl))
  f217 := Tryd.func76.trans (congrArg some (by kernel_rfl))
  f219 := Tryd.func65.trans (congrArg some (by kernel_rfl))
  f220 := Tryd.func52.trans (congrArg some (by kernel_rfl))
  f224 := Tryd.func78.trans (congrArg some (by kernel_rfl))
  f225 := Tryd.func77.trans (congrArg some (by kernel_rfl))
  f266 := Tryd.func88.trans (congrArg some (by kernel_rfl))
  f267 := Tryd.func79.trans (congrArg some (by kernel_rfl))
  f314 := Tryd.func89.trans (congrArg some (by kernel_rfl))
  t3 := Tryd.underlying3
  a3 := Tryd.isAgg3
  z3 := Tryd.sizeOf3
  v3 := Tryd.zeroValue3
  t4 := Tryd.underlying4
  a4 := Tryd.isAgg4
  z4 := Tryd.sizeOf4
  v4 := Tryd.zeroValue4
  t5 := Tryd.underlying5
  a5 := Tryd.isAgg5
  z5 := Tryd.sizeOf5
  v5 := Tryd.zeroValue5
  t9 := Tryd.underlying9
  a9 := Tryd.isAgg9
  z9 := Tryd.sizeOf9
  v9 := Tryd.zeroValue9
  t46 := Tryd.underlying112
  a46 := Tryd.isAgg112
  z46 := Tryd.sizeOf112
  v46 := Tryd.zeroValue112
  t51 := Tryd.underlying94
  a51 := Tryd.isAgg94
  z51 := Tryd.sizeOf94
  v51 := Tryd.zeroValue94
  t59 := Tryd.underlying78
  a59 := Tryd.isAgg78
  z59 := Tryd.sizeOf78
  v59 := Tryd.zeroValue78
  t146 := Tryd.underlying131
  a146 := Tryd.isAgg131
  z146 := Tryd.sizeOf131
  v146 := Tryd.zeroValue131
  g1 := by kernel_rfl }
end Go.Ax

/- spec.l01Two: powers of two. -/
namespace Go.Ax
open Go Go.Proofs

noncomputable def twoT (k : Int) (x : Nat) (g : Nat → AV) : List AV := [.i false .i64 k, g 1, g 2, .f false .f64 x, g 4, g 5, g 6, g 7, g 8, g 9, g 10, g 11, g 12, g 13, g 14, g 15, g 16]
noncomputable def two0 (k : Int) : Res := toLoop Tryd.prog noT 100 [.code (Tryd.f69.body.getD .skip)] (.i false .i64 k :: undefs 16) []
noncomputable def twoL1 : List Item := (two0 0).todo
noncomputable def two1 (L : List Item) (k : Int) (x : Nat) (g : Nat → AV) : Res := toLoop Tryd.prog noT 100 L (twoT k x g) []
noncomputable def twoR : List Item := ((two1 twoL1 0 0 fun _ => .pnil).at [true]).todo
noncomputable def twoL2 : List Item := ((two1 twoL1 0 0 fun _ => .pnil).at [false]).todo
noncomputable def twoS : List Item := ((two1 twoL2 0 0 fun _ => .pnil).at [true]).todo
noncomputable def twoA (k : Int) (x : Nat) (g : Nat → AV) : List AV := [AV.i false IntKind.i64 (IntKind.i64.wrap (k - 1)), g 1, g 2,
      AV.f false FloatKind.f64 (fmul FloatKind.f64 x 4611686018427387904), AV.i false IntKind.i64 k,
      AV.b false (decide (0 < k)), AV.i false IntKind.i64 k, AV.i false IntKind.i64 (IntKind.i64.wrap (k - 1)),
      AV.f false FloatKind.f64 x, AV.f false FloatKind.f64 (fmul FloatKind.f64 x 4611686018427387904), g 10, g 11, g 12,
      g 13, g 14, g 15, g 16]
noncomputable def twoB (k : Int) (x : Nat) (g : Nat → AV) : List AV := [AV.i false IntKind.i64 k, g 1, g 2, AV.f false FloatKind.f64 x, AV.i false IntKind.i64 k,
      AV.b false (decide (0 < k)), g 6, g 7, g 8, g 9, g 10, g 11, g 12, g 13, g 14, g 15, g 16]
noncomputable def twoC (k : Int) (x : Nat) (g : Nat → AV) : List AV := [AV.i false IntKind.i64 (IntKind.i64.wrap (k + 1)), g 1, g 2,
      AV.f false FloatKind.f64 (fdiv FloatKind.f64 x 4611686018427387904), g 4, g 5, g 6, g 7, g 8, g 9, AV.i false IntKind.i64 k,
      AV.b false (decide (k < 0)), AV.i false IntKind.i64 k, AV.i false IntKind.i64 (IntKind.i64.wrap (k + 1)),
      AV.f false FloatKind.f64 x, AV.f false FloatKind.f64 (fdiv FloatKind.f64 x 4611686018427387904), g 16]
noncomputable def twoD (k : Int) (x : Nat) (g : Nat → AV) : List AV := [AV.i false IntKind.i64 k, g 1, AV.f false FloatKind.f64 x, AV.f false FloatKind.f64 x, g 4, g 5, g 6, g 7, g 8, g 9, AV.i false IntKind.i64 k,
      AV.b false (decide (k < 0)), g 12, g 13, g 14, g 15, AV.f false FloatKind.f64 x]

theorem two0_eq (k : Int) : two0 k = .stop twoL1 [.i false .i64 k, .tup [], .f true .f64 0, .f true .f64 4607182418800017408, .tup [], .tup [], .tup [], .tup [], .tup [], .tup [], .tup [], .tup [], .tup [], .tup [], .tup [], .tup [], .tup []] [] [] := by kernel_rfl
theorem two1_eq (k : Int) (x : Nat) (g : Nat → AV) : two1 twoL1 k x g = .ite (decide (0 < k)) (.stop twoR (twoA k x g) [] []) (.stop twoL2 (twoB k x g) [] []) := by kernel_rfl
theorem twoR_eq (k : Int) (x : Nat) (g : Nat → AV) : two1 twoR k x g = .ite (decide (0 < k)) (.stop twoR (twoA k x g) [] []) (.stop twoL2 (twoB k x g) [] []) := by kernel_rfl
theorem two2_eq (k : Int) (x : Nat) (g : Nat → AV) : two1 twoL2 k x g = .ite (decide (k < 0)) (.stop twoS (twoC k x g) [] []) (.ret (.tup (twoD k x g)) [] []) := by kernel_rfl
theorem twoS_eq (k : Int) (x : Nat) (g : Nat → AV) : two1 twoS k x g = .ite (decide (k < 0)) (.stop twoS (twoC k x g) [] []) (.ret (.tup (twoD k x g)) [] []) := by kernel_rfl

noncomputable def dbl : Nat → Nat → Nat
  | 0, x => x
  | n + 1, x => dbl n (fmul .f64 x 4611686018427387904)
noncomputable def hlv : Nat → Nat → Nat
  | 0, x => x
  | n + 1, x => hlv n (fdiv .f64 x 4611686018427387904)
theorem hT0 : SoundT Tryd.prog noT := noT_sound Tryd.prog

theorem two_up (L : List Item) (hL : ∀ k x g, two1 L k x g = .ite (decide (0 < k)) (.stop twoR (twoA k x g) [] []) (.stop twoL2 (twoB k x g) [] [])) :
    ∀ (n : Nat) (k : Int) (x : Nat) (g : Nat → AV), k = n → n < 4000 → ∃ g', Reach Tryd.prog L (twoT k x g) [] twoL2 (twoT 0 (dbl n x) g') []
  | 0, k, x, g, hk, _ => by
    refine ⟨fun i => getL (twoB k x g) i, ?_⟩
    have hk0 : k = 0 := by omega
    subst hk0
    refine toLoop_reach (n := 100) (nd := []) hT0 (T := noT) ?_ rfl
    have := hL 0 x g
    unfold two1 at this
    rw [this]; rfl
  | n + 1, k, x, g, hk, hn => by
    have h1 : Reach Tryd.prog L (twoT k x g) [] twoR (twoA k x g) [] := by
      refine toLoop_reach (n := 100) (nd := []) hT0 (T := noT) ?_ rfl
      have := hL k x g
      unfold two1 at this
      rw [this]
      have : 0 < k := by omega
      simp [Res.sel, this]
    have hw : IntKind.i64.wrap (k - 1) = k - 1 := wrap64_id (by omega) (by omega)
    have h2 : twoA k x g = twoT (k - 1) (fmul .f64 x 4611686018427387904) (fun i => getL (twoA k x g) i) := by
      unfold twoA twoT
      rw [hw]; rfl
    rw [h2] at h1
    obtain ⟨g', h3⟩ := two_up twoR twoR_eq n (k - 1) (fmul .f64 x 4611686018427387904) (fun i => getL (twoA k x g) i) (by omega) (by omega)
    exact ⟨g', h1.trans h3⟩
theorem two_down (L : List Item) (hL : ∀ k x g, two1 L k x g = .ite (decide (k < 0)) (.stop twoS (twoC k x g) [] []) (.ret (.tup (twoD k x g)) [] [])) :
    ∀ (n : Nat) (k : Int) (x : Nat) (g : Nat → AV), k = -n → n < 4000 → ∃ g', Ends Tryd.prog L (twoT k x g) [] (twoD 0 (hlv n x) g') []
  | 0, k, x, g, hk, _ => by
    refine ⟨g, ?_⟩
    have hk0 : k = 0 := by omega
    subst hk0
    refine toLoop_ends (n := 100) (nd := []) hT0 (T := noT) ?_ rfl
    have := hL 0 x g
    unfold two1 at this
    rw [this]; rfl
  | n + 1, k, x, g, hk, hn => by
    have h1 : Reach Tryd.prog L (twoT k x g) [] twoS (twoC k x g) [] := by
      refine toLoop_reach (n := 100) (nd := []) hT0 (T := noT) ?_ rfl
      have := hL k x g
      unfold two1 at this
      rw [this]
      have : k < 0 := by omega
      simp [Res.sel, this]
    have hw : IntKind.i64.wrap (k + 1) = k + 1 := wrap64_id (by omega) (by omega)
    have h2 : twoC k x g = twoT (k + 1) (fdiv .f64 x 4611686018427387904) (fun i => getL (twoC k x g) i) := by
      unfold twoC twoT
      rw [hw]; rfl
    rw [h2] at h1
    obtain ⟨g', h3⟩ := two_down twoS twoS_eq n (k + 1) (fdiv .f64 x 4611686018427387904) (fun i => getL (twoC k x g) i) (by omega) (by omega)
    exact ⟨g', h1.ends h3⟩

/-- 2 to the k, in bits. -/
noncomputable def pow2 (k : Int) : Nat := ((k + 1023).toNat) * 4503599627370496
theorem dbl_step : ((List.range 130).all fun n => fmul .f64 ((n + 1023) * 4503599627370496) 4611686018427387904 == (n + 1024) * 4503599627370496) = true := by kernel_rfl
theorem hlv_step : ((List.range 160).all fun n => fdiv .f64 ((1023 - n) * 4503599627370496) 4611686018427387904 == (1022 - n) * 4503599627370496) = true := by kernel_rfl
theorem dbl_pow : ∀ (n m : Nat), m + n ≤ 130 → dbl n ((m + 1023) * 4503599627370496) = (m + n + 1023) * 4503599627370496
  | 0, m, _ => rfl
  | n + 1, m, h => by
    have := List.all_eq_true.1 dbl_step m (by simp; omega)
    simp only [beq_iff_eq] at this
    rw [dbl, this]
    have := dbl_pow n (m + 1) (by omega)
    rw [show m + 1024 = m + 1 + 1023 by omega, this]
    exact congrArg (· * 4503599627370496) (by omega)
theorem hlv_pow : ∀ (n m : Nat), m + n ≤ 160 → hlv n ((1023 - m) * 4503599627370496) = (1023 - (m + n)) * 4503599627370496
  | 0, m, _ => rfl
  | n + 1, m, h => by
    have := List.all_eq_true.1 hlv_step m (by simp; omega)
    simp only [beq_iff_eq] at this
    rw [hlv, this]
    have := hlv_pow n (m + 1) (by omega)
    rw [show 1022 - m = 1023 - (m + 1) by omega, this]
    exact congrArg (· * 4503599627370496) (by omega)

theorem two_ok (k : Int) (h0 : -160 ≤ k) (h1 : k ≤ 130) (H : List AB) : CallOK Tryd.prog 69 [.i false .i64 k] H (.f false .f64 (pow2 k)) H := by
  have e0 : Reach Tryd.prog [.code (Tryd.f69.body.getD .skip)] (.i false .i64 k :: undefs 16) [] twoL1 (twoT k 4607182418800017408 fun i => getL [.i false .i64 k, .tup [], .f true .f64 0, .f true .f64 4607182418800017408, .tup [], .tup [], .tup [], .tup [], .tup [], .tup [], .tup [], .tup [], .tup [], .tup [], .tup [], .tup [], .tup []] i) [] := by
    have : Reach Tryd.prog [.code (Tryd.f69.body.getD .skip)] (.i false .i64 k :: undefs 16) [] twoL1 [.i false .i64 k, .tup [], .f true .f64 0, .f true .f64 4607182418800017408, .tup [], .tup [], .tup [], .tup [], .tup [], .tup [], .tup [], .tup [], .tup [], .tup [], .tup [], .tup [], .tup []] [] := by
      refine toLoop_reach (n := 100) (nd := []) hT0 (T := noT) ?_ rfl
      have := two0_eq k
      unfold two0 at this
      rw [this]; rfl
    exact this.weak (eqv_of_bare rfl)
  have fin : ∀ {x : Nat} {g : Nat → AV}, Ends Tryd.prog [.code (Tryd.f69.body.getD .skip)] (.i false .i64 k :: undefs 16) [] (twoD 0 x g) [] → x = pow2 k → CallOK Tryd.prog 69 [.i false .i64 k] H (.f false .f64 (pow2 k)) H := fun {x g} he hx => by
    subst hx
    have hb : Tryd.f69.body = some (Tryd.f69.body.getD .skip) := rfl
    have := call_of_ends (args := [.i false .i64 k]) (m := []) (vs := [.f false .f64 (pow2 k)]) Tryd.func69 hb he (by rfl) rfl
    exact this.lift rfl rfl H rfl
  rcases (by omega : k < 0 ∨ 0 ≤ k) with hk | hk
  · obtain ⟨n, hn⟩ : ∃ n : Nat, k = -n := ⟨k.natAbs, by omega⟩
    have e1 : ∀ x g, Reach Tryd.prog twoL1 (twoT k x g) [] twoL2 (twoT k x fun i => getL (twoB k x g) i) [] := fun x g => by
      refine toLoop_reach (n := 100) (nd := []) hT0 (T := noT) ?_ rfl
      have := two1_eq k x g
      unfold two1 at this
      rw [this]
      have : ¬ 0 < k := by omega
      simp [Res.sel, this]; rfl
    obtain ⟨g', e2⟩ := two_down twoL2 two2_eq n k 4607182418800017408 _ hn (by omega)
    refine fin ((e0.trans (e1 _ _)).ends e2) ?_
    have := hlv_pow n 0 (by omega)
    rw [show (1023 - 0) * 4503599627370496 = 4607182418800017408 from rfl] at this
    rw [this]
    unfold pow2
    exact congrArg (· * 4503599627370496) (by omega)
  · obtain ⟨n, hn⟩ : ∃ n : Nat, k = n := ⟨k.natAbs, by omega⟩
    obtain ⟨g1, e1⟩ := two_up twoL1 two1_eq n k 4607182418800017408 (fun i => getL [.i false .i64 k, .tup [], .f true .f64 0, .f true .f64 4607182418800017408, .tup [], .tup [], .tup [], .tup [], .tup [], .tup [], .tup [], .tup [], .tup [], .tup [], .tup [], .tup [], .tup []] i) hn (by omega)
    obtain ⟨g', e2⟩ := two_down twoL2 two2_eq 0 0 (dbl n 4607182418800017408) g1 rfl (by omega)
    refine fin ((e0.trans e1).ends e2) ?_
    have := dbl_pow n 0 (by omega)
    rw [show (0 + 1023) * 4503599627370496 = 4607182418800017408 from rfl] at this
    show dbl n 4607182418800017408 = _
    rw [this]
    unfold pow2
    exact congrArg (· * 4503599627370496) (by omega)
end Go.Ax

/- Floats that are exact. -/
namespace Go.Ax
open Go Ieee

/-- A finite number of a format: its last digit's place counts r above the least one. -/
def canon (f : Format) (g : Bool) (m r : Nat) : Nat := f.word g (r * f.binade + m)
theorem log2_eq {m k : Nat} (h0 : 2 ^ k ≤ m) (h1 : m < 2 ^ (k + 1)) : m.log2 = k := by
  have hm : m ≠ 0 := by have := Nat.two_pow_pos k; omega
  have a := (Nat.le_log2 hm).2 h0
  have b := (Nat.log2_lt hm).2 h1
  omega
theorem cut_exact (g : Bool) (m s : Nat) (hm : m ≠ 0) : Toward.even.cut g (m * 2 ^ s) s = m := by
  have hl : s ≤ (m * 2 ^ s).log2 := by
    rw [Nat.le_log2 (Nat.mul_ne_zero hm (Nat.pos_iff_ne_zero.1 (Nat.two_pow_pos s)))]
    exact Nat.le_mul_of_pos_left _ (Nat.pos_of_ne_zero hm)
  have hmin : min s ((m * 2 ^ s).log2 + 2) = s := by omega
  unfold Toward.cut
  simp only [hmin, Nat.one_shiftLeft, Nat.mul_div_cancel _ (Nat.two_pow_pos s), Nat.mul_mod_left]
  have hp := Nat.two_pow_pos s
  have h1 : ¬ (2 ^ s < 2 * 0) := by omega
  have h2 : (2 ^ s == 2 * 0) = false := by simp
  simp [h2]
theorem cut_zero (g : Bool) (m : Nat) : Toward.even.cut g m 0 = m := by
  unfold Toward.cut
  simp [Nat.mod_one]

/-- A number m * 2 ^ s at a place, m of full length: it is written as it is. -/
theorem nearest_down (f : Format) (g : Bool) (m s r : Nat) (place : Int) (h0 : 2 ^ f.fractionBits ≤ m) (h1 : m < 2 ^ (f.fractionBits + 1)) (hp : place + s = f.leastPlace + r) (hi : r * f.binade + m ≤ f.infRung) :
    f.nearest g (m * 2 ^ s) place = canon f g m r := by
  have hm : m ≠ 0 := by have := Nat.two_pow_pos f.fractionBits; omega
  have hlog : (m * 2 ^ s).log2 = f.fractionBits + s := by
    refine log2_eq ?_ ?_
    · rw [Nat.pow_add]; exact Nat.mul_le_mul_right _ h0
    · rw [show f.fractionBits + s + 1 = f.fractionBits + 1 + s by omega, Nat.pow_add]
      exact Nat.mul_lt_mul_of_pos_right h1 (Nat.two_pow_pos s)
  unfold Format.nearest
  rw [if_neg (Nat.mul_ne_zero hm (Nat.pos_iff_ne_zero.1 (Nat.two_pow_pos s)))]
  have hlast : max (place + ((m * 2 ^ s).log2 : Nat) - f.fractionBits) f.leastPlace = f.leastPlace + r := by rw [hlog]; omega
  simp only [hlast]
  have e1 : (place - (f.leastPlace + r)).toNat = 0 := by omega
  have e2 : ((f.leastPlace + r) - place).toNat = s := by omega
  have e3 : (f.leastPlace + (r : Int) - f.leastPlace).toNat = r := by omega
  rw [e1, e2, e3, Nat.shiftLeft_zero, cut_exact g m s hm, Nat.min_eq_left hi]
  rfl
/-- A number that is shorter: zeros are put behind it. -/
theorem nearest_up (f : Format) (g : Bool) (m s r : Nat) (place : Int) (h0 : 2 ^ f.fractionBits ≤ m * 2 ^ s) (h1 : m * 2 ^ s < 2 ^ (f.fractionBits + 1)) (hp : place = f.leastPlace + r + s) (hi : r * f.binade + m * 2 ^ s ≤ f.infRung) :
    f.nearest g m place = canon f g (m * 2 ^ s) r := by
  have hm : m ≠ 0 := by
    intro h
    subst h
    have := Nat.two_pow_pos f.fractionBits
    simp at h0
  have hlog : m.log2 + s = f.fractionBits := by
    have : (m * 2 ^ s).log2 = f.fractionBits := log2_eq h0 h1
    rw [← this]
    refine (log2_eq ?_ ?_).symm
    · rw [Nat.pow_add]; exact Nat.mul_le_mul_right _ (Nat.log2_self_le hm)
    · rw [show m.log2 + s + 1 = m.log2 + 1 + s by omega, Nat.pow_add]
      exact Nat.mul_lt_mul_of_pos_right Nat.lt_log2_self (Nat.two_pow_pos s)
  unfold Format.nearest
  rw [if_neg hm]
  have hlast : max (place + (m.log2 : Nat) - f.fractionBits) f.leastPlace = f.leastPlace + r := by omega
  simp only [hlast]
  have e1 : (place - (f.leastPlace + r)).toNat = s := by omega
  have e2 : ((f.leastPlace + r) - place).toNat = 0 := by omega
  have e3 : (f.leastPlace + (r : Int) - f.leastPlace).toNat = r := by omega
  rw [e1, e2, e3, Nat.shiftLeft_eq, cut_zero, Nat.min_eq_left hi]
  rfl
/-- A number below the full length at the least place. -/
theorem nearest_sub (f : Format) (g : Bool) (m s : Nat) (place : Int) (h1 : m < 2 ^ (f.fractionBits + 1)) (hp : place + s = f.leastPlace) (hi : m ≤ f.infRung) :
    f.nearest g (m * 2 ^ s) place = canon f g m 0 := by
  by_cases hm : m = 0
  · subst hm
    unfold Format.nearest
    simp [canon]
  have hlog : (m * 2 ^ s).log2 ≤ f.fractionBits + s := by
    have := (Nat.log2_lt (k := f.fractionBits + s + 1) (Nat.mul_ne_zero hm (Nat.pos_iff_ne_zero.1 (Nat.two_pow_pos s)))).2 (by
      rw [show f.fractionBits + s + 1 = f.fractionBits + 1 + s by omega, Nat.pow_add]
      exact Nat.mul_lt_mul_of_pos_right h1 (Nat.two_pow_pos s))
    omega
  unfold Format.nearest
  rw [if_neg (Nat.mul_ne_zero hm (Nat.pos_iff_ne_zero.1 (Nat.two_pow_pos s)))]
  have hlast : max (place + ((m * 2 ^ s).log2 : Nat) - f.fractionBits) f.leastPlace = f.leastPlace := by omega
  simp only [hlast]
  have e1 : (place - f.leastPlace).toNat = 0 := by omega
  have e2 : (f.leastPlace - place).toNat = s := by omega
  have e3 : (f.leastPlace - f.leastPlace).toNat = 0 := by omega
  rw [e1, e2, e3, Nat.shiftLeft_zero, cut_exact g m s hm, Nat.zero_mul, Nat.zero_add, Nat.min_eq_left hi]
  simp [canon]

theorem read_word (f : Format) (g : Bool) (k : Nat) (hk : k < f.signWeight) : (f.word g k / f.signWeight % 2 == 1) = g ∧ f.word g k % f.signWeight = k := by
  have hs : 0 < f.signWeight := Nat.two_pow_pos _
  cases g with
  | false =>
    simp only [Format.word, Bool.false_eq_true, if_false]
    rw [Nat.div_eq_of_lt hk, Nat.mod_eq_of_lt hk]
    exact ⟨rfl, rfl⟩
  | true =>
    simp only [Format.word, if_true]
    rw [Nat.add_div_left _ hs, Nat.div_eq_of_lt hk, Nat.add_mod_left, Nat.mod_eq_of_lt hk]
    exact ⟨rfl, rfl⟩
theorem inf_lt (f : Format) : f.infRung < f.signWeight := by
  have h : 0 < f.binade := Nat.two_pow_pos _
  have : f.infRung + f.binade = f.signWeight := by
    have h : 0 < 2 ^ f.exponentBits := Nat.two_pow_pos _
    unfold Format.infRung Format.signWeight
    rw [Nat.pow_add, ← Nat.succ_mul]
    exact congrArg (· * f.binade) (by omega)
  omega
/-- What a written number reads as. -/
theorem read_canon (f : Format) (g : Bool) (m r : Nat) (h1 : m < 2 ^ (f.fractionBits + 1)) (h0 : r = 0 ∨ 2 ^ f.fractionBits ≤ m) (hi : r * f.binade + m < f.infRung) :
    f.read (canon f g m r) = .number g m (f.leastPlace + r) := by
  have hs := inf_lt f
  obtain ⟨e1, e2⟩ := read_word f g (r * f.binade + m) (by omega)
  have hb : f.binade = 2 ^ f.fractionBits := rfl
  have hbp : 0 < f.binade := Nat.two_pow_pos _
  rw [Nat.pow_succ, ← hb] at h1
  rw [← hb] at h0
  unfold canon Format.read
  simp only [e1, e2]
  by_cases hlt : r * f.binade + m < f.binade
  · have hr : r = 0 := by
      rcases Nat.eq_zero_or_pos r with h | h
      · exact h
      · have : 1 * f.binade ≤ r * f.binade := Nat.mul_le_mul_right _ h
        omega
    subst hr
    rw [if_pos hlt]
    simp
  · rw [if_neg hlt, if_pos hi]
    have hm : f.binade ≤ m := by
      rcases h0 with h | h
      · subst h; omega
      · exact h
    have hd : (r * f.binade + m) / f.binade = r + 1 := by
      rw [Nat.add_comm, Nat.add_mul_div_right _ _ hbp]
      have : m / f.binade = 1 := by
        refine Nat.div_eq_of_lt_le (by omega) (by omega)
      omega
    have hmod : (r * f.binade + m) % f.binade = m - f.binade := by
      rw [Nat.add_comm, Nat.add_mul_mod_self_right, Nat.mod_eq_sub_mod hm, Nat.mod_eq_of_lt (by omega)]
    rw [hd, hmod]
    congr 1
    omega
end Go.Ax

/- spec.l01Float: the float with a place. -/
namespace Go.Ax
open Go Go.Proofs Ieee

theorem d_least : double.leastPlace = -1074 := by decide
theorem s_least : single.leastPlace = -149 := by decide
theorem d_frac : double.fractionBits = 52 := rfl
theorem s_frac : single.fractionBits = 23 := rfl
theorem d_bin : double.binade = 4503599627370496 := rfl
theorem s_bin : single.binade = 8388608 := rfl
theorem d_inf : double.infRung = 9218868437227405312 := rfl
theorem s_inf : single.infRung = 2139095040 := rfl

/-- A whole number of at most 53 digits, as a float64. -/
theorem near_int (n s : Nat) (h0 : 4503599627370496 ≤ n * 2 ^ s) (h1 : n * 2 ^ s < 9007199254740992) (hs : s ≤ 52) : FloatKind.f64.nearest (n : Int) = canon double false (n * 2 ^ s) (1074 - s) := by
  have e : FloatKind.f64.nearest (n : Int) = double.nearest false n 0 := by
    unfold FloatKind.nearest FloatKind.encode
    have : decide ((n : Int) < 0) = false := by simp
    rw [this]; rfl
  rw [e]
  refine nearest_up double false n s (1074 - s) 0 h0 h1 (by rw [d_least]; omega) ?_
  rw [d_bin, d_inf]
  have : (1074 - s) * 4503599627370496 ≤ 1074 * 4503599627370496 := Nat.mul_le_mul_right _ (by omega)
  exact Nat.le_trans (Nat.add_le_add this (Nat.le_of_lt h1)) (by decide)
theorem pow2_canon (k : Int) (h : -1022 ≤ k) : pow2 k = canon double false (4503599627370496) (k + 1022).toNat := by
  unfold pow2 canon Format.word
  rw [d_bin]
  simp only [Bool.false_eq_true, if_false]
  omega
/-- A number times a power of two. -/
theorem mul_pow2 (m r : Nat) (k : Int) (h0 : 4503599627370496 ≤ m) (h1 : m < 9007199254740992) (hr : r ≤ 2000) (hk : -1022 ≤ k) (hk' : k ≤ 900) (hrk : 0 ≤ r + k) (hrk' : r + k ≤ 2000) :
    fmul .f64 (canon double false m r) (pow2 k) = canon double false m (r + k).toNat := by
  rw [pow2_canon k hk]
  have e1 : double.read (canon double false m r) = .number false m (double.leastPlace + r) := by
    refine read_canon double false m r h1 (.inr h0) ?_
    rw [d_bin, d_inf]
    have : r * 4503599627370496 ≤ 2000 * 4503599627370496 := Nat.mul_le_mul_right _ hr
    omega
  have e2 : double.read (canon double false (4503599627370496) (k + 1022).toNat) = .number false (4503599627370496) (double.leastPlace + ((k + 1022).toNat : Nat)) := by
    refine read_canon double false _ _ (by decide) (.inr (Nat.le_refl _)) ?_
    rw [d_bin, d_inf]
    have : (k + 1022).toNat * 4503599627370496 ≤ 1922 * 4503599627370496 := Nat.mul_le_mul_right _ (by omega)
    omega
  have e3 : double.mul (canon double false m r) (canon double false (4503599627370496) (k + 1022).toNat) = some (double.nearest false (m * 4503599627370496) (double.leastPlace + r + (double.leastPlace + ((k + 1022).toNat : Nat)))) := by
    unfold Format.mul
    rw [e1, e2]
    rfl
  have e4 := nearest_down double false m 52 (r + k).toNat (double.leastPlace + r + (double.leastPlace + ((k + 1022).toNat : Nat))) h0 h1 (by rw [d_least]; omega) (by
    rw [d_bin, d_inf]
    have : (r + k).toNat * 4503599627370496 ≤ 2000 * 4503599627370496 := Nat.mul_le_mul_right _ (by omega)
    exact Nat.le_trans (Nat.add_le_add this (Nat.le_of_lt h1)) (by decide))
  show (double.mul _ _).getD _ = _
  rw [e3, e4]
  rfl

theorem shift_of (n : Nat) (h : 0 < n) (h1 : n < 9007199254740992) : ∃ s, s ≤ 52 ∧ 4503599627370496 ≤ n * 2 ^ s ∧ n * 2 ^ s < 9007199254740992 := by
  have hn : n ≠ 0 := by omega
  have hl : n.log2 < 53 := (Nat.log2_lt hn).2 (by rw [show 2 ^ 53 = 9007199254740992 from rfl]; exact h1)
  refine ⟨52 - n.log2, by omega, ?_, ?_⟩
  · have e : 4503599627370496 = 2 ^ n.log2 * 2 ^ (52 - n.log2) := by
      rw [← Nat.pow_add, show n.log2 + (52 - n.log2) = 52 by omega]
    calc 4503599627370496 = 2 ^ n.log2 * 2 ^ (52 - n.log2) := e
      _ ≤ n * 2 ^ (52 - n.log2) := Nat.mul_le_mul_right _ (Nat.log2_self_le hn)
  · have e : 2 ^ (n.log2 + 1) * 2 ^ (52 - n.log2) = 9007199254740992 := by
      rw [← Nat.pow_add, show n.log2 + 1 + (52 - n.log2) = 53 by omega]
    calc n * 2 ^ (52 - n.log2) < 2 ^ (n.log2 + 1) * 2 ^ (52 - n.log2) := Nat.mul_lt_mul_of_pos_right Nat.lt_log2_self (Nat.two_pow_pos _)
      _ = 9007199254740992 := e

/-- A float of 24 digits by a whole number times a power of two. -/
theorem place_float (n : Nat) (k : Int) (hn : 0 < n) (h1 : n < 16777216) (hk : -149 ≤ k) (hk' : k ≤ 104) (hs : k = -149 ∨ 8388608 ≤ n) :
    fcvt .f64 .f32 (fmul .f64 (FloatKind.f64.nearest (n : Int)) (pow2 k)) = (k + 149).toNat * 8388608 + n ∧ fcvtOK .f64 .f32 (fmul .f64 (FloatKind.f64.nearest (n : Int)) (pow2 k)) = true := by
  obtain ⟨s, hs1, hs2, hs3⟩ := shift_of n hn (by omega)
  have hs' : s ≤ 1074 := by omega
  rw [near_int n s hs2 hs3 hs1, mul_pow2 (n * 2 ^ s) (1074 - s) k hs2 hs3 (by omega) (by omega) (by omega) (by omega) (by omega)]
  have e1 : double.read (canon double false (n * 2 ^ s) (((1074 - s : Nat) : Int) + k).toNat) = .number false (n * 2 ^ s) (double.leastPlace + ((((1074 - s : Nat) : Int) + k).toNat : Nat)) := by
    refine read_canon double false _ _ hs3 (.inr hs2) ?_
    rw [d_bin, d_inf]
    have : (((1074 - s : Nat) : Int) + k).toNat * 4503599627370496 ≤ 1200 * 4503599627370496 := Nat.mul_le_mul_right _ (by omega)
    omega
  have e2 : single.nearest false (n * 2 ^ s) (double.leastPlace + ((((1074 - s : Nat) : Int) + k).toNat : Nat)) = canon single false n (k + 149).toNat := by
    rcases hs with h | h
    · subst h
      exact nearest_sub single false n s _ (by rw [s_frac]; omega) (by rw [d_least, s_least]; omega) (by rw [s_inf]; omega)
    · refine nearest_down single false n s (k + 149).toNat _ (by rw [s_frac]; exact h) (by rw [s_frac]; omega) (by rw [d_least, s_least]; omega) ?_
      rw [s_bin, s_inf]
      have : (k + 149).toNat * 8388608 ≤ 253 * 8388608 := Nat.mul_le_mul_right _ (by omega)
      exact Nat.le_trans (Nat.add_le_add this (Nat.le_of_lt h1)) (by decide)
  have e3 : single.read (canon single false n (k + 149).toNat) = .number false n (single.leastPlace + ((k + 149).toNat : Nat)) := by
    refine read_canon single false n _ (by rw [s_frac]; omega) ?_ ?_
    · rcases hs with h | h
      · left; omega
      · right; rw [s_frac]; exact h
    · rw [s_bin, s_inf]
      have : (k + 149).toNat * 8388608 ≤ 253 * 8388608 := Nat.mul_le_mul_right _ (by omega)
      omega
  have e4 : FloatKind.f64.decode (canon double false (n * 2 ^ s) (((1074 - s : Nat) : Int) + k).toNat) = .number false (n * 2 ^ s) (double.leastPlace + ((((1074 - s : Nat) : Int) + k).toNat : Nat)) := e1
  have e5 : FloatKind.f32.encode (.number false (n * 2 ^ s) (double.leastPlace + ((((1074 - s : Nat) : Int) + k).toNat : Nat))) = canon single false n (k + 149).toNat := e2
  have e6 : FloatKind.f32.decode (canon single false n (k + 149).toNat) = .number false n (single.leastPlace + ((k + 149).toNat : Nat)) := e3
  constructor
  · unfold fcvt
    rw [if_neg (by decide), e4]
    dsimp only
    rw [e5]
    unfold canon Format.word
    rw [s_bin]
    simp
  · unfold fcvtOK
    rw [if_neg (by decide), e4]
    dsimp only
    rw [e5, e6]
    rfl
end Go.Ax

/- spec.l01Float: the float with a place (its call). -/
namespace Go.Ax
open Go Go.Proofs

def withN1 (v : AV) : Option (List Bool) → Option (AV × List Bool)
  | some n => some (v, n)
  | none => none
theorem withN1_some {v v' : AV} {o : Option (List Bool)} {n : List Bool} (h : withN1 v o = some (v', n)) : v = v' ∧ o = some n := by
  cases o <;> simp [withN1] at h
  exact ⟨h.1, by rw [h.2]⟩
noncomputable def gTwo : List AV → Option (AV × List Bool)
  | [.i l .i64 k] => withN1 (.f l .f64 (pow2 k)) (chk l (decide (-160 ≤ k) && decide (k ≤ 130)))
  | _ => none
theorem two_at : SoundAt Tryd.prog 69 (pureT gTwo) := fun args H nd K => by
  refine pureT_sound (fun args v n h hn H => ?_) args H nd K
  unfold gTwo at h
  split at h <;> (try (cases h; done))
  rename_i l k
  obtain ⟨rfl, hc⟩ := withN1_some h
  have hn := chk_spec hc hn
  simp only [Bool.and_eq_true, decide_eq_true_eq] at hn
  exact ((two_ok k hn.1 hn.2 H).bare (args' := [.i l .i64 k]) rfl).weaken fun σ x r => (by cases r with | f hr => exact .f hr)
/-- The float with a place. -/
noncomputable def fltOf (k : Int) : Nat := if k < 0 then 2147483648 + (-k).toNat else k.toNat
noncomputable def tF1 : Table := look [(69, pureT gTwo)] noT
theorem tF1_sound : SoundT Tryd.prog tF1 := look_sound (noT_sound _) fun p hp => by
  simp only [List.mem_cons, List.not_mem_nil, or_false] at hp
  subst hp; exact two_at

noncomputable def fltE (k : Int) : Int := IntKind.i64.wrap (IntKind.i64.wrap (k.fdiv (2 ^ min (Int.toNat 23) IntKind.i64.bits) - 127) - 23)
noncomputable def fltRes (r : Res) (k : Int) : Res := Res.ite (decide (k < 0)) r
  (Res.ite (decide (k < 8388608))
    (Res.ret (AV.f false FloatKind.f32 (fcvt FloatKind.f64 FloatKind.f32 (fmul FloatKind.f64 (FloatKind.f64.nearest k) (pow2 (-149))))) [] [fcvtOK FloatKind.f64 FloatKind.f32 (fmul FloatKind.f64 (FloatKind.f64.nearest k) (pow2 (-149)))])
    (Res.ret (AV.f false FloatKind.f32 (fcvt FloatKind.f64 FloatKind.f32 (fmul FloatKind.f64 (FloatKind.f64.nearest (IntKind.i64.wrap (k.tmod 8388608 + 8388608))) (pow2 (fltE k))))) []
      [fcvtOK FloatKind.f64 FloatKind.f32 (fmul FloatKind.f64 (FloatKind.f64.nearest (IntKind.i64.wrap (k.tmod 8388608 + 8388608))) (pow2 (fltE k))),
        decide (-160 ≤ fltE k) && decide (fltE k ≤ 130)]))
theorem flt_run1 (k : Int) : runF Tryd.prog tF1 100 57 [.i false .i64 k] [] [] (fun v H nd => .ret v H nd) = fltRes .fail k := by kernel_rfl

theorem flt_zero : fcvt .f64 .f32 (fmul .f64 (FloatKind.f64.nearest 0) (pow2 (-149))) = 0 ∧ fcvtOK .f64 .f32 (fmul .f64 (FloatKind.f64.nearest 0) (pow2 (-149))) = true := by
  constructor <;> kernel_rfl
theorem flt_pos (k : Int) (h0 : 0 ≤ k) (h1 : k ≤ 2139095039) (H : List AB) : CallOK Tryd.prog 57 [.i false .i64 k] H (.f false .f32 (fltOf k)) H := by
  have hS := runF_sound tF1_sound 100
  have hr := flt_run1 k
  have hn : ¬ k < 0 := by omega
  have hv : fltOf k = k.toNat := by unfold fltOf; rw [if_neg hn]
  rw [hv]
  by_cases hs : k < 8388608
  · have key : fcvt .f64 .f32 (fmul .f64 (FloatKind.f64.nearest k) (pow2 (-149))) = k.toNat ∧ fcvtOK .f64 .f32 (fmul .f64 (FloatKind.f64.nearest k) (pow2 (-149))) = true := by
      by_cases hz : k = 0
      · subst hz; exact flt_zero
      · have := place_float k.toNat (-149) (by omega) (by omega) (by omega) (by omega) (.inl rfl)
        rw [Int.toNat_of_nonneg h0] at this
        simpa using this
    refine (call_of_sel (T := runF Tryd.prog tF1 100) (H' := []) hS (v := .f false .f32 k.toNat) (nd := [fcvtOK FloatKind.f64 FloatKind.f32 (fmul FloatKind.f64 (FloatKind.f64.nearest k) (pow2 (-149)))]) ?_ ?_).lift rfl rfl H rfl
    · rw [hr]; simp only [fltRes, Res.sel, hn, hs, decide_false, decide_true, Bool.false_eq_true, if_false, if_true, key.1]
    · simp only [allT, key.2]; rfl
  · have hq : k.fdiv (2 ^ min (Int.toNat 23) IntKind.i64.bits) = k / 8388608 := by
      rw [Int.fdiv_eq_ediv_of_nonneg _ (by decide)]
      rfl
    have hm : k.tmod 8388608 = k % 8388608 := Int.tmod_eq_emod_of_nonneg h0
    have hE : fltE k = k / 8388608 - 150 := by
      unfold fltE
      rw [hq, wrap64_id (n := k / 8388608 - 127) (by omega) (by omega), wrap64_id (by omega) (by omega)]
      omega
    have hM : IntKind.i64.wrap (k.tmod 8388608 + 8388608) = ((k % 8388608 + 8388608).toNat : Nat) := by
      rw [hm, wrap64_id (by omega) (by omega)]
      omega
    have key := place_float (k % 8388608 + 8388608).toNat (k / 8388608 - 150) (by omega) (by omega) (by omega) (by omega) (.inr (by omega))
    have hval : (k / 8388608 - 150 + 149).toNat * 8388608 + (k % 8388608 + 8388608).toNat = k.toNat := by omega
    rw [hval] at key
    refine (call_of_sel (T := runF Tryd.prog tF1 100) (H' := []) hS (v := .f false .f32 k.toNat) (nd := [fcvtOK FloatKind.f64 FloatKind.f32 (fmul FloatKind.f64 (FloatKind.f64.nearest (IntKind.i64.wrap (k.tmod 8388608 + 8388608))) (pow2 (fltE k))),
        decide (-160 ≤ fltE k) && decide (fltE k ≤ 130)]) ?_ ?_).lift rfl rfl H rfl
    · rw [hr]; simp only [fltRes, Res.sel, hn, hs, decide_false, Bool.false_eq_true, if_false, hE, hM, key.1]
    · rw [hE, hM, key.2]
      simp [allT]
      omega

noncomputable def gFlt : List AV → Option (AV × List Bool)
  | [.i l .i64 k] => withN1 (.f l .f32 (fltOf k)) (chk l (decide (0 ≤ k) && decide (k ≤ 2139095039)))
  | _ => none
theorem flt_at : SoundAt Tryd.prog 57 (pureT gFlt) := fun args H nd K => by
  refine pureT_sound (fun args v n h hn H => ?_) args H nd K
  unfold gFlt at h
  split at h <;> (try (cases h; done))
  rename_i l k
  obtain ⟨rfl, hc⟩ := withN1_some h
  have hn := chk_spec hc hn
  simp only [Bool.and_eq_true, decide_eq_true_eq] at hn
  exact ((flt_pos k hn.1 hn.2 H).bare (args' := [.i l .i64 k]) rfl).weaken fun σ x r => (by cases r with | f hr => exact .f hr)
noncomputable def tF2 : Table := look [(57, pureT gFlt), (69, pureT gTwo)] noT
theorem tF2_sound : SoundT Tryd.prog tF2 := look_sound (noT_sound _) fun p hp => by
  simp only [List.mem_cons, List.not_mem_nil, or_false] at hp
  rcases hp with rfl | rfl
  · exact flt_at
  · exact two_at
theorem neg_word (m : Nat) (h : m < 2147483648) : fneg .f32 m = 2147483648 + m := by
  show m ^^^ 2 ^ 31 = 2 ^ 31 + m
  have h' : m < 2 ^ 31 := h
  have e := Nat.two_pow_add_eq_or_of_lt h' 1
  rw [Nat.mul_one] at e
  rw [e]
  refine Nat.eq_of_testBit_eq fun i => ?_
  rw [Nat.testBit_xor, Nat.testBit_or, Nat.testBit_two_pow]
  by_cases hi : 31 = i
  · subst hi
    rw [Nat.testBit_lt_two_pow h']; simp
  · simp [hi]
noncomputable def fltNeg (k : Int) : Res := Res.ret (AV.f false .f32 (fneg .f32 (fltOf (IntKind.i64.wrap (0 - k))))) [] [decide (0 ≤ IntKind.i64.wrap (0 - k)) && decide (IntKind.i64.wrap (0 - k) ≤ 2139095039)]
theorem flt_run2 (k : Int) : runF Tryd.prog tF2 100 57 [.i false .i64 k] [] [] (fun v H nd => .ret v H nd) = fltRes (fltNeg k) k := by kernel_rfl
theorem flt_ok (k : Int) (h0 : -2139095039 ≤ k) (h1 : k ≤ 2139095039) (H : List AB) : CallOK Tryd.prog 57 [.i false .i64 k] H (.f false .f32 (fltOf k)) H := by
  by_cases hk : 0 ≤ k
  · exact flt_pos k hk h1 H
  · have hn : k < 0 := by omega
    have hS := runF_sound tF2_sound 100
    have hr := flt_run2 k
    have hw : IntKind.i64.wrap (0 - k) = -k := by rw [wrap64_id (by omega) (by omega)]; omega
    have hneg : fneg .f32 (fltOf (-k)) = fltOf k := by
      unfold fltOf
      rw [if_pos hn, if_neg (by omega)]
      have hb : (-k).toNat < 2147483648 := by omega
      generalize (-k).toNat = m at hb
      exact neg_word m hb
    refine (call_of_sel (T := runF Tryd.prog tF2 100) (H' := []) hS (v := .f false .f32 (fltOf k)) (nd := [decide (0 ≤ -k) && decide (-k ≤ 2139095039)]) ?_ ?_).lift rfl rfl H rfl
    · rw [hr]; simp only [fltRes, fltNeg, Res.sel, hn, decide_true, if_true, hw, hneg]
    · simp [allT]; omega
noncomputable def gFloat : List AV → Option (AV × List Bool)
  | [.i l .i64 k] => withN1 (.f l .f32 (fltOf k)) (chk l (decide (-2139095039 ≤ k) && decide (k ≤ 2139095039)))
  | _ => none
theorem float_at : SoundAt Tryd.prog 57 (pureT gFloat) := fun args H nd K => by
  refine pureT_sound (fun args v n h hn H => ?_) args H nd K
  unfold gFloat at h
  split at h <;> (try (cases h; done))
  rename_i l k
  obtain ⟨rfl, hc⟩ := withN1_some h
  have hn := chk_spec hc hn
  simp only [Bool.and_eq_true, decide_eq_true_eq] at hn
  exact ((flt_ok k hn.1 hn.2 H).bare (args' := [.i l .i64 k]) rfl).weaken fun σ x r => (by cases r with | f hr => exact .f hr)
end Go.Ax

/- A function cut at a place: where to stop, and what of memory is kept. -/
namespace Go.Ax
open Go Go.Proofs

def seqLen : Code → Nat
  | .seq _ b => seqLen b + 1
  | _ => 0
/-- Where so many statements are left. -/
def atCut (m : Nat) : List Item → Bool
  | .code c :: [] => Nat.beq (seqLen c) m
  | _ => false
def dropSeq : Nat → Code → Code
  | 0, c => c
  | n + 1, .seq _ b => dropSeq n b
  | _ + 1, c => c
def belowB (n : Nat) : AB → Bool
  | .cells _ (.lit l) => belowL n l
  | _ => true
def belowH (n : Nat) : List AB → Bool
  | [] => true
  | B :: H => belowB n B && belowH n H
theorem renI_lt {k i : Nat} (h : i < k) : renI k i = some i := by
  unfold renI
  rw [decide_eq_true h]
mutual
theorem renV_lt {n k : Nat} (hk : n ≤ k) : ∀ {a : AV}, below n a = true → renV k a = a
  | .p l id off, h => by
    have h : id < n := by simpa [below] using h
    simp only [renV, renI_lt (Nat.lt_of_lt_of_le h hk)]
  | .sl l id off len z, h => by
    have h : id < n := by simpa [below] using h
    simp only [renV, renI_lt (Nat.lt_of_lt_of_le h hk)]
  | .fn g f c, h => by
    simp only [below, Bool.and_eq_true] at h
    simp only [renV, renL_lt hk h.1, renL_lt hk h.2]
  | .ifc t v, h => by
    simp only [below] at h
    simp only [renV, renV_lt hk h]
  | .agg l, h => by
    simp only [below] at h
    simp only [renV, renL_lt hk h]
  | .tup l, h => by
    simp only [below] at h
    simp only [renV, renL_lt hk h]
  | .b _ _, _ => rfl
  | .i _ _ _, _ => rfl
  | .f _ _ _, _ => rfl
  | .c _ _ _ _, _ => rfl
  | .s _ _, _ => rfl
  | .pnil, _ => rfl
  | .slnil, _ => rfl
  | .sle, _ => rfl
  | .fnil, _ => rfl
  | .inil, _ => rfl
  | .any, _ => rfl
theorem renL_lt {n k : Nat} (hk : n ≤ k) : ∀ {l : List AV}, belowL n l = true → renL k l = l
  | [], _ => rfl
  | a :: l, h => by
    simp only [belowL, Bool.and_eq_true] at h
    simp only [renL, renV_lt hk h.1, renL_lt hk h.2]
end
theorem renB_lt {n k : Nat} (hk : n ≤ k) {B : AB} (h : belowB n B = true) : renB k B = B := by
  cases B with
  | cells r A =>
    cases A with
    | lit l => simp only [renB, renL_lt hk (show belowL n l = true from h)]
    | _ => rfl
  | _ => rfl
theorem dropB_snoc {n k0 : Nat} (hk : n ≤ k0) : ∀ {H : List AB} {B : AB}, belowH n H = true → dropB k0 H.length (H ++ [B]) = H
  | [], _, _ => rfl
  | A :: H, B, h => by
    simp only [belowH, Bool.and_eq_true] at h
    simp only [List.cons_append, List.length_cons, dropB, renB_lt hk h.1, dropB_snoc hk h.2]
theorem belowH_append {n : Nat} : ∀ {H G : List AB}, belowH n (H ++ G) = (belowH n H && belowH n G)
  | [], _ => rfl
  | B :: H, G => by simp only [List.cons_append, belowH, belowH_append (H := H), Bool.and_assoc]
section
variable {P : Program}
/-- The last block, which nothing names, is let go. -/
theorem Reach.last {todo todo' : List Item} {t t1 : List AV} {H H1 : List AB} {B : AB} (h : Reach P todo t H todo' t1 (H1 ++ [B])) (hl : H.length ≤ H1.length) (ht : belowL H1.length t1 = true) (hB : belowH H1.length H1 = true) : Reach P todo t H todo' t1 H1 := by
  have k := h.drop H1.length hl (by simp)
  rwa [renL_lt (Nat.le_refl _) ht, dropB_snoc (Nat.le_refl _) hB] at k
mutual
theorem below_mono {n m : Nat} (hnm : n ≤ m) : ∀ {a : AV}, below n a = true → below m a = true
  | .p l id off, h => by simp [below] at h ⊢; omega
  | .sl l id off len z, h => by simp [below] at h ⊢; omega
  | .fn g f c, h => by
    simp only [below, Bool.and_eq_true] at h ⊢
    exact ⟨belowL_mono hnm h.1, belowL_mono hnm h.2⟩
  | .ifc t v, h => by
    simp only [below] at h ⊢
    exact below_mono hnm h
  | .agg l, h => by
    simp only [below] at h ⊢
    exact belowL_mono hnm h
  | .tup l, h => by
    simp only [below] at h ⊢
    exact belowL_mono hnm h
  | .b _ _, _ => rfl
  | .i _ _ _, _ => rfl
  | .f _ _ _, _ => rfl
  | .c _ _ _ _, _ => rfl
  | .s _ _, _ => rfl
  | .pnil, _ => rfl
  | .slnil, _ => rfl
  | .sle, _ => rfl
  | .fnil, _ => rfl
  | .inil, _ => rfl
  | .any, _ => rfl
theorem belowL_mono {n m : Nat} (hnm : n ≤ m) : ∀ {l : List AV}, belowL n l = true → belowL m l = true
  | [], _ => rfl
  | a :: l, h => by
    simp only [belowL, Bool.and_eq_true] at h ⊢
    exact ⟨below_mono hnm h.1, belowL_mono hnm h.2⟩
end
theorem belowH_mono {n m : Nat} (hnm : n ≤ m) : ∀ {H : List AB}, belowH n H = true → belowH m H = true
  | [], _ => rfl
  | B :: H, h => by
    simp only [belowH, Bool.and_eq_true] at h ⊢
    refine ⟨?_, belowH_mono hnm h.2⟩
    cases B with
    | cells r A =>
      cases A with
      | lit l => exact belowL_mono hnm h.1
      | _ => rfl
    | _ => rfl
/-- A block out of use: whatever it holds. -/
theorem Reach.dead {todo todo' : List Item} {t t1 : List AV} {H H1 : List AB} {B : AB} {G : List AB} (h : Reach P todo t H todo' t1 (H1 ++ B :: G)) (hl : H.length ≤ H1.length) : Reach P todo t H todo' t1 (H1 ++ .dead :: G) := fun σ w a b cs s r => by
  obtain ⟨a', w', σ', e1, r1, d1, s1, f1⟩ := h σ w a b cs s r
  have hg : ∀ i, i ≠ H1.length → getB (H1 ++ .dead :: G) i = getB (H1 ++ B :: G) i := fun i hi => by
    rcases Nat.lt_or_ge i H1.length with h | h
    · rw [getB_append_left h, getB_append_left h]
    · rw [getB_append_right h, getB_append_right h]
      match hd : i - H1.length with
      | 0 => omega
      | k + 1 => rfl
  have hd : getB (H1 ++ .dead :: G) H1.length = .dead := by
    rw [getB_append_right (Nat.le_refl _), Nat.sub_self]; rfl
  refine ⟨a', w', σ', e1, r1, d1, ⟨by rw [s1.len]; simp, fun i b z hb => ?_, fun i j b z z' hi hj hr hl' => ?_, s1.base.rw' (fun i hr => by
    by_cases hi : i = H1.length
    · subst hi; rw [hd] at hr; cases hr
    · rw [hg i hi] at hr; exact hr)⟩, ⟨f1.os, f1.tape, f1.output, f1.size, f1.old, f1.ext, f1.new, fun i hi hr => ?_⟩⟩
  · by_cases hi : i = H1.length
    · subst hi; rw [hd]; trivial
    · rw [hg i hi]; exact s1.blk i b z hb
  · by_cases hi' : i = H1.length
    · subst hi'; rw [hd] at hr; cases hr
    · by_cases hj' : j = H1.length
      · subst hj'; rw [hd] at hl'; cases hl'
      · rw [hg i hi'] at hr
        rw [hg j hj'] at hl'
        exact s1.inj i j b z z' hi hj hr hl'
  · have hl0 := s.len
    rw [hg i (by omega)] at hr
    exact f1.mono i hi hr
theorem Reach.deadAll {todo todo' : List Item} {t t1 : List AV} {H : List AB} : ∀ {G H1 : List AB}, Reach P todo t H todo' t1 (H1 ++ G) → H.length ≤ H1.length → Reach P todo t H todo' t1 (H1 ++ List.replicate G.length .dead)
  | [], _, h, _ => h
  | B :: G, H1, h, hl => by
    have h1 := h.dead hl
    have e : H1 ++ AB.dead :: G = (H1 ++ [AB.dead]) ++ G := by simp
    rw [e] at h1
    have h2 := Reach.deadAll h1 (by simp; omega)
    have e2 : H1 ++ [AB.dead] ++ List.replicate G.length AB.dead = H1 ++ List.replicate (B :: G).length AB.dead := by simp [List.replicate_succ]
    rwa [e2] at h2
theorem belowH_dead (n : Nat) : ∀ m, belowH n (List.replicate m .dead) = true
  | 0 => rfl
  | m + 1 => by simp only [List.replicate_succ, belowH, belowH_dead n m]; rfl
theorem Reach.dropAll {todo todo' : List Item} {t t1 : List AV} {H H1 : List AB} (hl : H.length ≤ H1.length) (ht : belowL H1.length t1 = true) (hB : belowH H1.length H1 = true) : ∀ {m : Nat}, Reach P todo t H todo' t1 (H1 ++ List.replicate m .dead) → Reach P todo t H todo' t1 H1
  | 0, h => by rwa [List.replicate_zero, List.append_nil] at h
  | m + 1, h => by
    rw [List.replicate_succ', ← List.append_assoc] at h
    have hm : H1.length ≤ (H1 ++ List.replicate m AB.dead).length := by simp
    exact Reach.dropAll hl ht hB (h.last (by omega) (belowL_mono hm ht) (by rw [belowH_append, belowH_mono hm hB, belowH_dead]; rfl))
/-- Only the first blocks are kept. -/
theorem Reach.keep {todo todo' : List Item} {t t1 : List AV} {H H1 G : List AB} (h : Reach P todo t H todo' t1 (H1 ++ G)) (hl : H.length ≤ H1.length) (ht : belowL H1.length t1 = true) (hB : belowH H1.length H1 = true) : Reach P todo t H todo' t1 H1 :=
  Reach.dropAll hl ht hB (h.deadAll hl)
end
end Go.Ax
