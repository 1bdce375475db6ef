/- append to a slice that begins inside its block: in place, or into a new array. -/
import Derived.Test.YtaboeibkmknocaaDoorAaf
import Derived.Test.YtaboeibkmknocaaDoorAag
import Derived.Lib.ConvBytes
import Derived.Laws.BytesString
import Derived.Laws.AppendOwn
import Derived.WalkKit
import Derived.Handy
namespace Go.Ax
open Go

/-- Both ends of such an append: value and memory, twice, and what is to be shown. -/
def aAppO (P : Program) (ts : Array TypeId) (args : List AV) (H : List AB) : Option ((AV × List AB) × (AV × List AB) × List Bool) :=
  match ts[0]?, ts[1]?, args with
  | some t, some t', [.sl _ id off m z, x] =>
    match P.underlying t, P.underlying t' with
    | some (.slice e), some (.slice _) =>
      match P.info? e with
      | some i =>
        match zeroFits P e i.size && decide (0 < i.bytes) && decide (0 < i.size), sliceCells H i.size x, getB H id with
        | true, some (_, B, n, nb), .cells true A =>
          match B.okAll && !(slId x == some id) with
          | false => none
          | true => some ((.sl false H.length off (m + n) i.size, setB H id .dead ++ [.cells true (A.app (fitB P e A B))]),
              (.sl false H.length 0 (m + n) i.size, setB H id .dead ++ [.cells true ((A.sub off (m * i.size)).app (fitB P e A B))]),
              (decide (z = i.size) && decide (off + m * i.size = A.len) && decide ((2 * (m + n) + 1024) * i.bytes ≤ 2 ^ 48)) :: nb)
        | _, _, _ => none
      | none => none
    | _, _ => none
  | _, _, _ => none

section
variable {P : Program} {w : World} {σ : List (Nat × Nat)} {H : List AB}
theorem appO_out {ts : Array TypeId} {ty : TypeId} {args : List AV} {rargs : Array Value} {x1 x2 : AV × List AB} {nd : List Bool} (h : aAppO P ts args H = some (x1, x2, nd)) (hnd : allT nd = true) (s : Sim σ H w) (hr : RelL σ args rargs.toList) :
    ∃ rv w', (Builtin.append_ ts ty rargs).run P w = .ok rv w' ∧ (Out σ H w x1.1 x1.2 rv w' ∨ Out σ H w x2.1 x2.2 rv w') := by
  unfold aAppO at h
  split at h <;> try (cases h; done)
  rename_i t t' l id off m zz x ht ht'
  obtain ⟨rs, rx, hra, hs, hx⟩ := relL_two hr
  have hra' : rargs = #[rs, rx] := by rw [← Array.toArray_toList (xs := rargs), hra]
  subst hra'
  split at h <;> try (cases h; done)
  rename_i e e' hu hu'
  split at h <;> try (cases h; done)
  rename_i i hi
  split at h <;> try (cases h; done)
  rename_i lx B n nb A hfit hsc hg
  split at h <;> try (cases h; done)
  rename_i hokne
  simp only [Option.some.injEq, Prod.mk.injEq] at h
  obtain ⟨rfl, rfl, rfl⟩ := h
  simp only [Bool.and_eq_true, decide_eq_true_eq] at hfit hokne
  obtain ⟨⟨hfit, hbytes⟩, hsize0⟩ := hfit
  obtain ⟨hokall, _⟩ := hokne
  obtain ⟨z, hz, hzs⟩ : ∃ z, zeroA P e = some z ∧ (cellsA z).length = i.size := by
    unfold zeroFits at hfit
    cases hz : zeroA P e with
    | none => rw [hz] at hfit; cases hfit
    | some z => rw [hz] at hfit; exact ⟨z, rfl, by simpa using hfit⟩
  simp only [allT, Bool.and_eq_true, decide_eq_true_eq] at hnd
  obtain ⟨⟨⟨hzz, hmA⟩, hroom⟩, hnb⟩ := hnd
  cases hs with
  | slz => omega
  | sl hid hcap hz' =>
  subst hzz
  rename_i cap b c
  have hidl : id < H.length := by rw [← s.len]; exact isSome_lt hid
  obtain ⟨cs, hc1, hc2, hc3, hc4⟩ := slice_read (P := P) hsc hnb s hx
  have hf : RelL σ (fitB P e A B).toL cs := fitB_rel hc2
  generalize fitB P e A B = B1 at hf ⊢
  by_cases hle : m + n ≤ cap
  · have h0 := s.blk id b c hid
    rw [hg] at h0
    obtain ⟨cc, e0, fr, hw, hA, hcs, hfr⟩ := h0
    have hroom2 : off + m * i.size + n * i.size ≤ cc.size := by
      rw [hcs, Nat.add_assoc, ← Nat.add_mul]
      have : (m + n) * i.size ≤ cap * i.size := Nat.mul_le_mul_right _ hle
      omega
    obtain ⟨w', c', k1, k2, k3, k4, k5, k6, k7, k8, k9, k10⟩ := storeCells_raw (P := P) (hfr rfl) (vs := cs) (off + m * i.size) 0 hw (okAll_spec hokall hc2) (by omega)
    have hrun := append_place (P := P) (ty := ty) (off := off) (m := m) (cap := cap) ht ht' hu hu' hi hc4 (hc1 w rfl) hle k1
    have hrelA : RelA σ (A.app B1).toL c' := by
      rw [app_toL]
      intro j a ha
      rcases Nat.lt_or_ge j A.toL.length with hj | hj
      · rw [List.getElem?_append_left hj] at ha
        obtain ⟨y, hy, hry⟩ := hA j a ha
        rw [Cells.len_eq] at hj
        exact ⟨y, by rw [k9 j (by omega)]; exact hy, hry⟩
      · rw [List.getElem?_append_right hj] at ha
        obtain ⟨y, hy, hry⟩ := hf.get ha
        rw [Cells.len_eq] at hj hy
        have hjl : j - A.len < cs.length := by
          rcases Nat.lt_or_ge (j - A.len) cs.length with h' | h'
          · exact h'
          · rw [List.getElem?_eq_none h'] at hy; cases hy
        have := k10 (j - A.len) hjl
        rw [show off + m * i.size + 0 + (j - A.len) = j by omega] at this
        exact ⟨y, by rw [this]; exact hy, hry⟩
    have hgN : ∀ q, getB (setB H id .dead ++ [.cells true (A.app B1)]) q = if q = H.length then .cells true (A.app B1) else if q = id then .dead else getB H q := by
      intro q
      by_cases hq : q = H.length
      · rw [if_pos hq, hq, getB_append_right (by rw [setB_length]; exact Nat.le_refl _), setB_length, Nat.sub_self]; rfl
      · rw [if_neg hq]
        rcases Nat.lt_or_ge q H.length with h' | h'
        · rw [getB_append_left (by rw [setB_length]; exact h')]
          by_cases hqi : q = id
          · rw [if_pos hqi, hqi]; exact getB_setB_same hidl
          · rw [if_neg hqi]; exact getB_setB_ne (Ne.symm hqi)
        · rw [getB_none (by simp [setB_length]; omega), if_neg (by omega), getB_none h']
    refine ⟨_, w', hrun, .inl ⟨σ ++ [(b, c)], ?_, sim_fr s (by simp [setB_length, s.len]) (fun q bq zq hq => ?_) (fun p q bq z1 z2 hp hq hrw hlive => ?_) ⟨k4, k5, k6, by omega, fun b' hb' hno => ?_, Ext.append _ _, fun q bq zq hq hn => ?_, fun q hq hrw => ?_⟩⟩⟩
    · exact .sl (b := b) (c := c) (by rw [← s.len]; simp) hle hz'
    · rw [hgN]
      rcases snoc_cases hq with ⟨hql, hq'⟩ | ⟨rfl, hq'⟩
      · rw [s.len] at hql
        rw [if_neg (by omega)]
        by_cases hqi : q = id
        · rw [if_pos hqi]; trivial
        · rw [if_neg hqi]
          have hb2 := (s.blk q bq zq hq').mono (Ext.append σ [(b, c)])
          cases hgq : getB H q with
          | dead => trivial
          | cells r C =>
            have hne' : bq ≠ b := fun e => hqi (s.inj id q b c zq hid (by rw [← e]; exact hq') (by rw [hg]; rfl) (by rw [hgq]; rfl)).symm
            rw [k8 bq hne', ← hgq]; exact hb2
          | code o0 xs0 =>
            have hne' : bq ≠ b := fun e => hqi (s.inj id q b c zq hid (by rw [← e]; exact hq') (by rw [hg]; rfl) (by rw [hgq]; rfl)).symm
            rw [k8 bq hne', ← hgq]; exact hb2
      · cases hq'
        rw [if_pos s.len]
        exact ⟨c', e0, fr, k2, hrelA.mono (Ext.append _ _), by omega, hfr⟩
    · rw [hgN] at hrw hlive
      rcases snoc_cases hp with ⟨hpl, hp'⟩ | ⟨rfl, hp'⟩ <;> rcases snoc_cases hq with ⟨hql, hq'⟩ | ⟨rfl, hq'⟩
      · rw [s.len] at hpl hql
        rw [if_neg (by omega)] at hrw hlive
        by_cases hpi : p = id
        · rw [if_pos hpi] at hrw; cases hrw
        · by_cases hqi : q = id
          · rw [if_pos hqi] at hlive; cases hlive
          · rw [if_neg hpi] at hrw; rw [if_neg hqi] at hlive
            exact s.inj p q bq z1 z2 hp' hq' hrw hlive
      · cases hq'
        rw [s.len] at hpl
        rw [if_neg (by omega)] at hrw
        by_cases hpi : p = id
        · rw [if_pos hpi] at hrw; cases hrw
        · rw [if_neg hpi] at hrw
          exact absurd (s.inj p id b z1 c hp' hid hrw (by rw [hg]; rfl)) hpi
      · cases hp'
        rw [s.len] at hql
        rw [if_neg (by omega)] at hlive
        by_cases hqi : q = id
        · rw [if_pos hqi] at hlive; cases hlive
        · rw [if_neg hqi] at hlive
          exact absurd (s.inj id q b c z2 hid hq' (by rw [hg]; rfl) hlive).symm hqi
      · rfl
    · exact k8 b' (fun e => hno id c (by rw [hg]; rfl) (by rw [hid, e]))
    · rcases snoc_cases hq with ⟨hql, hq'⟩ | ⟨rfl, hq'⟩
      · rw [hn] at hq'; cases hq'
      · cases hq'; exact .inr ⟨id, c, by rw [hg]; rfl, hid⟩
    · rw [hgN, if_neg (by rw [← s.len]; omega)] at hrw
      by_cases hqi : q = id
      · rw [if_pos hqi] at hrw; cases hrw
      · rwa [if_neg hqi] at hrw
  · have hch : ∃ nd, chk (l && A.isLit) (decide (off + m * i.size ≤ A.len)) = some nd ∧ allT nd = true := by
      rw [decide_eq_true (by omega)]
      cases (l && A.isLit)
      · exact ⟨_, rfl, rfl⟩
      · exact ⟨_, rfl, rfl⟩
    obtain ⟨nd0, hch1, hch2⟩ := hch
    have hsc0 : sliceCells H i.size (.sl l id off m i.size) = some (l, A.sub off (m * i.size), m, nd0) := by
      simp only [sliceCells, hg, hch1]
    obtain ⟨olds, hold, hol, holn, _⟩ := slice_read (P := P) hsc0 hch2 s (Rel.sl hid hcap hz')
    obtain ⟨nc, rest, g1, g2, g3⟩ := append_grow (ty := ty) (m := m) (cap := cap) ht ht' hu hu' hi hz hzs hbytes hc4 hc1 hold holn hc3 (by omega) hroom
    have sd : Sim σ (setB H id .dead) { w with drawn := w.drawn + 1 } := ((Same.drew w).sim s).kill id
    have fd : Fr σ H w σ (setB H id .dead) { w with drawn := w.drawn + 1 } := (Same.drew w).fr.trans (Fr.kill σ H _ id)
    have hrel : RelA σ ((A.sub off (m * i.size)).app B1).toL (olds.toArray ++ cs.toArray ++ rest) := by
      rw [app_toL]
      have := relA_more (rest := rest) (hol.append hf)
      simpa using this
    obtain ⟨σ', o1, o2, o3⟩ := new_out (l := false) (len := m + n) (cap := nc) (z := i.size) (e := e) sd hrel g1 (by rw [g2]; exact Nat.le_refl _)
    rw [setB_length] at o1
    exact ⟨_, _, g3, .inr ⟨σ', o1, o2, fd.trans o3⟩⟩
end

/-! ### From a place to one of several states -/
def ReachS (P : Program) (todo : List Item) (t : List AV) (H : List AB) (todo' : List Item) (S : List AV → List AB → Prop) : Prop :=
  ∀ (σ : List (Nat × Nat)) (w : World) (a : Act) (b : Frame) (cs : List Frame), Sim σ H w → RelL σ t a.tmps.toList → ∃ t' H', S t' H' ∧ ∃ a' w' σ', Steps P (lone (b.at a todo) cs w) (lone (b.at a' todo') cs w') ∧
    RelL σ' t' a'.tmps.toList ∧ a'.defers = a.defers ∧ Sim σ' H' w' ∧ Fr σ H w σ' H' w'
section
variable {P : Program} {T : Table}
theorem Reach.toS {todo todo' : List Item} {t t' : List AV} {H H' : List AB} {S : List AV → List AB → Prop} (h : Reach P todo t H todo' t' H') (hS : S t' H') : ReachS P todo t H todo' S := fun σ w a b cs s r =>
  ⟨t', H', hS, h σ w a b cs s r⟩
theorem ReachS.bind {todo todo1 todo' : List Item} {t : List AV} {H : List AB} {S1 S : List AV → List AB → Prop} (h : ReachS P todo t H todo1 S1) (k : ∀ t1 H1, S1 t1 H1 → ReachS P todo1 t1 H1 todo' S) : ReachS P todo t H todo' S := fun σ w a b cs s r =>
  let ⟨t1, H1, h1, a1, w1, σ1, e1, r1, d1, s1, f1⟩ := h σ w a b cs s r
  let ⟨t', H', h', a', w', σ', e', r', d', s', f'⟩ := k t1 H1 h1 σ1 w1 a1 b cs s1 r1
  ⟨t', H', h', a', w', σ', e1.trans e', r', d'.trans d1, s', f1.trans f'⟩
theorem ReachS.ends {todo todo1 : List Item} {t t' : List AV} {H H' : List AB} {S1 : List AV → List AB → Prop} (h : ReachS P todo t H todo1 S1) (k : ∀ t1 H1, S1 t1 H1 → Ends P todo1 t1 H1 t' H') : Ends P todo t H t' H' := fun σ w a b cs s r =>
  let ⟨t1, H1, h1, a1, w1, σ1, e1, r1, d1, s1, f1⟩ := h σ w a b cs s r
  let ⟨a', w', σ', todo', e', r', d', s', f'⟩ := k t1 H1 h1 σ1 w1 a1 b cs s1 r1
  ⟨a', w', σ', todo', e1.trans e', r', d'.trans d1, s', f1.trans f'⟩

/-- One operation, to one of several states. -/
def OpS (P : Program) (ops : Array Oper) (k : Nat) (t : List AV) (H : List AB) (S : List AV → List AB → Prop) : Prop :=
  ∀ (σ : List (Nat × Nat)) (w : World) (a : Act) (Q : Exit → Act → World → Prop) (next : Act → World → Prop), Sim σ H w → RelL σ t a.tmps.toList →
    (∀ t' H', S t' H' → ∀ a' w' σ', RelL σ' t' a'.tmps.toList → a'.defers = a.defers → Sim σ' H' w' → Fr σ H w σ' H' w' → next a' w') → wpOp P ops Q k next a w
theorem appO_op {ops : Array Oper} {k : Nat} {o : Oper} {args : Array Operand} {ts : Array TypeId} {t : List AV} {H : List AB} {x1 x2 : AV × List AB} {nd : List Bool} (ho : ops[k]? = some o) (hg : o.guard = none) (hop : o.op = .call { callee := .builtin .append, args := args, argTypes := ts })
    (hok : o.op.operands.all okOpd = true) (h : aAppO P ts (args.toList.map (evA t)) H = some (x1, x2, nd)) (hnd : allT nd = true) :
    OpS P ops k t H fun t' H' => (t' = putT t o.dst x1.1 ∧ H' = x1.2) ∨ (t' = putT t o.dst x2.1 ∧ H' = x2.2) := fun σ w a Q next s r q => by
  have hw : Region.wanted o (yielded ops a.tmps) = true := by simp [Region.wanted, hg]
  simp only [wpOp, ho, hw, if_true]
  refine .inl ?_
  have hr := opds_ok hok r
  have h1 : RelL σ (args.toList.map (evA t)) (args.map a.eval).toList := by
    rw [Array.toList_map]; exact relL_map _ fun x hx => hr x (by simp [hop, Op.operands, Call.operands]; simpa using hx)
  obtain ⟨rv, w', e1, e2⟩ := appO_out (ty := o.type) h hnd s h1
  show o.upon P a next Q ((execOp a.eval o).run P w)
  have e3 : (execOp a.eval o).run P w = .ok (.value rv) w' := by simp [execOp, hop, resolve, invoke, builtin, e1]
  rw [e3]
  rcases e2 with ⟨σ', e2, e4, e5⟩ | ⟨σ', e2, e4, e5⟩
  · exact q _ _ (.inl ⟨rfl, rfl⟩) _ _ σ' (RelL.put (RelL.mono e5.ext r) e2) (put_defers _ _ _) e4 e5
  · exact q _ _ (.inr ⟨rfl, rfl⟩) _ _ σ' (RelL.put (RelL.mono e5.ext r) e2) (put_defers _ _ _) e4 e5

/-- Some operations in the text's order, from a place in the region. -/
theorem runOps_part {ops : Array Oper} (hT : SoundT P T) (K : KT) : ∀ (l rest : List Oper) (k : Nat) (t : List AV) (H : List AB) (nd : List Bool), l ++ rest = ops.toList.drop k → k ≤ ops.size → (runOps P T ops l t H nd K).sel = .fail ∨
    ∃ t' H' nd', (runOps P T ops l t H nd K).sel = (K t' H' nd').sel ∧ (allT nd' = true → allT nd = true ∧ Chain P ops k t H (k + l.length) t' H')
  | [], _, k, t, H, nd, _, _ => .inr ⟨t, H, nd, rfl, fun h => ⟨h, .nil⟩⟩
  | o :: l, rest, k, t, H, nd, hl, hk => by
    obtain ⟨ho, hrest⟩ := drop_cons hl
    have ho' : ops[k]? = some o := by simpa using ho
    have hks : k < ops.size := (Array.getElem?_eq_some_iff.1 ho').1
    have hlen : k + (o :: l).length = k + 1 + l.length := by simp; omega
    rw [runOps, hlen]
    rcases guarded_sound (ops := ops) (o := o) (t := t) (yes := fun t => stepOp P T o t H nd fun t H nd => runOps P T ops l t H nd K)
        (no := fun t => runOps P T ops l (putT t o.dst (.tup [])) H nd K) with h | ⟨t1, he, ⟨h, hw⟩ | ⟨h, hw⟩⟩
    · exact .inl h
    · rw [h]
      rcases stepOp_sound (H := H) hT o t1 nd (fun t H nd => runOps P T ops l t H nd K) with h2 | ⟨t2, H2, nd2, h2, h3⟩
      · exact .inl h2
      rw [h2]
      rcases runOps_part hT K l rest (k + 1) t2 H2 nd2 hrest hks with h4 | ⟨t', H', nd', h4, h5⟩
      · exact .inl h4
      refine .inr ⟨t', H', nd', h4, fun hn => ?_⟩
      obtain ⟨h6, h7⟩ := h5 hn
      obtain ⟨h8, h9⟩ := h3 h6
      refine ⟨h8, .cons ?_ h7⟩
      intro σ w a Q next s r q
      simp only [wpOp, ho', hw σ a.tmps (relL_looks r o), if_true]
      exact .inl (h9 σ w a Q next s (he.relL r) q)
    · rw [h]
      rcases runOps_part hT K l rest (k + 1) (putT t1 o.dst (.tup [])) H nd hrest hks with h4 | ⟨t', H', nd', h4, h5⟩
      · exact .inl h4
      refine .inr ⟨t', H', nd', h4, fun hn => ?_⟩
      obtain ⟨h6, h7⟩ := h5 hn
      refine ⟨h6, .cons ?_ h7⟩
      intro σ w a Q next s r q
      simp only [wpOp, ho', hw σ a.tmps (relL_looks r o)]
      exact q _ w σ ((he.relL r).put (.tup .nil)) (put_defers _ _ _) s (Fr.refl _ _ _)
theorem wpOpsK {ops : Array Oper} {k j : Nat} {t t' : List AV} {H H' : List AB} (c : Chain P ops k t H j t' H') (L : List Nat) :
    ∀ {σ : List (Nat × Nat)} {w : World} {a : Act} {Q : Exit → Act → World → Prop}, Sim σ H w → RelL σ t a.tmps.toList →
      (∀ a' w' σ', RelL σ' t' a'.tmps.toList → a'.defers = a.defers → Sim σ' H' w' → Fr σ H w σ' H' w' → Go.wpOps P ops Q L a' w') →
      Go.wpOps P ops Q (List.range' k (j - k) ++ L) a w := by
  induction c with
  | nil =>
    intro σ w a Q s r q
    rw [Nat.sub_self]
    exact q a w σ r rfl s (Fr.refl _ _ _)
  | @cons k j t t1 t' H H1 H' h c ih =>
    intro σ w a Q s r q
    have hle := c.le
    have : j - k = (j - (k + 1)) + 1 := by omega
    rw [this, List.range'_succ, List.cons_append, wpOps_cons]
    refine h σ w a Q _ s r fun a1 w1 σ1 r1 d1 s1 f1 => ?_
    exact ih s1 r1 fun a2 w2 σ2 r2 d2 s2 f2 => q a2 w2 σ2 r2 (d2.trans d1) s2 (f1.trans f2)
/-- An ordered region that holds such an append at place k. -/
theorem regionO {ops : Array Oper} {id k : Nat} {o : Oper} {args : Array Operand} {ts : Array TypeId} {todo : List Item} {t t1 tA tB : List AV} {H H1 HA HB : List AB} {x1 x2 : AV × List AB} {nd n1 nA nB : List Bool} (hT : SoundT P T)
    (ho : ops[k]? = some o) (hg : o.guard = none) (hop : o.op = .call { callee := .builtin .append, args := args, argTypes := ts }) (hok : o.op.operands.all okOpd = true)
    (hpre : (runOps P T ops (ops.toList.take k) t H [] fun t H nd => .stop [] t H nd) = .stop [] t1 H1 n1) (hn1 : allT n1 = true)
    (h : aAppO P ts (args.toList.map (evA t1)) H1 = some (x1, x2, nd)) (hnd : allT nd = true)
    (hA : (runOps P T ops (ops.toList.drop (k + 1)) (putT t1 o.dst x1.1) x1.2 [] fun t H nd => .stop [] t H nd) = .stop [] tA HA nA) (hnA : allT nA = true)
    (hB : (runOps P T ops (ops.toList.drop (k + 1)) (putT t1 o.dst x2.1) x2.2 [] fun t H nd => .stop [] t H nd) = .stop [] tB HB nB) (hnB : allT nB = true) :
    ReachS P (.code (.region id ops false) :: todo) t H todo fun t' H' => (t' = tA ∧ H' = HA) ∨ (t' = tB ∧ H' = HB) := by
  have hks : k < ops.size := (Array.getElem?_eq_some_iff.1 ho).1
  have ch : ∀ {l rest : List Oper} {k : Nat} {t t' : List AV} {H H' : List AB} {n : List Bool}, l ++ rest = ops.toList.drop k → k ≤ ops.size → (runOps P T ops l t H [] fun t H nd => .stop [] t H nd) = .stop [] t' H' n → allT n = true → Chain P ops k t H (k + l.length) t' H' := by
    intro l rest k t t' H H' n hl hk hrun hn
    rcases runOps_part (ops := ops) hT (fun t H nd => .stop [] t H nd) l rest k t H [] hl hk with h | ⟨t2, H2, nd2, h2, h3⟩
    · rw [hrun] at h; cases h
    · rw [hrun] at h2
      simp only [Res.sel] at h2
      cases h2
      exact (h3 hn).2
  have c0 := ch (l := ops.toList.take k) (rest := ops.toList.drop k) (k := 0) (by simp) (Nat.zero_le _) hpre hn1
  have el : (ops.toList.take k).length = k := by simp; omega
  rw [el, Nat.zero_add] at c0
  have cA := ch (l := ops.toList.drop (k + 1)) (rest := []) (k := k + 1) (by simp) hks hA hnA
  have cB := ch (l := ops.toList.drop (k + 1)) (rest := []) (k := k + 1) (by simp) hks hB hnB
  have el2 : k + 1 + (ops.toList.drop (k + 1)).length = ops.size := by simp; omega
  rw [el2] at cA cB
  have hop1 := appO_op (P := P) (t := t1) ho hg hop hok h hnd
  intro σ w a b cs s r
  have hwp : (Code.region id ops false).wp P (fun e a1 w1 => e = .normal ∧ ∃ t' H', ((t' = tA ∧ H' = HA) ∨ (t' = tB ∧ H' = HB)) ∧ ∃ σ1, RelL σ1 t' a1.tmps.toList ∧ a1.defers = a.defers ∧ Sim σ1 H' w1 ∧ Fr σ H w σ1 H' w1) a w := by
    refine wp_region ?_
    have e0 : List.range ops.size = List.range' 0 (k - 0) ++ (k :: List.range' (k + 1) (ops.size - (k + 1))) := by
      have e1 := @List.range'_append_1 0 k (ops.size - (k + 1) + 1)
      rw [Nat.zero_add] at e1
      rw [List.range_eq_range', Nat.sub_zero, ← List.range'_succ, e1]
      congr 1
      omega
    rw [e0]
    refine wpOpsK c0 _ s r fun a1 w1 σ1 r1 d1 s1 f1 => ?_
    rw [wpOps_cons]
    refine hop1 σ1 w1 a1 _ _ s1 r1 fun t2 H2 hS a2 w2 σ2 r2 d2 s2 f2 => ?_
    rcases hS with ⟨rfl, rfl⟩ | ⟨rfl, rfl⟩
    · exact cA.wpOps s2 r2 fun a3 w3 σ3 r3 d3 s3 f3 => ⟨rfl, _, _, .inl ⟨rfl, rfl⟩, σ3, r3, d3.trans (d2.trans d1), s3, f1.trans (f2.trans f3)⟩
    · exact cB.wpOps s2 r2 fun a3 w3 σ3 r3 d3 s3 f3 => ⟨rfl, _, _, .inr ⟨rfl, rfl⟩, σ3, r3, d3.trans (d2.trans d1), s3, f1.trans (f2.trans f3)⟩
  obtain ⟨e, a1, w1, ⟨he, t', H', hS, σ1, r1, d1, s1, f1⟩, harr⟩ := hwp b todo cs
  subst he
  exact ⟨t', H', hS, a1, w1, σ1, harr, r1, d1, s1, f1⟩
end
end Go.Ax

/- Regions in order with one operation that comes to one of several states; a slice cut at its beginning. -/
namespace Go.Ax
open Go

section
variable {P : Program} {T : Table}
theorem regionS {ops : Array Oper} {id k : Nat} {todo : List Item} {t t1 : List AV} {H H1 : List AB} {n1 : List Bool} {S S' : List AV → List AB → Prop} (hT : SoundT P T) (hk : k < ops.size)
    (hpre : (runOps P T ops (ops.toList.take k) t H [] fun t H nd => .stop [] t H nd) = .stop [] t1 H1 n1) (hn1 : allT n1 = true) (hop : OpS P ops k t1 H1 S)
    (hpost : ∀ t2 H2, S t2 H2 → ∃ t3 H3 n3, (runOps P T ops (ops.toList.drop (k + 1)) t2 H2 [] fun t H nd => .stop [] t H nd) = .stop [] t3 H3 n3 ∧ allT n3 = true ∧ S' t3 H3) :
    ReachS P (.code (.region id ops false) :: todo) t H todo S' := by
  have ch : ∀ {l rest : List Oper} {k : Nat} {t t' : List AV} {H H' : List AB} {n : List Bool}, l ++ rest = ops.toList.drop k → k ≤ ops.size → (runOps P T ops l t H [] fun t H nd => .stop [] t H nd) = .stop [] t' H' n → allT n = true → Chain P ops k t H (k + l.length) t' H' := by
    intro l rest k t t' H H' n hl hk hrun hn
    rcases runOps_part (ops := ops) hT (fun t H nd => .stop [] t H nd) l rest k t H [] hl hk with h | ⟨t2, H2, nd2, h2, h3⟩
    · rw [hrun] at h; cases h
    · rw [hrun] at h2
      simp only [Res.sel] at h2
      cases h2
      exact (h3 hn).2
  have c0 := ch (l := ops.toList.take k) (rest := ops.toList.drop k) (k := 0) (by simp) (Nat.zero_le _) hpre hn1
  have el : (ops.toList.take k).length = k := by simp; omega
  rw [el, Nat.zero_add] at c0
  have el2 : k + 1 + (ops.toList.drop (k + 1)).length = ops.size := by simp; omega
  intro σ w a b cs s r
  have hwp : (Code.region id ops false).wp P (fun e a1 w1 => e = .normal ∧ ∃ t' H', S' t' H' ∧ ∃ σ1, RelL σ1 t' a1.tmps.toList ∧ a1.defers = a.defers ∧ Sim σ1 H' w1 ∧ Fr σ H w σ1 H' w1) a w := by
    refine wp_region ?_
    have e0 : List.range ops.size = List.range' 0 (k - 0) ++ (k :: List.range' (k + 1) (ops.size - (k + 1))) := by
      have e1 := @List.range'_append_1 0 k (ops.size - (k + 1) + 1)
      rw [Nat.zero_add] at e1
      rw [List.range_eq_range', Nat.sub_zero, ← List.range'_succ, e1]
      congr 1
      omega
    rw [e0]
    refine wpOpsK c0 _ s r fun a1 w1 σ1 r1 d1 s1 f1 => ?_
    rw [wpOps_cons]
    refine hop σ1 w1 a1 _ _ s1 r1 fun t2 H2 hS a2 w2 σ2 r2 d2 s2 f2 => ?_
    obtain ⟨t3, H3, n3, hrun, hn3, hS'⟩ := hpost t2 H2 hS
    have cA := ch (l := ops.toList.drop (k + 1)) (rest := []) (k := k + 1) (by simp) hk hrun hn3
    rw [el2] at cA
    exact cA.wpOps s2 r2 fun a3 w3 σ3 r3 d3 s3 f3 => ⟨rfl, _, _, hS', σ3, r3, d3.trans (d2.trans d1), s3, f1.trans (f2.trans f3)⟩
  obtain ⟨e, a1, w1, ⟨he, t', H', hS, σ1, r1, d1, s1, f1⟩, harr⟩ := hwp b todo cs
  subst he
  exact ⟨t', H', hS, a1, w1, σ1, harr, r1, d1, s1, f1⟩
theorem lfM_run {M : List Bool} {r : Res} {t' : List AV} {H' : List AB} {nd : List Bool} (h : lfM M r = (true, [], t'.map AV.bare, H', nd)) : ∃ t3, r = .stop [] t3 H' nd ∧ Eqv t3 t' := by
  simp only [lfM, Prod.mk.injEq] at h
  obtain ⟨a1, a2, a3, a4, a5⟩ := h
  refine ⟨r.tOf, ?_, (blur_eqv M _).trans (eqv_of_bare a3)⟩
  conv => lhs; rw [Res.isStop_eq a1]
  rw [a2, a4, a5]
theorem ReachS.weak {todo todo' : List Item} {t : List AV} {H : List AB} {S S' : List AV → List AB → Prop} (h : ReachS P todo t H todo' S) (k : ∀ t1 H1, S t1 H1 → ∃ t', Eqv t1 t' ∧ S' t' H1) : ReachS P todo t H todo' S' := fun σ w a b cs s r =>
  let ⟨t1, H1, h1, a1, w1, σ1, e1, r1, d1, s1, f1⟩ := h σ w a b cs s r
  let ⟨t', e, hS⟩ := k t1 H1 h1
  ⟨t', H1, hS, a1, w1, σ1, e1, e.relL r1, d1, s1, f1⟩
theorem ReachS.mono {todo todo' : List Item} {t : List AV} {H : List AB} {S S' : List AV → List AB → Prop} (h : ReachS P todo t H todo' S) (k : ∀ t1 H1, S t1 H1 → S' t1 H1) : ReachS P todo t H todo' S' := fun σ w a b cs s r =>
  let ⟨t1, H1, h1, x⟩ := h σ w a b cs s r
  ⟨t1, H1, k _ _ h1, x⟩
theorem ReachS.strong {todo todo' : List Item} {t t1 : List AV} {H : List AB} {S : List AV → List AB → Prop} (h : ReachS P todo t1 H todo' S) (e : Eqv t t1) : ReachS P todo t H todo' S := fun σ w a b cs s r => h σ w a b cs s (e.relL r)
theorem Reach.bindS {todo todo1 todo' : List Item} {t t1 : List AV} {H H1 : List AB} {S : List AV → List AB → Prop} (h : Reach P todo t H todo1 t1 H1) (k : ReachS P todo1 t1 H1 todo' S) : ReachS P todo t H todo' S := fun σ w a b cs s r =>
  let ⟨a1, w1, σ1, e1, r1, d1, s1, f1⟩ := h σ w a b cs s r
  let ⟨t', H', h', a', w', σ', e', r', d', s', f'⟩ := k σ1 w1 a1 b cs s1 r1
  ⟨t', H', h', a', w', σ', e1.trans e', r', d'.trans d1, s', f1.trans f'⟩
theorem ReachS.refl {todo : List Item} {t : List AV} {H : List AB} {S : List AV → List AB → Prop} (h : S t H) : ReachS P todo t H todo S := (Reach.refl todo t H).toS h

/-- Blocks dropped of each state. -/
theorem ReachS.drops {todo todo' : List Item} {t : List AV} {H : List AB} {S S' : List AV → List AB → Prop} (h : ReachS P todo t H todo' S) (k : ∀ t1 H1, S t1 H1 → ∃ ks t2 H2, dropsT H.length ks t1 H1 = (true, t2, H2) ∧ S' t2 H2) : ReachS P todo t H todo' S' := fun σ w a b cs s r => by
  obtain ⟨t1, H1, h1, a1, w1, σ1, e1, r1, d1, s1, f1⟩ := h σ w a b cs s r
  obtain ⟨ks, t2, H2, hd, hS⟩ := k t1 H1 h1
  have key : ∀ (ks : List Nat) (t1 : List AV) (H1 : List AB) (σ1 : List (Nat × Nat)), RelL σ1 t1 a1.tmps.toList → Sim σ1 H1 w1 → Fr σ H w σ1 H1 w1 → dropsT H.length ks t1 H1 = (true, t2, H2) → ∃ σ2, RelL σ2 t2 a1.tmps.toList ∧ Sim σ2 H2 w1 ∧ Fr σ H w σ2 H2 w1 := by
    intro ks
    induction ks with
    | nil => intro t1 H1 σ1 r1 s1 f1 e; cases e; exact ⟨σ1, r1, s1, f1⟩
    | cons k ks ih =>
      intro t1 H1 σ1 r1 s1 f1 e
      simp only [dropsT] at e
      split at e
      · rename_i hb
        rw [Bool.and_eq_true] at hb
        obtain ⟨s2, f2⟩ := drop_sim s.len s1 f1 k (Nat.le_of_ble_eq_true hb.1) (blt_true hb.2)
        exact ih _ _ _ (renL_rel r1) s2 f2 e
      · cases e
  obtain ⟨σ2, r2, s2, f2⟩ := key ks t1 H1 σ1 r1 s1 f1 hd
  exact ⟨t2, H2, hS, a1, w1, σ2, e1, r2, d1, s2, f2⟩
/-- Memory told in other words. -/
theorem ReachS.post {todo todo' : List Item} {t : List AV} {H : List AB} {S S' : List AV → List AB → Prop} (h : ReachS P todo t H todo' S) (k : ∀ t1 H1, S t1 H1 → ∃ H2, HEq H1 H2 ∧ S' t1 H2) : ReachS P todo t H todo' S' := fun σ w a b cs s r =>
  let ⟨t1, H1, h1, a1, w1, σ1, e1, r1, d1, s1, f1⟩ := h σ w a b cs s r
  let ⟨H2, e, hS⟩ := k t1 H1 h1
  ⟨t1, H2, hS, a1, w1, σ1, e1, r1, d1, e.sim s1, e.fr f1⟩

/-- A slice without its first elements: where none are left, it may hold room for none. -/
theorem sliceO_op {ops : Array Oper} {k : Nat} {o : Oper} {ty e : TypeId} {x : Operand} {t : List AV} {H : List AB} {l : Bool} {id off len z a : Nat} (ho : ops[k]? = some o) (hg : o.guard = none) (hop : o.op = .slice ty x (some (.const (.int .i64 (a : Int)))) none none)
    (hok : okOpd x = true) (hx : evA t x = .sl l id off len z) (hu : P.underlying ty = some (.slice e)) (hn : szA P e = some z) (hle : a ≤ len) (hz0 : 0 < z) :
    OpS P ops k t H fun t' H' => (t' = putT t o.dst (.sl false id (off + a * z) (len - a) z) ∧ H' = H) ∨ (len = a ∧ t' = putT t o.dst .sle ∧ H' = H) := fun σ w ac Q next s r q => by
  have hw : Region.wanted o (yielded ops ac.tmps) = true := by simp [Region.wanted, hg]
  simp only [wpOp, ho, hw, if_true]
  refine .inl ?_
  have hr := evA_rel r hok
  rw [hx] at hr
  show o.upon P ac next Q ((execOp ac.eval o).run P w)
  generalize hv : ac.eval x = v at hr
  cases hr with
  | slz => omega
  | sl hid hcap hz =>
  rename_i cap b c
  have hrun : (execOp ac.eval o).run P w = .ok (.value (.slice (if cap = a then some ⟨b, off, none⟩ else (some ⟨b, off, none⟩ : Option Addr).map (·.add (a * z))) (len - a) (cap - a))) w := by
    have hlo : RelO σ (some (.i true .i64 (a : Int))) (some (.int .i64 (a : Int))) := .i _ _
    have hb := run_bounds (P := P) (w := w) (σ := σ) (isS := true) (len := len) (cap := cap) (lo := some (.i true .i64 (a : Int))) (hi := none) (rlo := some (.int .i64 (a : Int))) (rhi := none) (la := true) (lb := true) (a := a) (b := len) (na := true) (nb := true) (by simp [bound]) (by simp [bound]) rfl rfl hle (Nat.le_refl _) hcap hlo trivial
    simp only [execOp, hop]
    have e2 : ac.eval (.const (.int .i64 (a : Int))) = .int .i64 (a : Int) := rfl
    simp only [Option.map_some, Option.map_none, hv, e2]
    simp only [Instr.sliceAt, Instr.slice, Sem.run_bind, run_underlyingA hu, Result.andThen_ok, hb, run_sizeOfA hn, Sem.run_pure]
    rfl
  rw [hrun]
  by_cases hca : cap = a
  · have hla : len = a := by omega
    rw [if_pos hca]
    have e1 : len - a = 0 := by omega
    have e2 : cap - a = 0 := by omega
    rw [e1, e2]
    exact q _ _ (.inr ⟨hla, rfl, rfl⟩) _ _ σ (r.put .sle) (put_defers _ _ _) s (Fr.refl _ _ _)
  · rw [if_neg hca]
    refine q _ _ (.inl ⟨rfl, rfl⟩) _ _ σ (r.put ?_) (put_defers _ _ _) s (Fr.refl _ _ _)
    simp only [Option.map_some, addr_add]
    refine Rel.sl hid (by omega) ?_
    rw [Nat.add_assoc, ← Nat.add_mul]
    have e3 : a + (cap - a) = cap := by omega
    rw [e3]; exact hz
end
end Go.Ax

/- Ends in one of several states. -/
namespace Go.Ax
open Go

section
variable {P : Program}
def EndsS (P : Program) (todo : List Item) (t : List AV) (H : List AB) (S : List AV → List AB → Prop) : Prop :=
  ∀ (σ : List (Nat × Nat)) (w : World) (a : Act) (b : Frame) (cs : List Frame), Sim σ H w → RelL σ t a.tmps.toList → ∃ t' H', S t' H' ∧ ∃ a' w' σ' todo', Steps P (lone (b.at a todo) cs w) (lone { b.at a' todo' with mode := .returning } cs w') ∧
    RelL σ' t' a'.tmps.toList ∧ a'.defers = a.defers ∧ Sim σ' H' w' ∧ Fr σ H w σ' H' w'
theorem ReachS.endsS {todo todo1 : List Item} {t : List AV} {H : List AB} {S1 S : List AV → List AB → Prop} (h : ReachS P todo t H todo1 S1) (k : ∀ t1 H1, S1 t1 H1 → ∃ t' H', Ends P todo1 t1 H1 t' H' ∧ S t' H') : EndsS P todo t H S := fun σ w a b cs s r =>
  let ⟨t1, H1, h1, a1, w1, σ1, e1, r1, d1, s1, f1⟩ := h σ w a b cs s r
  let ⟨t', H', k', hS⟩ := k t1 H1 h1
  let ⟨a', w', σ', todo', e', r', d', s', f'⟩ := k' σ1 w1 a1 b cs s1 r1
  ⟨t', H', hS, a', w', σ', todo', e1.trans e', r', d'.trans d1, s', f1.trans f'⟩
theorem dropN_rel {σ : List (Nat × Nat)} {H : List AB} {w w' : World} {rv : Value} (hl : σ.length = H.length) : ∀ (ks : List Nat) {v v' : AV} {H1 H' : List AB} {σ1 : List (Nat × Nat)}, dropN H.length ks v H1 = some (v', H') → Rel σ1 v rv → Sim σ1 H1 w' → Fr σ H w σ1 H1 w' → ∃ σ2, Rel σ2 v' rv ∧ Sim σ2 H' w' ∧ Fr σ H w σ2 H' w'
  | [], _, _, _, _, σ1, h, r, s, f => by cases h; exact ⟨σ1, r, s, f⟩
  | k :: ks, _, _, _, _, σ1, h, r, s, f => by
    simp only [dropN] at h
    split at h
    · rename_i hb
      rw [Bool.and_eq_true] at hb
      obtain ⟨s2, f2⟩ := drop_sim hl s f k (Nat.le_of_ble_eq_true hb.1) (blt_true hb.2)
      exact dropN_rel hl ks h (renV_rel r) s2 f2
    · cases h
/-- A call out of its ends, each with blocks dropped. -/
theorem call_of_endsS {f : FuncId} {fn : Func} {c : Code} {args : List AV} {v : AV} {H H2 : List AB} {S : List AV → List AB → Prop} (hf : P.funcs[f]? = some fn) (hb : fn.body = some c)
    (h : EndsS P [.code c] (args ++ undefs (fn.ntmps - args.length)) H S) (hres : ∀ t' H', S t' H' → ∃ vs m ks, resV P t' H' fn.results.toList = some (vs, m) ∧ allT m = true ∧ dropN H.length ks (tupV vs) H' = some (v, H2)) : CallOK P f args H v H2 := fun σ w rargs s hra cs => by
  let b : Frame := { (default : Frame) with fn := f, kind := .normal }
  have henter : Frame.enter P f rargs .normal =
      b.at { tmps := rargs ++ Array.replicate (fn.ntmps - rargs.size) undef, defers := [] } [.code c] := by
    simp [Frame.enter, Frame.at, hf, hb, b]
  have hlen : args.length = rargs.size := by have := hra.length; simpa using this
  obtain ⟨t', H', hS, a', w', σ', todo', h3, h4, h5, h6, h7⟩ := h σ w { tmps := rargs ++ Array.replicate (fn.ntmps - rargs.size) undef, defers := [] } b cs s (by
    simp only [Array.toList_append, Array.toList_replicate]
    rw [hlen]
    exact hra.append (undefs_rel σ _))
  obtain ⟨vs, m, ks, hv, hm, hd⟩ := hres t' H' hS
  obtain ⟨rvs, h8, h9⟩ := resV_run (P := P) h6 h4 _ _ _ hv hm
  have hr : (results fn a'.tmps).run P w' = .ok (if h : rvs.toArray.size = 1 then rvs.toArray[0] else .tuple rvs.toArray) w' := by
    rw [results_eq, Array.mapM_eq_mapM_toList]
    simp only [Sem.run_bind, Sem.run_map, h8, Result.andThen_ok, Sem.run_pure]
  have hrel : Rel σ' (tupV vs) (if h : rvs.toArray.size = 1 then rvs.toArray[0] else .tuple rvs.toArray) := by
    cases h9 with
    | nil => exact .tup .nil
    | cons h hs => cases hs with
      | nil => exact h
      | cons h' hs' => exact .tup (.cons h (.cons h' hs'))
  obtain ⟨σ2, r2, s2, f2⟩ := dropN_rel s.len ks hd hrel h6 h7
  exact ⟨.returned _, w', _, ⟨_, rfl, σ2, r2, s2, f2⟩, by rw [henter]; exact h3, rfl, rfl, h5, rfl, fn, hf, hr⟩
theorem heq_mid {A B : AB} (h : A.rw = B.rw ∧ A.live = B.live ∧ ∀ σ z o, BlkRel σ z A o → BlkRel σ z B o) (G : List AB) : ∀ (H : List AB), HEq (H ++ A :: G) (H ++ B :: G)
  | [] => HEq.cons h (HEq.refl G)
  | _ :: H => HEq.cons ⟨rfl, rfl, fun _ _ _ h => h⟩ (heq_mid h G H)
theorem HEq.trans {H G K : List AB} (h : HEq H G) (k : HEq G K) : HEq H K := ⟨h.1.trans k.1, fun i => ⟨(h.2 i).1.trans (k.2 i).1, (h.2 i).2.1.trans (k.2 i).2.1, fun σ z o hb => (k.2 i).2.2 σ z o ((h.2 i).2.2 σ z o hb)⟩⟩
end
end Go.Ax

/- Regions in order with one operation told by hand: texts and bytes converted; words of floats. -/
namespace Go.Ax
open Go Go.Proofs

section
variable {P : Program} {T : Table}
/-- One operation that comes to one value and one memory. -/
def Op1 (P : Program) (ops : Array Oper) (k : Nat) (t : List AV) (H : List AB) (v : AV) (H2 : List AB) : Prop := OpS P ops k t H fun t' H' => t' = putT t (gDst ops k) v ∧ H' = H2
noncomputable def preO (P : Program) (T : Table) (ops : Array Oper) (k : Nat) (t : List AV) (H : List AB) : Res := runOps P T ops (ops.toList.take k) t H [] fun t H nd => .stop [] t H nd
noncomputable def postO (P : Program) (T : Table) (ops : Array Oper) (k : Nat) (t : List AV) (H : List AB) : Res := runOps P T ops (ops.toList.drop (k + 1)) t H [] fun t H nd => .stop [] t H nd
theorem region1 {ops : Array Oper} {id k : Nat} {todo : List Item} {t t' : List AV} {H H2 H' : List AB} {v : AV} {M nd : List Bool} (hT : SoundT P T) (hk : k < ops.size) (hp : ((preO P T ops k t H).isStop, (preO P T ops k t H).todo) = (true, [])) (hn1 : allT (preO P T ops k t H).nds = true)
    (hop : Op1 P ops k (preO P T ops k t H).tOf (preO P T ops k t H).HOf v H2) (hpost : lfM M (postO P T ops k (putT (preO P T ops k t H).tOf (gDst ops k) v) H2) = (true, [], t'.map AV.bare, H', nd)) (hn : allT nd = true) : Reach P (.code (.region id ops false) :: todo) t H todo t' H' := by
  simp only [Prod.mk.injEq] at hp
  have e1 := Res.isStop_eq hp.1
  rw [hp.2] at e1
  obtain ⟨t3, e3, q3⟩ := lfM_run hpost
  have h := regionS (P := P) (T := T) (ops := ops) (id := id) (k := k) (todo := todo) (t := t) (H := H) (S' := fun t3 H3 => Eqv t3 t' ∧ H3 = H') hT hk e1 hn1 hop (fun t2 H2' ⟨h1, h2⟩ => by
    subst h1; subst h2
    exact ⟨t3, H', nd, e3, hn, q3, rfl⟩)
  intro σ w a b cs s r
  obtain ⟨t4, H4, ⟨q4, rfl⟩, a', w', σ', s1, r1, d1, s2, f2⟩ := h σ w a b cs s r
  exact ⟨a', w', σ', s1, q4.relL r1, d1, s2, f2⟩

/-- A text as new bytes. -/
theorem cvB_op {ops : Array Oper} {k : Nat} {o : Oper} {src dst e : TypeId} {x : Operand} {t : List AV} {H : List AB} {l : Bool} {bs : List UInt8} {u : TypeDesc} (ho : ops[k]? = some o) (hg : o.guard = none) (hop : o.op = .convert src dst x) (hok : okOpd x = true) (hx : evA t x = .s l bs)
    (hs : P.underlying src = some u) (hd : P.underlying dst = some (.slice e)) (he : P.underlying e = some (.int .u8)) : Op1 P ops k t H (.sl false H.length 0 bs.length 1) (H ++ [.cells false (.ints .u8 (bs.map fun b => (b.toNat : Int)))]) := fun σ w ac Q next s r q => by
  have hw : Region.wanted o (yielded ops ac.tmps) = true := by simp [Region.wanted, hg]
  simp only [wpOp, ho, hw, if_true]
  refine .inl ?_
  have hr := evA_rel r hok
  rw [hx] at hr
  show o.upon P ac next Q ((execOp ac.eval o).run P w)
  generalize hv : ac.eval x = v at hr
  cases hr with | s =>
  have hrun0 := Lib.run_convert_string_bytes (P := P) w src dst e ⟨bs.toArray⟩ hs hd he
  have hrun : (execOp ac.eval o).run P w = .ok (.value (.slice (some ⟨w.heap.size, 0, none⟩) (⟨bs.toArray⟩ : ByteArray).size (grownCap w (⟨bs.toArray⟩ : ByteArray).size 0 e))) (Lib.bytesWorld w e ⟨bs.toArray⟩) := by
    simp only [execOp, hop, hv, Sem.run_bind, hrun0, Result.andThen_ok, Sem.run_pure]
  rw [hrun]
  have hge := grownCap_ge w (⟨bs.toArray⟩ : ByteArray).size 0 e
  have hsz : (⟨bs.toArray⟩ : ByteArray).size = bs.length := by simp [ByteArray.size]
  have hcs : (Lib.bytesCells w e ⟨bs.toArray⟩).size = grownCap w (⟨bs.toArray⟩ : ByteArray).size 0 e := by
    simp only [Lib.bytesCells, Array.size_append, Array.size_map, Array.size_replicate]
    rw [show (⟨bs.toArray⟩ : ByteArray).data.size = (⟨bs.toArray⟩ : ByteArray).size from rfl]
    omega
  generalize hc : grownCap w (⟨bs.toArray⟩ : ByteArray).size 0 e = cap at *
  have hgd : gDst ops k = o.dst := by simp [gDst, ho]
  have hgl : ∀ i, i < σ.length → getB (H ++ [.cells false (.ints .u8 (bs.map fun b => (b.toNat : Int)))]) i = getB H i := fun i hi => getB_append_left (by rw [← s.len]; exact hi)
  have hgr : getB (H ++ [.cells false (.ints .u8 (bs.map fun b => (b.toNat : Int)))]) σ.length = .cells false (.ints .u8 (bs.map fun b => (b.toNat : Int))) := by
    rw [getB_append_right (by rw [s.len]; exact Nat.le_refl _), s.len, Nat.sub_self]; rfl
  obtain ⟨s1, f1⟩ := sim_fr (σ' := σ ++ [(w.heap.size, cap)]) (H' := H ++ [.cells false (.ints .u8 (bs.map fun b => (b.toNat : Int)))]) (w' := Lib.bytesWorld w e ⟨bs.toArray⟩) s (by simp [s.len]) (fun i b z hb => by
      rcases snoc_cases hb with ⟨hi, hb'⟩ | ⟨rfl, hb'⟩
      · rw [hgl i hi]
        have hb2 := (s.blk i b z hb').mono (Ext.append σ [(w.heap.size, cap)])
        cases hgi : getB H i with
        | dead => trivial
        | cells r B =>
          rw [Lib.bytesWorld_at_old w e _ b (s.lt hb' (by rw [hgi]; rfl)), ← hgi]; exact hb2
        | code o0 xs0 =>
          rw [Lib.bytesWorld_at_old w e _ b (s.lt hb' (by rw [hgi]; rfl)), ← hgi]; exact hb2
      · cases hb'
        rw [hgr]
        refine ⟨_, _, _, Lib.bytesWorld_at_new w e _, fun j a ha => ?_, hcs, fun h => by cases h⟩
        simp only [Cells.toL, List.map_map, List.getElem?_map, Option.map_eq_some_iff] at ha
        obtain ⟨y, hy, rfl⟩ := ha
        have hj : j < bs.length := (List.getElem?_eq_some_iff.1 hy).1
        refine ⟨.int .u8 (y.toNat : Int), ?_, .i _ _⟩
        simp only [Lib.bytesCells]
        rw [Array.getElem?_append_left (by simpa using hj)]
        simp [hy])
    (fun i j b z z' hi hj hr hl => by
      rcases snoc_cases hi with ⟨hi1, hb1⟩ | ⟨rfl, hb1⟩
      · rw [hgl i hi1] at hr
        rcases snoc_cases hj with ⟨hj1, hb2⟩ | ⟨rfl, hb2⟩
        · rw [hgl j hj1] at hl
          exact s.inj i j b z z' hb1 hb2 hr hl
        · have := s.lt hb1 (rw_live hr)
          cases hb2; omega
      · rw [hgr] at hr; cases hr)
    ⟨rfl, rfl, rfl, by rw [Lib.bytesWorld_size]; omega, fun b hb _ => Lib.bytesWorld_at_old w e _ b hb, Ext.append σ _, fun i b z hb hn => by
      rcases snoc_cases hb with ⟨hi, hb'⟩ | ⟨rfl, hb'⟩
      · rw [hn] at hb'; cases hb'
      · cases hb'; exact .inl (Nat.le_refl _), fun i hi h => by rwa [hgl i hi] at h⟩
  refine q _ _ ⟨by rw [hgd], rfl⟩ _ _ (σ ++ [(w.heap.size, cap)]) ((RelL.mono (Ext.append σ _) r).put ?_) (put_defers _ _ _) s1 f1
  rw [hsz]
  refine .sl (b := w.heap.size) (c := cap) ?_ (by omega) (by omega)
  rw [← s.len]; simp
theorem bytes_vals {σ : List (Nat × Nat)} : ∀ {a : List AV} {cs : List Value} {ns : List Int}, a.map AV.bare = ns.map (.i false .u8) → RelL σ a cs → cs = ns.map (Value.int .u8)
  | [], [], [], _, _ => rfl
  | [], [], _ :: _, h, _ => by simp at h
  | _ :: _, _ :: _, [], h, _ => by simp at h
  | _ :: _, _ :: _, m :: _, h, .cons r rs => by
    simp only [List.map_cons, List.cons.injEq] at h
    have r' := bare_rel (a' := .i false .u8 m) h.1 r
    cases r'
    rw [bytes_vals h.2 rs]; rfl
/-- Bytes as a text. -/
theorem foldl_bytes (ns : List Int) : ∀ (r : ByteArray), (ns.foldl (fun r n => r.push (UInt8.ofNat n.toNat)) r).data.toList = r.data.toList ++ ns.map fun n => UInt8.ofNat n.toNat := by
  induction ns with
  | nil => intro r; simp
  | cons n ns ih => intro r; rw [List.foldl_cons, ih]; simp [ByteArray.push]
theorem cvS_op {ops : Array Oper} {k : Nat} {o : Oper} {src dst e : TypeId} {x : Operand} {t : List AV} {H : List AB} {l l' : Bool} {id off n z : Nat} {B : Cells} {ns : List Int} {nb : List Bool} (ho : ops[k]? = some o) (hg : o.guard = none) (hop : o.op = .convert src dst x) (hok : okOpd x = true) (hx : evA t x = .sl l id off n z)
    (hs : P.underlying src = some (.slice e)) (he : P.underlying e = some (.int .u8)) (hd : P.underlying dst = some .string) (hc : sliceCells H 1 (.sl l id off n z) = some (l', B, n, nb)) (hnb : allT nb = true) (hB : B.toL.map AV.bare = ns.map (.i false .u8)) :
    Op1 P ops k t H (.s false (ns.map fun n => UInt8.ofNat n.toNat)) H := fun σ w ac Q next s r q => by
  have hw : Region.wanted o (yielded ops ac.tmps) = true := by simp [Region.wanted, hg]
  simp only [wpOp, ho, hw, if_true]
  refine .inl ?_
  have hr := evA_rel r hok
  rw [hx] at hr
  show o.upon P ac next Q ((execOp ac.eval o).run P w)
  obtain ⟨cs, h1, h2, h3, _⟩ := slice_read (P := P) hc hnb s hr
  generalize hv : ac.eval x = v at hr h1
  have hcs : cs = ns.map (Value.int .u8) := by
    exact bytes_vals hB h2
  have hgd : gDst ops k = o.dst := by simp [gDst, ho]
  have hrun : ∃ by', (execOp ac.eval o).run P w = .ok (.value (.string by')) w ∧ by'.data.toList = ns.map fun n => UInt8.ofNat n.toNat := by
    have hn : n = ns.length := by
      have e1 : cs.length = ns.length := by rw [hcs]; simp
      omega
    cases hr with
    | sl _ _ _ =>
      have hl := h1 w rfl
      simp only [Builtin.firstCells, Nat.mul_one] at hl
      rw [hcs] at hl
      refine ⟨_, ?_, (foldl_bytes ns ByteArray.empty).trans (by simp)⟩
      simp only [execOp, hop, hv, Sem.run_bind, run_convert_bytes_string w src dst e _ _ _ hs he hd, run_bytesToString w _ _ _ ns hl, Result.andThen_ok, Sem.run_pure]
    | @slz _ _ _ ad _ =>
      have : ns = [] := List.length_eq_zero_iff.1 hn.symm
      subst this
      cases ad with
      | none =>
        refine ⟨ByteArray.empty, ?_, by simp⟩
        simp only [execOp, hop, hv, Sem.run_bind, run_convert_bytes_string w src dst e _ _ _ hs he hd, Conv.bytesToString, Result.andThen_ok, Sem.run_pure]
      | some ad =>
        have hl := h1 w rfl
        simp only [Builtin.firstCells, Nat.mul_one] at hl
        rw [hcs] at hl
        refine ⟨_, ?_, (foldl_bytes [] ByteArray.empty).trans (by simp)⟩
        simp only [execOp, hop, hv, Sem.run_bind, run_convert_bytes_string w src dst e _ _ _ hs he hd, run_bytesToString w _ _ _ [] hl, Result.andThen_ok, Sem.run_pure]
  obtain ⟨by', hrun, hby⟩ := hrun
  rw [hrun]
  refine q _ _ ⟨by rw [hgd], rfl⟩ _ _ σ (r.put ?_) (put_defers _ _ _) s (Fr.refl _ _ _)
  have e1 : by' = ⟨(ns.map fun n => UInt8.ofNat n.toNat).toArray⟩ := by
    apply ByteArray.ext
    rw [← hby]
  rw [e1]
  exact .s _
end
end Go.Ax

/- math/bits.TrailingZeros64 of 16: the table's cell is among the package variables. -/
namespace Go.Ax
open Go Go.Proofs Go.RowKit

set_option maxHeartbeats 1000000 in
theorem tz_calls (w : World) (h : w.cell? ⟨8, 15, none⟩ = some (.int .u8 4)) : Calls Tryd.prog 87 #[.int .u64 16] w fun e w' => e = .returned (.int .i64 4) ∧ w' = w := by
  have m99 : IntKind.u64.wrap (bits BinOp.and IntKind.u64 16 (IntKind.u64.wrap (-16)) * 285870213051353865) / 288230376151711744 = 15 := by decide +kernel
  go_enter Tryd.func87, Tryd.ntmps87
  go_wp2
  go_ret
  exact ⟨rfl, rfl⟩
/-- The row of TrailingZeros64 at 16. -/
def gTz : List AV → Option (AV × List Bool)
  | [.i l .u64 n] => some (.i l .i64 4, [decide (n = 16)])
  | _ => none
theorem tz_at : SoundAt Tryd.prog 87 (pureT gTz) := fun args H nd K => by
  refine pureT_sound (fun args v n h hn H => ?_) args H nd K
  unfold gTz at h
  split at h <;> (try (cases h; done))
  rename_i l m
  cases h
  simp only [allT, Bool.and_true, decide_eq_true_eq] at hn
  subst hn
  intro σ w rargs s hra
  obtain ⟨rx, hrs, hx⟩ := relL_one hra
  have hra' : rargs = #[rx] := by rw [← Array.toArray_toList (xs := rargs), hrs]
  subst hra'
  cases hx with | i =>
  obtain ⟨ev, h1, h2⟩ := (s.base (8, 15, (· = .int .u8 4)) (by simp [baseC])).1
  have h2 : ev = .int .u8 4 := h2
  subst h2
  refine (tz_calls w h1).mono ?_
  rintro e w' ⟨rfl, rfl⟩
  exact ⟨_, rfl, σ, .i _ _, s, Fr.refl _ _ _⟩

/-! ### Words of floats -/
theorem find85 : Extern.find Tryd.f85 = some Extern.MathFloatBits.float32bits := by
  unfold Extern.find
  have e1 : Tryd.f85.name = "math.Float32bits" := by rfl
  have e2 : Tryd.f85.origin = "" := by rfl
  simp only [e1, e2]
  have a : Extern.allGenericRows.lookup "math.Float32bits" = none := Option.isNone_iff_eq_none.1 (by kernel_rfl)
  have b : Extern.allTypedRows.lookup "math.Float32bits" = none := Option.isNone_iff_eq_none.1 (by kernel_rfl)
  have c : Extern.allRows.lookup "math.Float32bits" = some Extern.MathFloatBits.float32bits := by kernel_rfl
  rw [a, b, c]; rfl
theorem findN85 : Extern.findNext Tryd.f85 = none := by
  unfold Extern.findNext
  have e1 : Tryd.f85.name = "math.Float32bits" := by rfl
  have e2 : Tryd.f85.origin = "" := by rfl
  simp only [e1, e2]
  have a : Extern.allNextRows.lookup "math.Float32bits" = none := by kernel_rfl
  have b : Extern.allNextRows.lookup "" = none := by kernel_rfl
  rw [a, b]; rfl
theorem find55 : Extern.find Tryd.f55 = some Extern.MathFloatBits.float32frombits := by
  unfold Extern.find
  have e1 : Tryd.f55.name = "math.Float32frombits" := by rfl
  have e2 : Tryd.f55.origin = "" := by rfl
  simp only [e1, e2]
  have a : Extern.allGenericRows.lookup "math.Float32frombits" = none := Option.isNone_iff_eq_none.1 (by kernel_rfl)
  have b : Extern.allTypedRows.lookup "math.Float32frombits" = none := Option.isNone_iff_eq_none.1 (by kernel_rfl)
  have c : Extern.allRows.lookup "math.Float32frombits" = some Extern.MathFloatBits.float32frombits := by kernel_rfl
  rw [a, b, c]; rfl
theorem findN55 : Extern.findNext Tryd.f55 = none := by
  unfold Extern.findNext
  have e1 : Tryd.f55.name = "math.Float32frombits" := by rfl
  have e2 : Tryd.f55.origin = "" := by rfl
  simp only [e1, e2]
  have a : Extern.allNextRows.lookup "math.Float32frombits" = none := by kernel_rfl
  have b : Extern.allNextRows.lookup "" = none := by kernel_rfl
  rw [a, b]; rfl
theorem bits_op {ops : Array Oper} {k : Nat} {o : Oper} {c : Call} {t : List AV} {H : List AB} {l : Bool} {x : Nat} (ho : ops[k]? = some o) (hg : o.guard = none) (hop : o.op = .call c) (hok : o.op.operands.all okOpd = true) (hc : aCall c (evA t) = some (85, [.f l .f32 x])) (hx : (FloatKind.f32.decode x).isNaN = false) :
    Op1 Tryd.prog ops k t H (.i false .u32 x) H := fun σ w ac Q next s r q => by
  have hw : Region.wanted o (yielded ops ac.tmps) = true := by simp [Region.wanted, hg]
  simp only [wpOp, ho, hw, if_true]
  refine .inl ?_
  have hgd : gDst ops k = o.dst := by simp [gDst, ho]
  have hopd : ∀ x ∈ o.op.operands, Rel σ (evA t x) (ac.eval x) := opds_looks (ops := ops) hok fun n _ => r.getD n
  obtain ⟨rargs, hra, hrun⟩ := call_run (w := w) (P := Tryd.prog) hop hc hopd
  show o.upon Tryd.prog ac next Q ((execOp ac.eval o).run Tryd.prog w)
  obtain ⟨rx, hrs, hx'⟩ := relL_one hra
  have hra' : rargs = #[rx] := by rw [← Array.toArray_toList (xs := rargs), hrs]
  subst hra'
  cases hx' with | f hx' =>
  rename_i y
  have hy : y = x := by
    rcases hx' with h | ⟨h, _⟩
    · exact h
    · rw [hx] at h; cases h
  subst hy
  have e := run_callFunc_extern (P := Tryd.prog) Tryd.func85 (by rfl) (by rfl) findN85 find85 #[.float .f32 y] w
  rw [hrun, e]
  exact q _ _ ⟨by rw [hgd], rfl⟩ _ _ σ (r.put (.i _ _)) (put_defers _ _ _) s (Fr.refl _ _ _)
theorem from_op {ops : Array Oper} {k : Nat} {o : Oper} {c : Call} {t : List AV} {H : List AB} {l : Bool} {n : Int} (ho : ops[k]? = some o) (hg : o.guard = none) (hop : o.op = .call c) (hok : o.op.operands.all okOpd = true) (hc : aCall c (evA t) = some (55, [.i l .u32 n])) :
    Op1 Tryd.prog ops k t H (.f false .f32 n.toNat) H := fun σ w ac Q next s r q => by
  have hw : Region.wanted o (yielded ops ac.tmps) = true := by simp [Region.wanted, hg]
  simp only [wpOp, ho, hw, if_true]
  refine .inl ?_
  have hgd : gDst ops k = o.dst := by simp [gDst, ho]
  have hopd : ∀ x ∈ o.op.operands, Rel σ (evA t x) (ac.eval x) := opds_looks (ops := ops) hok fun n _ => r.getD n
  obtain ⟨rargs, hra, hrun⟩ := call_run (w := w) (P := Tryd.prog) hop hc hopd
  show o.upon Tryd.prog ac next Q ((execOp ac.eval o).run Tryd.prog w)
  obtain ⟨rx, hrs, hx'⟩ := relL_one hra
  have hra' : rargs = #[rx] := by rw [← Array.toArray_toList (xs := rargs), hrs]
  subst hra'
  cases hx' with | i =>
  have e := run_callFunc_extern (P := Tryd.prog) Tryd.func55 (by rfl) (by rfl) findN55 find55 #[.int .u32 n] w
  rw [hrun, e]
  exact q _ _ ⟨by rw [hgd], rfl⟩ _ _ σ (r.put (.f .rfl')) (put_defers _ _ _) s (Fr.refl _ _ _)
end Go.Ax

/- internal/strconv.ParseUint at base 16: evaluated. -/
namespace Go.Ax
open Go Go.Proofs

noncomputable def tabN : Table := tabOf (jdeep Tryd.prog [] [] 3000 8)
theorem tabN_sound : SoundT Tryd.prog tabN := jdeep_sound (fun p hp => by cases hp) 8
noncomputable def puC : Code := Tryd.f80.body.getD .skip
noncomputable def pu0 (x : List UInt8) : Res := jupto Tryd.prog tabN (atReg 35) 200 [.code puC] (.s false x :: .i true .i64 16 :: .i true .i64 64 :: undefs 169) []
noncomputable def puL : List Item := ((pu0 []).at [false]).todo
def puA (x : List UInt8) : List (Nat × AV) := [(0, .s false x), (1, .i true .i64 16), (2, .i true .i64 64), (8, .b true false), (9, .s false x), (10, .i true .u64 1152921504606846976), (11, .i true .u64 18446744073709551615), (12, .b true false)]
def puT0 (x : List UInt8) : List AV := tmpsOf 172 (puA x ++ [(13, .i false .u64 0)])
def puM0 : List Bool := maskOf 172 (puA [] ++ [(13, .any)])
def puT (x : List UInt8) (n k : Int) : List AV := tmpsOf 172 (puA x ++ [(13, .i false .u64 n), (99, .sl false 0 0 x.length 1), (100, .i false .i64 x.length), (101, .i false .i64 k)])
def puM : List Bool := maskOf 172 (puA [] ++ [(13, .any), (99, .any), (100, .any), (101, .any)])
def bz (x : List UInt8) : List Int := x.map fun b => (b.toNat : Int)
def bb (x : List UInt8) : List AB := [.cells false (.ints .u8 (bz x))]
def strQ (x : List UInt8) : Bool := x == []
theorem pu0_bad (x : List UInt8) : (condsP (pu0 x) [true], leafE Tryd.prog Tryd.f80.results.toList 0 [] ((pu0 x).at [true])) = ([strQ x], some (.tup [.i true .u64 0, .ifc 119 (.i true .i64 2)], [], true)) := by kernel_rfl
theorem pu0_go (x : List UInt8) : (condsP (pu0 x) [false], lfM puM0 ((pu0 x).at [false])) = ([!strQ x], (true, puL, (puT0 x).map AV.bare, [], [])) := by kernel_rfl
theorem puL_eq : puL = .code (.region 35 (opsOf puL) false) :: tlOf puL := by kernel_rfl
theorem pu_pre (x : List UInt8) : (((preO Tryd.prog tabN (opsOf puL) 1 (puT0 x) []).isStop, (preO Tryd.prog tabN (opsOf puL) 1 (puT0 x) []).todo), (preO Tryd.prog tabN (opsOf puL) 1 (puT0 x) []).nds, (preO Tryd.prog tabN (opsOf puL) 1 (puT0 x) []).HOf, evA (preO Tryd.prog tabN (opsOf puL) 1 (puT0 x) []).tOf (.tmp 98)) = ((true, []), [], [], .s false x) := by kernel_rfl
theorem pu_post (x : List UInt8) : lfM puM (postO Tryd.prog tabN (opsOf puL) 1 (putT (preO Tryd.prog tabN (opsOf puL) 1 (puT0 x) []).tOf (gDst (opsOf puL) 1) (.sl false ([] : List AB).length 0 x.length 1)) ([] ++ [.cells false (.ints .u8 (x.map fun b => (b.toNat : Int)))])) = (true, [], (puT x 0 0).map AV.bare, bb x, []) := by kernel_rfl
noncomputable def puO : Option Oper := (opsOf puL)[1]?
theorem puO_eq : (puO.map fun o => (o.guard, o.op)) = some (none, .convert 9 102 (.tmp 98)) := by kernel_rfl
noncomputable def puZ (x : List UInt8) : Res := jupto Tryd.prog tabN atLoop 200 (tlOf puL) (puT x 0 0) (bb x)
noncomputable def puLp : List Item := (puZ []).todo
noncomputable def puR : List Item := toLp puLp
theorem puZ_ok (x : List UInt8) : lfM puM (puZ x) = (true, puLp, (puT x 0 0).map AV.bare, bb x, []) := by kernel_rfl
noncomputable def puU (x : List UInt8) (n : Int) (k : Nat) : Res := jupto Tryd.prog tabN atLoop 200 puR (puT x n (Int.ofNat k)) (bb x)
def bC (x : List UInt8) (k : Nat) : Int := (bz x).getD (0 + (Int.ofNat k).toNat * 1) 0
def loC (c : Int) : Int := IntKind.u8.wrap ((BitVec.ofInt IntKind.u8.bits c ||| BitVec.ofInt IntKind.u8.bits 32).toNat : Int)
def isD (c : Int) : Bool := bif leQ false 48 c then leQ false c 57 else false
def isL (c : Int) : Bool := bif leQ false 97 (loC c) then leQ false (loC c) 122 else false
def dvD (c : Int) : Int := wrapQ false .u8 (c - 48)
def dvL (c : Int) : Int := wrapQ false .u8 (wrapQ false .u8 (loC c - 97) + 10)
def bigD (d : Int) : Bool := leQ false (IntKind.u8.wrap 16) d
def nxU (n d : Int) : Int := wrapQ false .u64 (wrapQ false .u64 (n * IntKind.u64.wrap 16) + IntKind.u64.wrap d)
def ovf (n d : Int) : Bool := bif ltQ false (nxU n d) (wrapQ false .u64 (n * IntKind.u64.wrap 16)) then true else ltQ false 18446744073709551615 (nxU n d)
def puI (x : List UInt8) (k : Nat) : List Bool := [decide (0 + (Int.ofNat k).toNat * 1 < (Cells.ints .u8 (bz x)).len), decide (0 ≤ Int.ofNat k) && decide (Int.ofNat k < (x.length : Int))]
def kQ (x : List UInt8) (k : Nat) : Bool := ltQ false (Int.ofNat k) x.length
theorem puU_dig (x : List UInt8) (n : Int) (k : Nat) : (condsP (puU x n k) [true, true, false, false, false], lfM puM ((puU x n k).at [true, true, false, false, false])) =
    ([kQ x k, isD (bC x k), !bigD (dvD (bC x k)), !leQ false 1152921504606846976 n, !ovf n (dvD (bC x k))], (true, puR, (puT x (nxU n (dvD (bC x k))) (wrapQ false .i64 (Int.ofNat k + 1))).map AV.bare, bb x, puI x k)) := by kernel_rfl
theorem puU_let (x : List UInt8) (n : Int) (k : Nat) : (condsP (puU x n k) [true, false, true, false, false, false], lfM puM ((puU x n k).at [true, false, true, false, false, false])) =
    ([kQ x k, !isD (bC x k), isL (bC x k), !bigD (dvL (bC x k)), !leQ false 1152921504606846976 n, !ovf n (dvL (bC x k))], (true, puR, (puT x (nxU n (dvL (bC x k))) (wrapQ false .i64 (Int.ofNat k + 1))).map AV.bare, bb x, puI x k)) := by kernel_rfl
def synV : AV := .tup [.i true .u64 0, .ifc 119 (.i true .i64 2)]
def rngV : AV := .tup [.i true .u64 18446744073709551615, .ifc 119 (.i true .i64 1)]
noncomputable def puE (r : Res) : Option (AV × List AB × Bool) := leafE Tryd.prog Tryd.f80.results.toList 0 [0] r
theorem puU_non (x : List UInt8) (n : Int) (k : Nat) : (condsP (puU x n k) [true, false, false], puE ((puU x n k).at [true, false, false])) = ([kQ x k, !isD (bC x k), !isL (bC x k)], some (synV, [], allT (puI x k))) := by kernel_rfl
theorem puU_big (x : List UInt8) (n : Int) (k : Nat) : (condsP (puU x n k) [true, false, true, true], puE ((puU x n k).at [true, false, true, true])) = ([kQ x k, !isD (bC x k), isL (bC x k), bigD (dvL (bC x k))], some (synV, [], allT (puI x k))) := by kernel_rfl
theorem puU_rD (x : List UInt8) (n : Int) (k : Nat) : (condsP (puU x n k) [true, true, false, true], puE ((puU x n k).at [true, true, false, true])) = ([kQ x k, isD (bC x k), !bigD (dvD (bC x k)), leQ false 1152921504606846976 n], some (rngV, [], allT (puI x k))) := by kernel_rfl
theorem puU_rL (x : List UInt8) (n : Int) (k : Nat) : (condsP (puU x n k) [true, false, true, false, true], puE ((puU x n k).at [true, false, true, false, true])) = ([kQ x k, !isD (bC x k), isL (bC x k), !bigD (dvL (bC x k)), leQ false 1152921504606846976 n], some (rngV, [], allT (puI x k))) := by kernel_rfl
theorem puU_end (x : List UInt8) (n : Int) (k : Nat) : (condsP (puU x n k) [false], puE ((puU x n k).at [false])) = ([!kQ x k], some (.tup [.i false .u64 n, .inil], [], true)) := by kernel_rfl
end Go.Ax

/- impl.placeOf: a row. -/
namespace Go.Ax
open Go Go.Proofs

noncomputable def plC : Code := Tryd.f68.body.getD .skip
noncomputable def pl0 (x : Nat) : Res := jupto Tryd.prog tabN (fun L => atReg 2 L || atReg 3 L) 100 [.code plC] (.f false .f32 x :: undefs 13) []
noncomputable def plL (b : Bool) : List Item := ((pl0 0).at [b]).todo
def plT (x : Nat) : List AV := tmpsOf 14 [(0, .f false .f32 x)]
def plM : List Bool := maskOf 14 [(0, .any)]
theorem pl0_ok (x : Nat) (b : Bool) : (condsP (pl0 x) [b], lfM plM ((pl0 x).at [b])) = ([cond b (flt .f32 x 0) (!flt .f32 x 0)], (true, plL b, (plT x).map AV.bare, [], [])) := by cases b <;> kernel_rfl
theorem plL_eq (b : Bool) : plL b = .code (.region (cond b 2 3) (opsOf (plL b)) false) :: tlOf (plL b) := by cases b <;> kernel_rfl
def plK (b : Bool) : Nat := cond b 2 1
def plW (b : Bool) (x : Nat) : Nat := cond b (fneg .f32 x) x
noncomputable def plP (b : Bool) (x : Nat) : Res := preO Tryd.prog tabN (opsOf (plL b)) (plK b) (plT x) []
def callOf : Option Oper → Option Call
  | some o => match o.op with
    | .call c => some c
    | _ => none
  | none => none
noncomputable def plO (b : Bool) : Option Oper := (opsOf (plL b))[plK b]?
theorem plP_ok (b : Bool) (x : Nat) : (((plP b x).isStop, (plP b x).todo), (plP b x).nds, (plP b x).HOf, (callOf (plO b)).bind fun c => aCall c (evA (plP b x).tOf)) = ((true, []), [], [], some (85, [.f false .f32 (plW b x)])) := by cases b <;> kernel_rfl
theorem plO_ok (b : Bool) : ((plO b).map fun o => (o.guard, o.op.operands.all okOpd)) = some (none, true) := by cases b <;> kernel_rfl
def plV (b : Bool) (x : Nat) : Int := match b with
  | true => IntKind.i64.wrap (0 - IntKind.i64.wrap (fneg .f32 x : Int))
  | false => IntKind.i64.wrap (IntKind.u32.wrap ((BitVec.ofInt IntKind.u32.bits (x : Int) &&& ~~~BitVec.ofInt IntKind.u32.bits 2147483648).toNat : Int))
def plT2 (b : Bool) (x : Nat) : List AV := tmpsOf 14 [(2, .i false .i64 (plV b x))]
def plM2 : List Bool := maskOf 14 [(2, .any)]
theorem pl_post (b : Bool) (x : Nat) : lfM plM2 (postO Tryd.prog tabN (opsOf (plL b)) (plK b) (putT (plP b x).tOf (gDst (opsOf (plL b)) (plK b)) (.i false .u32 (plW b x : Int))) []) = (true, [], (plT2 b x).map AV.bare, [], []) := by cases b <;> kernel_rfl
noncomputable def pl3 (b : Bool) (x : Nat) : Res := jupto Tryd.prog tabN (fun _ => false) 100 (tlOf (plL b)) (plT2 b x) []
theorem pl3_ok (b : Bool) (x : Nat) : (condsP (pl3 b x) [], leafE Tryd.prog Tryd.f68.results.toList 0 [] ((pl3 b x).at [])) = ([], some (.i false .i64 (plV b x), [], true)) := by cases b <;> kernel_rfl
theorem fn68 : Tryd.prog.funcs[68]? = some Tryd.f68 := Tryd.func68
theorem body68 : Tryd.f68.body = some plC := rfl
theorem pl_ok0 (x : Nat) (hn : (FloatKind.f32.decode (plW (flt .f32 x 0) x)).isNaN = false) : CallOK Tryd.prog 68 [.f false .f32 x] [] (.i false .i64 (plV (flt .f32 x 0) x)) [] := by
  have r0 : Reach Tryd.prog [.code plC] ([.f false .f32 x] ++ undefs (Tryd.f68.ntmps - 1)) [] [.code plC] (.f false .f32 x :: undefs 13) [] := .refl _ _ _
  have h := pl0_ok x (flt .f32 x 0)
  simp only [Prod.mk.injEq] at h
  have r1 := r0.trans (way_reach (stop := fun L => atReg 2 L || atReg 3 L) (n := 100) (R := [.code plC]) (p := [flt .f32 x 0]) (M := plM) tabN_sound rfl (by show allT (condsP (pl0 x) [flt .f32 x 0]) = true; rw [h.1]; cases flt .f32 x 0 <;> rfl) h.2 rfl)
  generalize flt .f32 x 0 = b at hn r1
  rw [plL_eq b] at r1
  have hp := plP_ok b x
  simp only [Prod.mk.injEq] at hp
  obtain ⟨⟨p1, p2⟩, p3, p4, p5⟩ := hp
  have hO := plO_ok b
  cases ho : plO b with
  | none => rw [ho] at hO; cases hO
  | some o =>
    rw [ho] at hO p5
    simp only [Option.map_some, Option.some.injEq, Prod.mk.injEq] at hO
    unfold callOf at p5
    split at p5 <;> try (cases p5; done)
    rename_i o' heq
    cases heq
    split at p5 <;> try (cases p5; done)
    rename_i c hop
    have hopx := bits_op (ops := opsOf (plL b)) (k := plK b) (o := o) (c := c) (t := (plP b x).tOf) (H := (plP b x).HOf) ho hO.1 hop hO.2 p5 hn
    rw [p4] at hopx
    have hk : plK b < (opsOf (plL b)).size := (Array.getElem?_eq_some_iff.1 ho).1
    have r2 := r1.trans (region1 (P := Tryd.prog) (T := tabN) (ops := opsOf (plL b)) (id := cond b 2 3) (k := plK b) (todo := tlOf (plL b)) (M := plM2) tabN_sound hk (by show ((plP b x).isStop, (plP b x).todo) = _; rw [p1, p2]) (by show allT (plP b x).nds = true; rw [p3]; rfl) (by show Op1 _ _ _ (plP b x).tOf (plP b x).HOf _ _; rw [p4]; exact hopx) (pl_post b x) rfl)
    have h3 := pl3_ok b x
    simp only [Prod.mk.injEq] at h3
    exact jend_call tabN_sound fn68 body68 r2 (by show allT (condsP (pl3 b x) []) = true; rw [h3.1]; rfl) h3.2 rfl
noncomputable def gPl : List AV → Option (AV × List Bool)
  | [.f _ .f32 x] => some (.i false .i64 (plV (flt .f32 x 0) x), [!(FloatKind.f32.decode (plW (flt .f32 x 0) x)).isNaN])
  | _ => none
theorem pl_at : SoundAt Tryd.prog 68 (pureT gPl) := fun args H nd K => by
  refine pureT_sound (fun args v n h hn H => ?_) args H nd K
  unfold gPl at h
  split at h <;> (try (cases h; done))
  rename_i l x
  cases h
  simp only [allT, Bool.and_true, Bool.not_eq_true'] at hn
  exact ((pl_ok0 x hn).lift rfl rfl H rfl).bare (args' := [.f l .f32 x]) rfl
end Go.Ax

/- internal/strconv.formatBits at base 16: evaluated. -/
namespace Go.Ax
open Go Go.Proofs

noncomputable def tabFb : Table := tabOf (jdeep Tryd.prog [(87, pureT gTz)] [] 3000 8)
theorem tabFb_sound : SoundT Tryd.prog tabFb := jdeep_sound (fun p hp => by
  simp only [List.mem_cons, List.not_mem_nil, or_false] at hp
  subst hp; exact tz_at) 8
noncomputable def fbC : Code := Tryd.f61.body.getD .skip
def fbA (u : Int) (ng : Bool) : List AV := [.slnil, .i false .u64 u, .i true .i64 16, .b true ng, .b true false]
noncomputable def fb0 (u : Int) (ng : Bool) : Res := cupto Tryd.prog tabFb (atReg 30) 1000 [.code fbC] (.slnil :: .i false .u64 u :: .i true .i64 16 :: .b true ng :: .b true false :: undefs 97) []
def fbD (d : Nat) : List Bool := List.replicate d true ++ [false]
noncomputable def fbR (u : Int) (ng : Bool) (d : Nat) : Res := (fb0 u ng).at (fbD d)
noncomputable def fbL : List Item := (fbR 0 false 0).todo ++ []
def digS : List UInt8 := [48, 49, 50, 51, 52, 53, 54, 55, 56, 57, 97, 98, 99, 100, 101, 102, 103, 104, 105, 106, 107, 108, 109, 110, 111, 112, 113, 114, 115, 116, 117, 118, 119, 120, 121, 122]
def chS (i : Int) : Int := (digS.getD i.toNat 0).toNat
def hx4 (u : Int) : Int := u.fdiv (2 ^ min (IntKind.u64.wrap 4).toNat IntKind.u64.bits)
def lo4 (u : Int) : Int := IntKind.u64.wrap ((BitVec.ofInt IntKind.u64.bits u &&& BitVec.ofInt IntKind.u64.bits 15).toNat : Int)
def it4 (u : Int) : Nat → Int
  | 0 => u
  | k + 1 => hx4 (it4 u k)
def uN (ng : Bool) (u : Int) : Int := match ng with
  | true => IntKind.u64.wrap (0 - u)
  | false => u
def inQ (i : Int) : Bool := decide (0 ≤ i) && decide (i < (digS.length : Int))
def ge16 (u : Int) : Bool := leQ false 16 u
/-- The signs, the first ahead. -/
def nsV (u : Int) (ng : Bool) (d : Nat) : List Int := (match ng with
  | true => [45]
  | false => []) ++ (chS (it4 (uN ng u) d) :: (List.range d).reverse.map fun j => chS (lo4 (it4 (uN ng u) j)))
theorem fb_conds (u : Int) (ng : Bool) : ((List.range 8).map fun d => (condsP (fb0 u ng) (fbD d), (fbR u ng d).isStop, (fbR u ng d).todo)) = (List.range 8).map fun d => ((List.range d).map (fun j => ge16 (it4 (uN ng u) j)) ++ [!ge16 (it4 (uN ng u) d)], true, fbL) := by cases ng <;> kernel_rfl
theorem fb_nds (u : Int) (ng : Bool) : ((List.range 8).map fun d => (fbR u ng d).nds) = (List.range 8).map fun d => inQ (it4 (uN ng u) d) :: ((List.range d).reverse.map (fun j => inQ (lo4 (it4 (uN ng u) j))) ++ [true]) := by cases ng <;> kernel_rfl
noncomputable def fbP (u : Int) (ng : Bool) (d : Nat) : Res := preO Tryd.prog tabFb (opsOf fbL) 2 (fbR u ng d).tOf (fbR u ng d).HOf
def lenD (ng : Bool) (d : Nat) : Nat := match ng with
  | true => d + 2
  | false => d + 1
theorem fb_pre (u : Int) (ng : Bool) : ((List.range 8).map fun d => ((fbP u ng d).isStop, (fbP u ng d).todo, (fbP u ng d).nds, evA (fbP u ng d).tOf (.tmp 100))) = (List.range 8).map fun d => (true, [], [], .sl true 0 (65 - lenD ng d) (lenD ng d) 1) := by cases ng <;> kernel_rfl
end Go.Ax

/- internal/strconv.formatBits at base 16: its contract. -/
namespace Go.Ax
open Go Go.Proofs

def slB (H : List AB) (off n : Nat) : Option (Bool × List AV × Nat × List Bool) := match sliceCells H 1 (.sl true 0 off n 1) with
  | some (l, B, m, nb) => some (l, B.toL.map AV.bare, m, nb)
  | none => none
theorem fb_cells (u : Int) (ng : Bool) : ((List.range 8).map fun d => (slB (fbP u ng d).HOf (65 - lenD ng d) (lenD ng d), (fbP u ng d).HOf.length)) = (List.range 8).map fun d => (some (true, (nsV u ng d).map (.i false .u8), lenD ng d, []), 1) := by cases ng <;> kernel_rfl
def fbT2 (x : List UInt8) : List AV := tmpsOf 102 [(10, .slnil), (11, .s false x)]
def fbM2 : List Bool := maskOf 102 [(10, .any), (11, .any)]
theorem fb_post (u : Int) (ng : Bool) (x : List UInt8) (H : List AB) : ((List.range 8).map fun d => lfM fbM2 (postO Tryd.prog tabFb (opsOf fbL) 2 (putT (fbP u ng d).tOf (gDst (opsOf fbL) 2) (.s false x)) H)) = (List.range 8).map fun _ => (true, [], (fbT2 x).map AV.bare, H, []) := by cases ng <;> kernel_rfl
theorem fb_drop (x : List UInt8) (B : AB) : dropsT 0 [0] (fbT2 x) [B] = (true, fbT2 x, []) := by kernel_rfl
noncomputable def fb3 (x : List UInt8) : Res := jupto Tryd.prog tabFb (fun _ => false) 100 (tlOf fbL) (fbT2 x) []
theorem fb3_ok (x : List UInt8) : (condsP (fb3 x) [], leafE Tryd.prog Tryd.f61.results.toList 0 [] ((fb3 x).at [])) = ([], some (.tup [.slnil, .s false x], [], true)) := by kernel_rfl
theorem fbL_eq : fbL = .code (.region 30 (opsOf fbL) false) :: tlOf fbL := by kernel_rfl
noncomputable def fbO : Option Oper := (opsOf fbL)[2]?
theorem fbO_eq : (fbO.map fun o => (o.guard, o.op)) = some (none, .convert 102 9 (.tmp 100)) := by kernel_rfl
theorem fn61 : Tryd.prog.funcs[61]? = some Tryd.f61 := Tryd.func61
theorem body61 : Tryd.f61.body = some fbC := rfl

/-! ### Digits -/
def dgC (n : Nat) : UInt8 := digS.getD n 0
def hexD : Nat → Nat → List UInt8
  | 0, _ => []
  | k + 1, n => hexD k (n / 16) ++ [dgC (n % 16)]
/-- The text of a number of at least 0 at base 16. -/
def hexT (fuel n : Nat) : List UInt8 := match fuel with
  | 0 => []
  | f + 1 => bif decide (n < 16) then [dgC n] else hexT f (n / 16) ++ [dgC (n % 16)]
theorem hx4_nat (n : Nat) : hx4 (n : Int) = ((n / 16 : Nat) : Int) := by
  unfold hx4
  have e : (2 : Int) ^ min (IntKind.u64.wrap 4).toNat IntKind.u64.bits = 16 := rfl
  rw [e, Int.fdiv_eq_ediv_of_nonneg _ (by decide)]
  rfl
theorem it4_nat (n : Nat) : ∀ k, it4 (n : Int) k = ((n / 16 ^ k : Nat) : Int)
  | 0 => by simp [it4]
  | k + 1 => by
    rw [it4, it4_nat n k, hx4_nat, Nat.div_div_eq_div_mul, Nat.pow_succ]
theorem lo4_nat (n : Nat) (h : n < 18446744073709551616) : lo4 (n : Int) = ((n % 16 : Nat) : Int) := by
  unfold lo4
  have h1 : (BitVec.ofInt IntKind.u64.bits (n : Int) &&& BitVec.ofInt IntKind.u64.bits 15).toNat = n % 16 := by
    rw [BitVec.toNat_and]
    have e1 : (BitVec.ofInt IntKind.u64.bits (n : Int)).toNat = n := by
      rw [BitVec.ofInt_natCast, BitVec.toNat_ofNat]
      exact Nat.mod_eq_of_lt h
    have e2 : (BitVec.ofInt IntKind.u64.bits 15).toNat = 15 := rfl
    rw [e1, e2]
    exact Nat.and_two_pow_sub_one_eq_mod n 4
  rw [h1]
  exact wrapU64_id (by omega) (by omega)
theorem ge16_nat (n : Nat) : ge16 (n : Int) = decide (16 ≤ n) := by
  unfold ge16
  rw [leQ_eq, Bool.eq_iff_iff]; simp; omega
theorem chS_nat (n : Nat) : chS (n : Int) = ((dgC n).toNat : Int) := rfl
/-- The text out of the digits that the loop makes. -/
theorem hex_digits : ∀ (d n f : Nat), (∀ j, j < d → 16 ≤ n / 16 ^ j) → n / 16 ^ d < 16 → d < f → hexT f n = (dgC (n / 16 ^ d)) :: (List.range d).reverse.map fun j => dgC (n / 16 ^ j % 16)
  | 0, n, f, _, h, hf => by
    match f, hf with
    | f + 1, _ =>
      have : n < 16 := by simpa using h
      simp [hexT, this]
  | d + 1, n, f, h1, h, hf => by
    match f, hf with
    | f + 1, hf =>
      have h0 : ¬ n < 16 := by have := h1 0 (by omega); simpa using this
      have e : ∀ j, n / 16 / 16 ^ j = n / 16 ^ (j + 1) := fun j => by rw [Nat.div_div_eq_div_mul, Nat.pow_succ, Nat.mul_comm]
      have ih := hex_digits d (n / 16) f (fun j hj => by rw [e]; exact h1 (j + 1) (by omega)) (by rw [e]; exact h) (by omega)
      simp only [hexT, h0, decide_false, cond_false]
      rw [ih, List.range_succ_eq_map, List.reverse_cons, List.map_append]
      simp only [e, List.cons_append, List.map_cons, List.map_nil, Nat.pow_zero, Nat.div_one, List.map_reverse, List.map_map]
      rfl
def hexN (n : Nat) : List UInt8 := hexT 8 n
def fbV (ng : Bool) (n : Nat) : List UInt8 := match ng with
  | true => 45 :: hexN n
  | false => hexN n
theorem digits_of (n : Nat) (hn : n < 4294967296) : ∃ d, d < 8 ∧ (∀ j, j < d → 16 ≤ n / 16 ^ j) ∧ n / 16 ^ d < 16 := by
  have : ∀ d, d ≤ 7 → (∃ e, e ≤ d ∧ (∀ j, j < e → 16 ≤ n / 16 ^ j) ∧ n / 16 ^ e < 16) ∨ ∀ j, j ≤ d → 16 ≤ n / 16 ^ j := by
    intro d
    induction d with
    | zero =>
      intro _
      by_cases h : n / 16 ^ 0 < 16
      · exact .inl ⟨0, Nat.le_refl _, fun j hj => by omega, h⟩
      · exact .inr fun j hj => by
          have : j = 0 := by omega
          subst this; omega
    | succ d ih =>
      intro hd
      rcases ih (by omega) with ⟨e, h1, h2, h3⟩ | h
      · exact .inl ⟨e, by omega, h2, h3⟩
      · by_cases h4 : n / 16 ^ (d + 1) < 16
        · exact .inl ⟨d + 1, Nat.le_refl _, fun j hj => h j (by omega), h4⟩
        · exact .inr fun j hj => by
            rcases Nat.lt_or_ge j (d + 1) with h5 | h5
            · exact h j (by omega)
            · have : j = d + 1 := by omega
              subst this; omega
  rcases this 7 (Nat.le_refl _) with ⟨e, h1, h2, h3⟩ | h
  · exact ⟨e, by omega, h2, h3⟩
  · have := h 7 (Nat.le_refl _)
    have e7 : 16 ^ 7 = 268435456 := rfl
    rw [e7] at this
    omega
theorem fb_ok0 (u : Int) (ng : Bool) (n : Nat) (hu : uN ng u = (n : Int)) (hn : n < 4294967296) : CallOK Tryd.prog 61 (fbA u ng) [] (.tup [.slnil, .s false (fbV ng n)]) [] := by
  have r0 : Reach Tryd.prog [.code fbC] (fbA u ng ++ undefs (Tryd.f61.ntmps - 5)) [] [.code fbC] (.slnil :: .i false .u64 u :: .i true .i64 16 :: .b true ng :: .b true false :: undefs 97) [] := .refl _ _ _
  obtain ⟨d, hd, h1, h2⟩ := digits_of n hn
  have hdm := List.mem_range.2 hd
  have hit : ∀ k, it4 (uN ng u) k = ((n / 16 ^ k : Nat) : Int) := fun k => by rw [hu]; exact it4_nat n k
  have hlt : ∀ k, n / 16 ^ k < 18446744073709551616 := fun k => Nat.lt_of_le_of_lt (Nat.div_le_self _ _) (by omega)
  have c1 := List.map_inj_left.1 (fb_conds u ng) d hdm
  simp only [Prod.mk.injEq] at c1
  obtain ⟨c1, c2, c3⟩ := c1
  have hc : allT (condsP (fb0 u ng) (fbD d)) = true := by
    rw [c1]
    refine allT_of fun b hb => ?_
    simp only [List.mem_append, List.mem_map, List.mem_range, List.mem_cons, List.not_mem_nil, or_false] at hb
    rcases hb with ⟨j, hj, rfl⟩ | rfl
    · rw [hit, ge16_nat]; simpa using h1 j hj
    · rw [hit, ge16_nat]; simpa using h2
  have dl : digS.length = 36 := rfl
  have hnd : allT (fbR u ng d).nds = true := by
    rw [List.map_inj_left.1 (fb_nds u ng) d hdm]
    refine allT_of fun b hb => ?_
    simp only [List.mem_append, List.mem_map, List.mem_reverse, List.mem_range, List.mem_cons, List.not_mem_nil, or_false] at hb
    rcases hb with rfl | ⟨j, hj, rfl⟩ | rfl
    · rw [hit]; generalize n / 16 ^ d = m at h2; simp [inQ, dl]; omega
    · rw [hit, lo4_nat _ (hlt j)]; generalize n / 16 ^ j = m; simp [inQ, dl]; omega
    · rfl
  have r1 : Reach Tryd.prog [.code fbC] (fbA u ng ++ undefs (Tryd.f61.ntmps - 5)) [] fbL (fbR u ng d).tOf (fbR u ng d).HOf := by
    rw [← c3]
    exact r0.trans (one_reach (P := Tryd.prog) (T := tabFb) (stop := atReg 30) (n := 1000) tabFb_sound (sel_of_conds _ _ hc) c2 hnd)
  rw [fbL_eq] at r1
  have p := List.map_inj_left.1 (fb_pre u ng) d hdm
  simp only [Prod.mk.injEq] at p
  obtain ⟨p1, p2, p3, p4⟩ := p
  have q := List.map_inj_left.1 (fb_cells u ng) d hdm
  simp only [Prod.mk.injEq] at q
  obtain ⟨q1, q2⟩ := q
  obtain ⟨B, hB⟩ : ∃ B, (fbP u ng d).HOf = [B] := by
    match h : (fbP u ng d).HOf, q2 with
    | [B], _ => exact ⟨B, rfl⟩
  have hO := fbO_eq
  cases ho : fbO with
  | none => rw [ho] at hO; cases hO
  | some o =>
    rw [ho] at hO
    simp only [Option.map_some, Option.some.injEq, Prod.mk.injEq] at hO
    unfold slB at q1
    split at q1 <;> try (cases q1; done)
    rename_i l' C m nb hsl
    simp only [Option.some.injEq, Prod.mk.injEq] at q1
    obtain ⟨rfl, hC, rfl, rfl⟩ := q1
    have hop := cvS_op (P := Tryd.prog) (ops := opsOf fbL) (k := 2) (o := o) (src := 102) (dst := 9) (e := 5) (x := .tmp 100) (t := (fbP u ng d).tOf) (H := (fbP u ng d).HOf) ho hO.1 hO.2 rfl p4 Tryd.underlying102 Tryd.underlying5 Tryd.underlying9 hsl rfl hC
    have r2 := r1.trans (region1 (P := Tryd.prog) (T := tabFb) (ops := opsOf fbL) (id := 30) (k := 2) (todo := tlOf fbL) (M := fbM2) (t' := fbT2 ((nsV u ng d).map fun (n : Int) => UInt8.ofNat n.toNat)) tabFb_sound (Array.getElem?_eq_some_iff.1 ho).1 (by show ((fbP u ng d).isStop, (fbP u ng d).todo) = _; rw [p1, p2]) (by show allT (fbP u ng d).nds = true; rw [p3]; rfl) hop (List.map_inj_left.1 (fb_post u ng ((nsV u ng d).map fun (n : Int) => UInt8.ofNat n.toNat) (fbP u ng d).HOf) d hdm) rfl)
    have r2' := r2
    rw [hB] at r2'
    have r3 := r2'.drops (ks := [0]) (fb_drop _ B)
    have hx : (nsV u ng d).map (fun (n : Int) => UInt8.ofNat n.toNat) = fbV ng n := by
      have hdig : (chS (it4 (uN ng u) d) :: (List.range d).reverse.map fun j => chS (lo4 (it4 (uN ng u) j))).map (fun (n : Int) => UInt8.ofNat n.toNat) = hexN n := by
        unfold hexN
        rw [hex_digits d n 8 h1 h2 hd]
        simp only [List.map_cons, List.map_map]
        rw [hit, chS_nat]
        have eU : ∀ c : UInt8, UInt8.ofNat (c.toNat : Int).toNat = c := fun c => by simp
        rw [eU]
        congr 1
        refine List.map_congr_left fun j _ => ?_
        simp only [Function.comp]
        rw [hit, lo4_nat _ (hlt j), chS_nat, eU]
      unfold nsV fbV
      cases ng with
      | true => rw [← hdig]; rfl
      | false => rw [← hdig]; rfl
    rw [hx] at r3
    have h3 := fb3_ok (fbV ng n)
    simp only [Prod.mk.injEq] at h3
    exact jend_call tabFb_sound fn61 body61 r3 (by show allT (condsP (fb3 (fbV ng n)) []) = true; rw [h3.1]; rfl) h3.2 rfl
end Go.Ax

/- impl.placeText: a row. -/
namespace Go.Ax
open Go Go.Proofs

def gFb : List AV → Option (AV × List Bool)
  | [.slnil, .i _ .u64 u, .i _ .i64 b, .b _ ng, .b _ ap] => some (.tup [.slnil, .s false (fbV ng (uN ng u).toNat)], [decide (b = 16), !ap, decide (0 ≤ uN ng u), decide (uN ng u < 4294967296)])
  | _ => none
theorem fb_at : SoundAt Tryd.prog 61 (pureT gFb) := fun args H nd K => by
  refine pureT_sound (fun args v n h hn H => ?_) args H nd K
  unfold gFb at h
  split at h <;> (try (cases h; done))
  rename_i l1 u l2 b l3 ng l4 ap
  cases h
  simp only [allT, Bool.and_true, Bool.and_eq_true, decide_eq_true_eq, Bool.not_eq_true'] at hn
  obtain ⟨rfl, rfl, h0, h1⟩ := hn
  have := fb_ok0 u ng (uN ng u).toNat (by omega) (by omega)
  exact (this.lift rfl rfl H rfl).bare rfl
noncomputable def tabPt : Table := tabOf (jdeep Tryd.prog [(61, pureT gFb), (68, pureT gPl)] [56] 3000 8)
theorem tabPt_sound : SoundT Tryd.prog tabPt := jdeep_sound (fun p hp => by
  simp only [List.mem_cons, List.not_mem_nil, or_false] at hp
  rcases hp with rfl | rfl
  · exact fb_at
  · exact pl_at) 8
noncomputable def pt0 (x : Nat) : Res := tabPt 56 [.f false .f32 x] [] [] fun v H nd => .ret v H nd
/-- The place of a number. -/
def plI (x : Nat) : Int := plV (flt .f32 x 0) x
def fmS (i : Int) : List UInt8 := fbV (ltQ false i 0) (uN (ltQ false i 0) (IntKind.u64.wrap i)).toNat
def fmQ (i : Int) : List Bool := [decide (0 ≤ uN (ltQ false i 0) (IntKind.u64.wrap i)), decide (uN (ltQ false i 0) (IntKind.u64.wrap i) < 4294967296)]
theorem pt0_ok (x : Nat) : (condsP (pt0 x) [], leafD 0 [] ((pt0 x).at [])) = ([], some (.s false (fmS (plI x)), [], decide ((16 : Int) = 16) :: (!false) :: (fmQ (plI x) ++ [!(FloatKind.f32.decode (plW (flt .f32 x 0) x)).isNaN]))) := by kernel_rfl
noncomputable def gPt : List AV → Option (AV × List Bool)
  | [.f _ .f32 x] => some (.s false (fmS (plI x)), fmQ (plI x) ++ [!(FloatKind.f32.decode (plW (flt .f32 x 0) x)).isNaN])
  | _ => none
theorem pt_at : SoundAt Tryd.prog 56 (pureT gPt) := fun args H nd K => by
  refine pureT_sound (fun args v n h hn H => ?_) args H nd K
  unfold gPt at h
  split at h <;> (try (cases h; done))
  rename_i l x
  cases h
  have h0 := pt0_ok x
  have := call_of_leaf tabPt_sound h0 rfl (by simp only [allT, hn]; rfl)
  exact (this.lift rfl rfl H rfl).bare (args' := [.f l .f32 x]) rfl
end Go.Ax

/- internal/strconv.ParseUint at base 16: its contract. -/
namespace Go.Ax
open Go Go.Proofs

inductive PuO where
  | ok (n : Nat)
  | syn
  | rng
/-- The value of a sign at base 16, of either case. -/
def hexAny (c : UInt8) : Option Nat := bif isD c.toNat then some (dvD c.toNat).toNat else bif isL c.toNat then (bif bigD (dvL c.toNat) then none else some (dvL c.toNat).toNat) else none
def puF : List UInt8 → Nat → PuO
  | [], n => .ok n
  | c :: cs, n => match hexAny c with
    | some d => bif decide (1152921504606846976 ≤ n) then .rng else puF cs (16 * n + d)
    | none => .syn
def outV : PuO → AV
  | .ok n => .tup [.i false .u64 n, .inil]
  | .syn => synV
  | .rng => rngV
theorem tabD : ((List.range 256).all fun c => !isD (c : Int) || (!bigD (dvD (c : Int)) && (decide (0 ≤ dvD (c : Int)) && decide (dvD (c : Int) < 16)))) = true := by kernel_rfl
theorem tabL : ((List.range 256).all fun c => !isL (c : Int) || (bigD (dvL (c : Int)) || (decide (0 ≤ dvL (c : Int)) && decide (dvL (c : Int) < 16)))) = true := by kernel_rfl
theorem isD_spec {c : UInt8} (h : isD c.toNat = true) : bigD (dvD c.toNat) = false ∧ 0 ≤ dvD c.toNat ∧ dvD c.toNat < 16 := by
  have := List.all_eq_true.1 tabD c.toNat (List.mem_range.2 c.toNat_lt)
  rw [h] at this
  simp only [Bool.not_true, Bool.false_or, Bool.and_eq_true, Bool.not_eq_true', decide_eq_true_eq] at this
  exact this
theorem isL_spec {c : UInt8} (h : isL c.toNat = true) (hb : bigD (dvL c.toNat) = false) : 0 ≤ dvL c.toNat ∧ dvL c.toNat < 16 := by
  have := List.all_eq_true.1 tabL c.toNat (List.mem_range.2 c.toNat_lt)
  rw [h, hb] at this
  simp only [Bool.not_true, Bool.false_or, Bool.and_eq_true, decide_eq_true_eq] at this
  exact this
theorem bC_eq {x : List UInt8} {k : Nat} {c : UInt8} (h : x[k]? = some c) : bC x k = (c.toNat : Int) := by
  simp [bC, bz, List.getD_eq_getElem?_getD, h]
theorem puI_ok {x : List UInt8} {k : Nat} (h : k < x.length) : allT (puI x k) = true := by simp [puI, allT, Cells.len, bz]; omega
theorem fn80 : Tryd.prog.funcs[80]? = some Tryd.f80 := Tryd.func80
theorem body80 : Tryd.f80.body = some puC := rfl
def puArgs (x : List UInt8) : List AV := [.s false x, .i true .i64 16, .i true .i64 64]
theorem nx_eq {n : Nat} {d : Int} (hn : n < 1152921504606846976) (h0 : 0 ≤ d) (h1 : d < 16) : nxU n d = ((16 * n + d.toNat : Nat) : Int) ∧ ovf n d = false := by
  have e16 : IntKind.u64.wrap 16 = 16 := rfl
  have ew : wrapQ false .u64 ((n : Int) * IntKind.u64.wrap 16) = (n : Int) * 16 := by rw [wrapQ_eq, e16, wrapU64_id (by omega) (by omega)]
  have e1 : nxU n d = ((16 * n + d.toNat : Nat) : Int) := by
    unfold nxU
    rw [ew, wrapU64_id h0 (by omega), wrapQ_eq, wrapU64_id (by omega) (by omega)]
    omega
  refine ⟨e1, ?_⟩
  unfold ovf
  rw [e1, ew, ltQ_eq, ltQ_eq]
  have a1 : decide (((16 * n + d.toNat : Nat) : Int) < (n : Int) * 16) = false := by simp; omega
  have a2 : decide ((18446744073709551615 : Int) < ((16 * n + d.toNat : Nat) : Int)) = false := by simp; omega
  rw [a1, a2]; rfl
theorem pu_loop (x : List UInt8) (hx : x.length ≤ 1048576) : ∀ (m k n : Nat) (L : List Item), k + m = x.length → toLp L = toLp puR → Reach Tryd.prog [.code puC] (puArgs x ++ undefs (Tryd.f80.ntmps - 3)) [] L (puT x n k) (bb x) →
    CallOK Tryd.prog 80 (puArgs x) [] (outV (puF (x.drop k) n)) []
  | 0, k, n, L, hk, hL, hr => by
    have hk' : k = x.length := by omega
    subst hk'
    have h := puU_end x n x.length
    simp only [Prod.mk.injEq] at h
    have := jend_lp (ks := [0]) tabN_sound hL fn80 body80 hr (by show allT (condsP (puU x n x.length) [false]) = true; rw [h.1]; unfold kQ; rw [ltQ_same]; rfl) h.2 rfl
    have e : x.drop x.length = [] := by simp
    rw [e]
    exact this
  | m + 1, k, n, L, hk, hL, hr => by
    have hkl : k < x.length := by omega
    obtain ⟨c, hc⟩ : ∃ c, x[k]? = some c := ⟨_, List.getElem?_eq_getElem hkl⟩
    have hd : x.drop k = c :: x.drop (k + 1) := by
      rw [List.drop_eq_getElem_cons hkl]
      have := (List.getElem?_eq_some_iff.1 hc).2
      rw [this]
    have hkq : kQ x k = true := ltQ_true hkl
    have hch := bC_eq hc
    have hnx : wrapQ false .i64 (Int.ofNat k + 1) = Int.ofNat (k + 1) := ofNat_next (by omega)
    rw [hd]
    simp only [puF]
    have hle : leQ false 1152921504606846976 (n : Int) = decide (1152921504606846976 ≤ n) := by
      rw [leQ_eq, Bool.eq_iff_iff]; simp; omega
    cases hD : isD c.toNat with
    | true =>
      obtain ⟨b1, b2, b3⟩ := isD_spec hD
      have hA : hexAny c = some (dvD c.toNat).toNat := by unfold hexAny; rw [hD]; rfl
      rw [hA]
      dsimp only
      cases hb : decide (1152921504606846976 ≤ n) with
      | true =>
        have h := puU_rD x n k
        simp only [Prod.mk.injEq] at h
        exact jend_lp (ks := [0]) tabN_sound hL fn80 body80 hr (by show allT (condsP (puU x n k) [true, true, false, true]) = true; rw [h.1, hkq, hch, hD, b1, hle, hb]; rfl) h.2 (puI_ok hkl)
      | false =>
        obtain ⟨e1, e2⟩ := nx_eq (n := n) (d := dvD c.toNat) (by simpa using hb) b2 b3
        have h := puU_dig x n k
        simp only [Prod.mk.injEq] at h
        rw [hch, e1, hnx] at h
        have r2 := hr.trans (way_reach (stop := atLoop) (n := 200) (R := puR) (p := [true, true, false, false, false]) (M := puM) tabN_sound hL (by show allT (condsP (puU x n k) [true, true, false, false, false]) = true; rw [h.1, hkq, hD, b1, hle, hb, e2]; rfl) h.2 (puI_ok hkl))
        exact pu_loop x hx m (k + 1) _ puR (by omega) rfl r2
    | false =>
      cases hL2 : isL c.toNat with
      | false =>
        have hA : hexAny c = none := by unfold hexAny; rw [hD, hL2]; rfl
        rw [hA]
        dsimp only
        have h := puU_non x n k
        simp only [Prod.mk.injEq] at h
        exact jend_lp (ks := [0]) tabN_sound hL fn80 body80 hr (by show allT (condsP (puU x n k) [true, false, false]) = true; rw [h.1, hkq, hch, hD, hL2]; rfl) h.2 (puI_ok hkl)
      | true =>
        cases hB : bigD (dvL c.toNat) with
        | true =>
          have hA : hexAny c = none := by unfold hexAny; rw [hD, hL2, hB]; rfl
          rw [hA]
          dsimp only
          have h := puU_big x n k
          simp only [Prod.mk.injEq] at h
          exact jend_lp (ks := [0]) tabN_sound hL fn80 body80 hr (by show allT (condsP (puU x n k) [true, false, true, true]) = true; rw [h.1, hkq, hch, hD, hL2, hB]; rfl) h.2 (puI_ok hkl)
        | false =>
          obtain ⟨b2, b3⟩ := isL_spec hL2 hB
          have hA : hexAny c = some (dvL c.toNat).toNat := by unfold hexAny; rw [hD, hL2, hB]; rfl
          rw [hA]
          dsimp only
          cases hb : decide (1152921504606846976 ≤ n) with
          | true =>
            have h := puU_rL x n k
            simp only [Prod.mk.injEq] at h
            exact jend_lp (ks := [0]) tabN_sound hL fn80 body80 hr (by show allT (condsP (puU x n k) [true, false, true, false, true]) = true; rw [h.1, hkq, hch, hD, hL2, hB, hle, hb]; rfl) h.2 (puI_ok hkl)
          | false =>
            obtain ⟨e1, e2⟩ := nx_eq (n := n) (d := dvL c.toNat) (by simpa using hb) b2 b3
            have h := puU_let x n k
            simp only [Prod.mk.injEq] at h
            rw [hch, e1, hnx] at h
            have r2 := hr.trans (way_reach (stop := atLoop) (n := 200) (R := puR) (p := [true, false, true, false, false, false]) (M := puM) tabN_sound hL (by show allT (condsP (puU x n k) [true, false, true, false, false, false]) = true; rw [h.1, hkq, hD, hL2, hB, hle, hb, e2]; rfl) h.2 (puI_ok hkl))
            exact pu_loop x hx m (k + 1) _ puR (by omega) rfl r2
/-- What ParseUint gives. -/
def puV (x : List UInt8) : PuO := match x with
  | [] => .syn
  | c :: cs => puF (c :: cs) 0
theorem pu_ok0 (x : List UInt8) (hx : x.length ≤ 1048576) : CallOK Tryd.prog 80 (puArgs x) [] (outV (puV x)) [] := by
  have r0 : Reach Tryd.prog [.code puC] (puArgs x ++ undefs (Tryd.f80.ntmps - 3)) [] [.code puC] (.s false x :: .i true .i64 16 :: .i true .i64 64 :: undefs 169) [] := .refl _ _ _
  match x, hx, r0 with
  | [], hx, r0 =>
    have h := pu0_bad []
    simp only [Prod.mk.injEq] at h
    exact jend_call tabN_sound fn80 body80 r0 (by show allT (condsP (pu0 []) [true]) = true; rw [h.1]; rfl) h.2 rfl
  | c :: cs, hx, r0 =>
    have h := pu0_go (c :: cs)
    simp only [Prod.mk.injEq] at h
    have r1 := r0.trans (way_reach (stop := atReg 35) (n := 200) (R := [.code puC]) (p := [false]) (M := puM0) tabN_sound rfl (by show allT (condsP (pu0 (c :: cs)) [false]) = true; rw [h.1]; rfl) h.2 rfl)
    rw [puL_eq] at r1
    have hp := pu_pre (c :: cs)
    simp only [Prod.mk.injEq] at hp
    obtain ⟨⟨p1, p2⟩, p3, p4, p5⟩ := hp
    have hO := puO_eq
    cases ho : puO with
    | none => rw [ho] at hO; cases hO
    | some o =>
      rw [ho] at hO
      simp only [Option.map_some, Option.some.injEq, Prod.mk.injEq] at hO
      have hop := cvB_op (P := Tryd.prog) (ops := opsOf puL) (k := 1) (o := o) (src := 9) (dst := 102) (e := 5) (x := .tmp 98) (t := (preO Tryd.prog tabN (opsOf puL) 1 (puT0 (c :: cs)) []).tOf) (H := (preO Tryd.prog tabN (opsOf puL) 1 (puT0 (c :: cs)) []).HOf) ho hO.1 hO.2 rfl p5 Tryd.underlying9 Tryd.underlying102 Tryd.underlying5
      rw [p4] at hop
      have r2 := r1.trans (region1 (P := Tryd.prog) (T := tabN) (ops := opsOf puL) (id := 35) (k := 1) (todo := tlOf puL) (M := puM) tabN_sound (Nat.le_of_ble_eq_true (show Nat.ble 2 (opsOf puL).size = true by kernel_rfl)) (by rw [p1, p2]) (by rw [p3]; rfl) (by rw [p4]; exact hop) (pu_post (c :: cs)) rfl)
      have hZ := puZ_ok (c :: cs)
      have r3 := r2.trans (way_reach (stop := atLoop) (n := 200) (R := tlOf puL) (p := []) (M := puM) tabN_sound rfl (by rw [conds_nil]; rfl) (by rw [at_nil]; exact hZ) rfl)
      have := pu_loop (c :: cs) hx (c :: cs).length 0 0 puLp (by omega) (by unfold puR; kernel_rfl) r3
      exact this
end Go.Ax

/- strconv.ParseInt at base 16: evaluated. -/
namespace Go.Ax
open Go Go.Proofs

def puN : PuO → Nat
  | .ok n => n
  | _ => 0
def puOk : PuO → Bool
  | .ok _ => true
  | _ => false
def puSyn : PuO → Bool
  | .syn => true
  | _ => false
/-- The row of ParseUint: a number, or one of two errors. -/
noncomputable def puRow : Table := fun _ args H nd K => match args with
  | [.s _ x, .i _ .i64 b, .i _ .i64 z] => .ite (puOk (puV x)) (K (.tup [.i false .u64 (puN (puV x)), .inil]) H ((decide (b = 16) && (decide (z = 64) && decide (x.length ≤ 1048576))) :: nd))
      (.ite (puSyn (puV x)) (K synV H ((decide (b = 16) && (decide (z = 64) && decide (x.length ≤ 1048576))) :: nd)) (K rngV H ((decide (b = 16) && (decide (z = 64) && decide (x.length ≤ 1048576))) :: nd)))
  | _ => .fail
theorem pu_at : SoundAt Tryd.prog 80 puRow := fun args H nd K => by
  unfold puRow
  split
  case h_2 => exact .inl rfl
  rename_i l x l' b l2 z
  have key : ∀ {nd' : List Bool}, allT ((decide (b = 16) && (decide (z = 64) && decide (x.length ≤ 1048576))) :: nd') = true → allT nd' = true ∧ CallOK Tryd.prog 80 [.s l x, .i l' .i64 b, .i l2 .i64 z] H (outV (puV x)) H := fun {nd'} hn => by
    simp only [allT, Bool.and_eq_true, decide_eq_true_eq] at hn
    obtain ⟨⟨rfl, rfl, h3⟩, hnd⟩ := hn
    refine ⟨hnd, ?_⟩
    exact ((pu_ok0 x h3).lift (by cases puV x <;> rfl) rfl H rfl).bare rfl
  cases hv : puV x with
  | ok n =>
    refine .inr ⟨_, _, _, by simp only [Res.sel, puOk, if_true]; rfl, fun hn => ?_⟩
    have := key hn
    rw [hv] at this
    exact this
  | syn =>
    refine .inr ⟨_, _, _, by simp only [Res.sel, puOk, puSyn, if_true]; rfl, fun hn => ?_⟩
    have := key hn
    rw [hv] at this
    exact this
  | rng =>
    refine .inr ⟨_, _, _, by simp only [Res.sel, puOk, puSyn]; rfl, fun hn => ?_⟩
    have := key hn
    rw [hv] at this
    exact this
noncomputable def tabPi : Table := tabOf (jdeep Tryd.prog [(80, puRow), (81, pureT gErr), (82, pureT gErr)] [53, 66, 67] 3000 8)
theorem tabPi_sound : SoundT Tryd.prog tabPi := jdeep_sound (fun p hp => by
  simp only [List.mem_cons, List.not_mem_nil, or_false] at hp
  rcases hp with rfl | rfl | rfl
  · exact pu_at
  · exact syn_at
  · exact rng_at) 8
noncomputable def pi0 (x : List UInt8) : Res := tabPi 53 [.s false x, .i true .i64 16, .i true .i64 64] [] [] fun v H nd => .ret v H nd
def x0 (x : List UInt8) : Int := (x.getD (Int.toNat 0) 0).toNat
def ngB (x : List UInt8) : Bool := bif eqQ false (x0 x) 43 then false else eqQ false (x0 x) 45
def drV (x : List UInt8) : List UInt8 := bif eqQ false (x0 x) 43 then List.drop (Int.toNat 1) (List.take x.length x) else bif eqQ false (x0 x) 45 then List.drop (Int.toNat 1) (List.take x.length x) else x
def unV (x : List UInt8) : Int := (puN (puV (drV x)) : Int)
def cut1 (x : List UInt8) : Bool := decide ((0 : Int) ≤ 1) && true && decide (Int.toNat 1 ≤ x.length) && decide (x.length ≤ x.length)
def piQ (x : List UInt8) : List Bool := [decide ((16 : Int) = 16) && (decide ((64 : Int) = 64) && decide ((drV x).length ≤ 1048576)),
  bif eqQ false (x0 x) 43 then andT [cut1 x] else true, bif !eqQ false (x0 x) 43 then andT (guardL (eqQ false (x0 x) 45) [cut1 x] ++ guardL (!eqQ false (x0 x) 45) []) else true, ix0 x]
def big1 (b : Bool) (n : Int) : Bool := bif !b then leQ false 9223372036854775808 n else false
def big2 (b : Bool) (n : Int) : Bool := bif b then ltQ false 9223372036854775808 n else false
def lnB (x : List UInt8) : Bool := decide (x.length ≤ 1048576)
def piVal (x : List UInt8) : Int := bif ngB x then IntKind.i64.wrap (0 - IntKind.i64.wrap (unV x)) else IntKind.i64.wrap (unV x)
theorem pi_1 (x : List UInt8) : (condsP (pi0 x) [true], leafD 0 [] ((pi0 x).at [true])) = ([strQ x], some (.tup [.i true .i64 0, .ifc 122 .any], [], [lnB x])) := by kernel_rfl
theorem pi_2 (x : List UInt8) : (condsP (pi0 x) [false, true, true], leafD 0 [] ((pi0 x).at [false, true, true])) = ([!strQ x, puOk (puV (drV x)), big1 (ngB x) (unV x)], some (.tup [.i true .i64 9223372036854775807, .ifc 122 .any], [], lnB x :: piQ x)) := by kernel_rfl
theorem pi_3 (x : List UInt8) : (condsP (pi0 x) [false, true, false, true], leafD 0 [] ((pi0 x).at [false, true, false, true])) = ([!strQ x, puOk (puV (drV x)), !big1 (ngB x) (unV x), big2 (ngB x) (unV x)], some (.tup [.i true .i64 (-9223372036854775808), .ifc 122 .any], [], lnB x :: piQ x)) := by kernel_rfl
theorem pi_4 (x : List UInt8) : (condsP (pi0 x) [false, true, false, false], leafD 0 [] ((pi0 x).at [false, true, false, false])) = ([!strQ x, puOk (puV (drV x)), !big1 (ngB x) (unV x), !big2 (ngB x) (unV x)], some (.tup [.i false .i64 (piVal x), .inil], [], piQ x)) := by kernel_rfl
theorem pi_5 (x : List UInt8) : (condsP (pi0 x) [false, false, true], leafD 0 [] ((pi0 x).at [false, false, true])) = ([!strQ x, !puOk (puV (drV x)), puSyn (puV (drV x))], some (.tup [.i true .i64 0, .ifc 122 .any], [], lnB x :: piQ x)) := by kernel_rfl
theorem pi_6 (x : List UInt8) : (condsP (pi0 x) [false, false, false, true], leafD 0 [] ((pi0 x).at [false, false, false, true])) = ([!strQ x, !puOk (puV (drV x)), !puSyn (puV (drV x)), !ngB x], some (.tup [.i true .i64 9223372036854775807, .ifc 122 .any], [], lnB x :: piQ x)) := by kernel_rfl
theorem pi_7 (x : List UInt8) : (condsP (pi0 x) [false, false, false, false, true], leafD 0 [] ((pi0 x).at [false, false, false, false, true])) = ([!strQ x, !puOk (puV (drV x)), !puSyn (puV (drV x)), !!ngB x, ngB x], some (.tup [.i true .i64 (-9223372036854775808), .ifc 122 .any], [], lnB x :: piQ x)) := by kernel_rfl
end Go.Ax

/- strconv.ParseInt at base 16: a row. -/
namespace Go.Ax
open Go Go.Proofs

def piOk (x : List UInt8) : Bool := bif strQ x then false else bif puOk (puV (drV x)) then (bif big1 (ngB x) (unV x) then false else !big2 (ngB x) (unV x)) else false
/-- A number, or an error of which nothing else is told. -/
noncomputable def piRow : Table := fun _ args H nd K => match args with
  | [.s _ x, .i _ .i64 b, .i _ .i64 z] => .ite (piOk x) (K (.tup [.i false .i64 (piVal x), .inil]) H ((decide (b = 16) && (decide (z = 64) && decide (x.length ≤ 1048576))) :: nd)) (K (.tup [.any, .ifc 122 .any]) H ((decide (b = 16) && (decide (z = 64) && decide (x.length ≤ 1048576))) :: nd))
  | _ => .fail
theorem drV_len (x : List UInt8) : (drV x).length ≤ x.length := by
  unfold drV
  cases eqQ false (x0 x) 43 <;> cases eqQ false (x0 x) 45 <;> simp
theorem piQ_ok {x : List UInt8} (h : strQ x = false) (hx : x.length ≤ 1048576) : allT (piQ x) = true := by
  have hne : 0 < x.length := by
    cases x with
    | nil => simp [strQ] at h
    | cons c cs => simp
  have h1 : cut1 x = true := by simp [cut1]; omega
  have h2 : (drV x).length ≤ 1048576 := Nat.le_trans (drV_len x) hx
  unfold piQ
  rw [h1, ix0_ok hne]
  simp only [andT_eq, allT_append, guardL_ok (l := [true]) fun _ => rfl, guardL_ok (l := ([] : List Bool)) fun _ => rfl]
  cases eqQ false (x0 x) 43 <;> simp [allT, h2]
theorem pi_err {σ : List (Nat × Nat)} {a b : AV} {v : Value} (r : Rel σ (.tup [a, .ifc 122 b]) v) : Rel σ (.tup [.any, .ifc 122 .any]) v := by
  cases r with | tup r =>
  generalize hl : Array.toList _ = vs at r
  cases r with | cons r1 r2 => cases r2 with | cons r2 r3 => cases r3 with | nil =>
  refine .tup ?_
  rw [hl]
  cases r2 with | ifc r2 => exact .cons .any (.cons (.ifc .any) .nil)
theorem pi_at : SoundAt Tryd.prog 53 piRow := fun args H nd K => by
  unfold piRow
  split
  case h_2 => exact .inl rfl
  rename_i l x l' b l2 z
  have key : ∀ {nd' : List Bool}, allT ((decide (b = 16) && (decide (z = 64) && decide (x.length ≤ 1048576))) :: nd') = true → allT nd' = true ∧ CallOK Tryd.prog 53 [.s l x, .i l' .i64 b, .i l2 .i64 z] H (bif piOk x then .tup [.i false .i64 (piVal x), .inil] else .tup [.any, .ifc 122 .any]) H := fun {nd'} hn => by
    simp only [allT, Bool.and_eq_true, decide_eq_true_eq] at hn
    obtain ⟨⟨rfl, rfl, hx⟩, hnd⟩ := hn
    refine ⟨hnd, ?_⟩
    have hln : lnB x = true := by simp [lnB, hx]
    have fin : CallOK Tryd.prog 53 [.s false x, .i true .i64 16, .i true .i64 64] [] (bif piOk x then .tup [.i false .i64 (piVal x), .inil] else .tup [.any, .ifc 122 .any]) [] := by
      unfold piOk
      cases hs : strQ x with
      | true =>
        have h := pi_1 x
        exact (call_of_leaf tabPi_sound h (by rw [hs]; rfl) (by rw [hln]; rfl)).weaken fun _ _ r => pi_err r
      | false =>
        have hq := piQ_ok hs hx
        have hq2 : allT (lnB x :: piQ x) = true := by rw [allT, hq, hln]; rfl
        cases ho : puOk (puV (drV x)) with
        | true =>
          cases h1 : big1 (ngB x) (unV x) with
          | true =>
            have h := pi_2 x
            exact (call_of_leaf tabPi_sound h (by rw [hs, ho, h1]; rfl) hq2).weaken fun _ _ r => pi_err r
          | false =>
            cases h2 : big2 (ngB x) (unV x) with
            | true =>
              have h := pi_3 x
              exact (call_of_leaf tabPi_sound h (by rw [hs, ho, h1, h2]; rfl) hq2).weaken fun _ _ r => pi_err r
            | false =>
              have h := pi_4 x
              exact call_of_leaf tabPi_sound h (by rw [hs, ho, h1, h2]; rfl) hq
        | false =>
          cases hy : puSyn (puV (drV x)) with
          | true =>
            have h := pi_5 x
            exact (call_of_leaf tabPi_sound h (by rw [hs, ho, hy]; rfl) hq2).weaken fun _ _ r => pi_err r
          | false =>
            cases hg : ngB x with
            | false =>
              have h := pi_6 x
              exact (call_of_leaf tabPi_sound h (by rw [hs, ho, hy, hg]; rfl) hq2).weaken fun _ _ r => pi_err r
            | true =>
              have h := pi_7 x
              exact (call_of_leaf tabPi_sound h (by rw [hs, ho, hy, hg]; rfl) hq2).weaken fun _ _ r => pi_err r
    exact (fin.lift (by cases piOk x <;> rfl) rfl H rfl).bare rfl
  cases hv : piOk x with
  | true =>
    refine .inr ⟨_, _, _, by simp only [Res.sel, if_true]; rfl, fun hn => ?_⟩
    have := key hn
    rw [hv] at this
    exact this
  | false =>
    refine .inr ⟨_, _, _, by simp only [Res.sel]; rfl, fun hn => ?_⟩
    have := key hn
    rw [hv] at this
    exact this
end Go.Ax

/- impl.readPlace: evaluated. -/
namespace Go.Ax
open Go Go.Proofs

noncomputable def tabRp : Table := tabOf (jdeep Tryd.prog [(53, piRow), (56, pureT gPt)] [] 3000 8)
theorem tabRp_sound : SoundT Tryd.prog tabRp := jdeep_sound (fun p hp => by
  simp only [List.mem_cons, List.not_mem_nil, or_false] at hp
  rcases hp with rfl | rfl
  · exact pi_at
  · exact pt_at) 8
noncomputable def rpC : Code := Tryd.f40.body.getD .skip
noncomputable def rp0 (x : List UInt8) : Res := jupto Tryd.prog tabRp (atReg 4) 100 [.code rpC] (.s false x :: undefs 33) []
noncomputable def rpL : List Item := ((rp0 []).at [true, false]).todo ++ []
def rpT (x : List UInt8) (n : Int) : List AV := tmpsOf 34 [(0, .s false x), (4, .i false .i64 n)]
def rpM : List Bool := maskOf 34 [(0, .any), (4, .any)]
def lnC (x : List UInt8) : Bool := decide ((16 : Int) = 16) && (decide ((64 : Int) = 64) && decide (x.length ≤ 1048576))
def inM (n : Int) : Bool := bif leQ false (-2139095039) n then leQ false n 2139095039 else false
theorem rp0_go (x : List UInt8) : (condsP (rp0 x) [true, false], lfM rpM ((rp0 x).at [true, false])) = ([piOk x, !!inM (piVal x)], (true, rpL, (rpT x (piVal x)).map AV.bare, [], [lnC x])) := by kernel_rfl
theorem rp0_b1 (x : List UInt8) : (condsP (rp0 x) [true, true], leafE Tryd.prog Tryd.f40.results.toList 0 [] ((rp0 x).at [true, true])) = ([piOk x, !inM (piVal x)], some (.tup [.f true .f32 0, .b true false], [], allT [lnC x])) := by kernel_rfl
theorem rp0_b2 (x : List UInt8) : (condsP (rp0 x) [false], leafE Tryd.prog Tryd.f40.results.toList 0 [] ((rp0 x).at [false])) = ([!piOk x], some (.tup [.f true .f32 0, .b true false], [], allT [lnC x])) := by kernel_rfl
theorem rpL_eq : rpL = .code (.region 4 (opsOf rpL) false) :: tlOf rpL := by kernel_rfl
noncomputable def rpP (x : List UInt8) (n : Int) : Res := preO Tryd.prog tabRp (opsOf rpL) 5 (rpT x n) []
def mxU (n : Int) : Int := IntKind.u32.wrap (if n < IntKind.i64.wrap (0 - n) then IntKind.i64.wrap (0 - n) else n)
noncomputable def rpO : Option Oper := (opsOf rpL)[5]?
theorem rpP_ok (x : List UInt8) (n : Int) : (((rpP x n).isStop, (rpP x n).todo), (rpP x n).nds, (rpP x n).HOf, (callOf rpO).bind fun c => aCall c (evA (rpP x n).tOf)) = ((true, []), [], [], some (55, [.i false .u32 (mxU n)])) := by kernel_rfl
theorem rpO_ok : (rpO.map fun o => (o.guard, o.op.operands.all okOpd)) = some (none, true) := by kernel_rfl
def rpT2 (x : List UInt8) (n : Int) (y : Nat) : List AV := tmpsOf 34 [(0, .s false x), (4, .i false .i64 n), (6, .f false .f32 y)]
def rpM2 : List Bool := maskOf 34 [(0, .any), (4, .any), (6, .any)]
theorem rp_post (x : List UInt8) (n : Int) (y : Nat) : lfM rpM2 (postO Tryd.prog tabRp (opsOf rpL) 5 (putT (rpP x n).tOf (gDst (opsOf rpL) 5) (.f false .f32 y)) []) = (true, [], (rpT2 x n y).map AV.bare, [], []) := by kernel_rfl
noncomputable def rp3 (x : List UInt8) (n : Int) (y : Nat) : Res := jupto Tryd.prog tabRp (fun _ => false) 100 (tlOf rpL) (rpT2 x n y) []
noncomputable def wdV (n : Int) (y : Nat) : Nat := bif ltQ false n 0 then fneg .f32 y else y
theorem rp3_ok (x : List UInt8) (n : Int) (y : Nat) : (condsP (rp3 x n y) [], leafE Tryd.prog Tryd.f40.results.toList 0 [] ((rp3 x n y).at [])) =
    ([], some (.tup [.f false .f32 (wdV n y), .b false (fmS (plI (wdV n y)) == x)], [], allT (fmQ (plI (wdV n y)) ++ [!(FloatKind.f32.decode (plW (flt .f32 (wdV n y) 0) (wdV n y))).isNaN]))) := by kernel_rfl
end Go.Ax
