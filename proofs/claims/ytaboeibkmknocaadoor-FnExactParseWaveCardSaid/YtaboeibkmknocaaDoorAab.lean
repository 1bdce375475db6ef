/- Slices, fields, indexes, assertions, builtins, aggregates: the model does the same. -/
import Derived.Test.YtaboeibkmknocaaDoorAaa
namespace Go.Ax
open Go

section
variable {P : Program} {w : World} {σ : List (Nat × Nat)} {H : List AB}

theorem relA_size {A : Cells} {c : Array Value} (hA : RelA σ A.toL c) : A.len ≤ c.size := by
  rcases Nat.lt_or_ge c.size A.len with hl | hl
  · obtain ⟨v, hv, _⟩ := hA c.size _ (Cells.get_some hl)
    simp at hv
  · exact hl

theorem zero_bounds {isS : Bool} {len cap : Nat} {lo hi : Option AV} {m : AV} {rlo rhi : Option Value} {rm : Value} {la na : Bool} {a : Nat} {h mm : Int}
    (ha : bound lo 0 = some (la, a, na)) (hh : hi.bind intOf? = some h) (hm : intOf? m = some mm) (h1 : na = true) (h2 : a = 0) (h3 : h = 0) (h4 : mm = 0)
    (hlo : RelO σ lo rlo) (hhi : RelO σ hi rhi) (hmx : Rel σ m rm) : (Instr.sliceBounds isS len cap rlo rhi (some rm)).run P w = .ok (0, 0, 0) w := by
  subst h1; subst h2; subst h3; subst h4
  have hz : ∀ {x : AV} {y : Value} {n : Int} {q : Nat} {code : BoundsCode}, intOf? x = some n → n = 0 → Rel σ x y → (Instr.sliceBound y q code).run P w = .ok 0 w := by
    intro x y n q code hx hn hr
    cases x <;> simp [intOf?] at hx
    subst hx; subst hn
    cases hr
    exact run_bound (n := 0) rfl (by omega) (by simp)
  cases hi with
  | none => simp at hh
  | some z =>
  cases rhi with
  | none => exact hhi.elim
  | some u =>
  simp at hh
  unfold Instr.sliceBounds
  cases lo with
  | none =>
    cases rlo with
    | some y => exact hlo.elim
    | none => simp [hz hm rfl hmx, hz hh rfl hhi]
  | some x =>
    cases rlo with
    | none => exact hlo.elim
    | some y =>
      obtain ⟨k, n, rfl, h0, h1⟩ := bound_some ha
      have hlo : Rel σ (.i la k n) y := hlo
      have : n = 0 := by have := of_decide_eq_true h1.symm; omega
      subst this
      simp [hz hm rfl hmx, hz hh rfl hhi, hz (x := .i la k 0) rfl rfl hlo]

theorem slice_gives {t : TypeId} {x v : AV} {lo hi mx : Option AV} {rx : Value} {rlo rhi rmx : Option Value} {nd : List Bool} (h : aSlice P t x lo hi mx H = some (v, nd)) (hnd : allT nd = true)
    (s : Sim σ H w) (hx : Rel σ x rx) (hlo : RelO σ lo rlo) (hhi : RelO σ hi rhi) (hmx : RelO σ mx rmx) : Gives P w (Instr.sliceAt t rx rlo rhi rmx) (Rel σ v) := by
  unfold aSlice at h
  split at h <;> try (cases h; done)
  · -- a string
    rename_i tg l hu
    cases rmx with
    | some _ => exact hmx.elim
    | none =>
    cases hx
    split at h <;> try (cases h; done)
    rename_i la a na lb b nb ha hb
    obtain ⟨rfl, hc⟩ := withN_some h
    have hc := chk_spec hc hnd
    simp only [Bool.and_eq_true, decide_eq_true_eq] at hc
    obtain ⟨⟨⟨h1, h2⟩, h3⟩, h4⟩ := hc
    have hr := run_bounds (P := P) (w := w) (isS := false) (cap := l.length) ha hb h1 h2 h3 h4 (Nat.le_refl _) hlo hhi
    have hsz : (⟨l.toArray⟩ : ByteArray).size = l.length := str_size l
    refine gives_val (v := .string ⟨((l.take b).drop a).toArray⟩) ?_ (.s _)
    simp only [Instr.sliceAt, Instr.slice, Sem.run_bind, run_underlyingA hu, Result.andThen_ok, Option.isSome_none, Bool.false_eq_true, if_false, hsz]
    simp only [Sem.run_pure, Result.andThen_ok, hr]
    congr 2
    apply ByteArray.ext
    apply Array.ext'
    rw [ByteArray.data_extract]
    simp [List.extract, List.drop_take]
  · rename_i e l id off len z hu
    cases rmx with
    | some _ => exact hmx.elim
    | none =>
    cases hx with
    | @slz _ _ _ ad cap0 =>
      split at h <;> try (cases h; done)
      rename_i la a na lb b nb n ha hb hn
      split at h
      · rename_i hl
        simp only [Bool.and_eq_true, Bool.not_eq_true', decide_eq_true_eq, decide_eq_false_iff_not] at hl
        exact absurd hl.1.2 hl.2
      obtain ⟨rfl, hc⟩ := withN_some h
      have hc := chk_spec hc hnd
      simp only [Bool.and_eq_true, Bool.or_eq_true, decide_eq_true_eq] at hc
      obtain ⟨⟨⟨⟨⟨h1, h2⟩, h3⟩, h4⟩, h5⟩, rfl⟩ := hc
      have hr := run_bounds (P := P) (w := w) (isS := true) (cap := cap0) ha hb h1 h2 h3 h4 (Nat.zero_le _) hlo hhi
      have ha0 : a = 0 := by omega
      have hb0 : b = 0 := by omega
      subst ha0; subst hb0
      refine gives_val (v := .slice (if cap0 = 0 then ad else ad.map (·.add (0 * 0))) 0 cap0) ?_ .slz
      simp only [Instr.sliceAt, Instr.slice, Sem.run_bind, run_underlyingA hu, Result.andThen_ok, hr, run_sizeOfA hn, Sem.run_pure]
      rfl
    | sl hid hcap hz =>
    rename_i cap b' c
    split at h <;> try (cases h; done)
    rename_i la a na lb b nb n ha hb hn
    split at h
    · rename_i hl
      simp only [Bool.and_eq_true, Bool.not_eq_true', decide_eq_true_eq, decide_eq_false_iff_not] at hl
      obtain ⟨rfl, hc⟩ := withN_some h
      have hc := chk_spec hc hnd
      simp only [Bool.and_eq_true, decide_eq_true_eq] at hc
      obtain ⟨⟨⟨⟨h1, h2⟩, h3⟩, h4⟩, rfl⟩ := hc
      have hr := run_bounds (P := P) (w := w) (isS := true) (cap := cap) ha hb h1 h2 h3 h4 hcap hlo hhi
      have hba : b - a = 0 := by omega
      refine gives_val (v := .slice (if cap = a then some ⟨b', off, none⟩ else (some ⟨b', off, none⟩ : Option Addr).map (·.add (a * z))) 0 (cap - a)) ?_ .slz
      simp only [Instr.sliceAt, Instr.slice, Sem.run_bind, run_underlyingA hu, Result.andThen_ok, hr, run_sizeOfA hn, Sem.run_pure, hba]
    obtain ⟨rfl, hc⟩ := withN_some h
    have hc := chk_spec hc hnd
    simp only [Bool.and_eq_true, Bool.or_eq_true, decide_eq_true_eq] at hc
    obtain ⟨⟨⟨⟨⟨h1, h2⟩, h3⟩, h4⟩, h5⟩, rfl⟩ := hc
    have hr := run_bounds (P := P) (w := w) (isS := true) (cap := cap) ha hb h1 h2 h3 h4 hcap hlo hhi
    have hcz : off + a * z + (cap - a) * z ≤ c := by
      rw [Nat.add_assoc, ← Nat.add_mul]
      have : a + (cap - a) = cap := by omega
      rw [this]; exact hz
    refine gives_val (v := .slice (some ⟨b', off + a * z, none⟩) (b - a) (cap - a)) ?_ (.sl hid (by omega) hcz)
    simp only [Instr.sliceAt, Instr.slice, Sem.run_bind, run_underlyingA hu, Result.andThen_ok, hr, run_sizeOfA hn, Sem.run_pure]
    by_cases hca : cap = a
    · have ha0 : a = 0 := by omega
      subst ha0
      simp [hca]
    · simp [hca, addr_add]
  · -- an empty one with room for none
    rename_i e l id off len z m hu
    cases rmx with
    | none => exact hmx.elim
    | some rm =>
    cases hx with
    | slz =>
      split at h <;> try (cases h; done)
      obtain ⟨rfl, hc⟩ := withN_some h
      have hc := chk_spec hc hnd
      simp at hc
    | sl hid hcap hz =>
    rename_i cap b' c
    split at h <;> try (cases h; done)
    rename_i la a na hh mm n ha hh' hm hn
    obtain ⟨rfl, hc⟩ := withN_some h
    have hc := chk_spec hc hnd
    simp only [Bool.and_eq_true, decide_eq_true_eq, beq_iff_eq] at hc
    obtain ⟨⟨⟨⟨h1, h2⟩, h3⟩, h4⟩, _⟩ := hc
    refine gives_val (v := .slice (some ⟨b', off, none⟩) 0 0) ?_ .sle
    simp only [Instr.sliceAt, Instr.slice, Sem.run_bind, run_underlyingA hu, Result.andThen_ok, zero_bounds ha hh' hm h1 h2 h3 h4 hlo hhi hmx, run_sizeOfA hn, Sem.run_pure]
    rfl
  · have hu := ‹P.underlying t = some (.slice _)›
    cases rmx with
    | none => exact hmx.elim
    | some rm =>
    cases hx
    split at h <;> try (cases h; done)
    rename_i la a na hh mm n ha hh' hm hn
    obtain ⟨rfl, hc⟩ := withN_some h
    have hc := chk_spec hc hnd
    simp only [Bool.and_eq_true, decide_eq_true_eq, beq_iff_eq] at hc
    obtain ⟨⟨⟨h1, h2⟩, h3⟩, h4⟩ := hc
    refine gives_val (v := .slice none 0 0) ?_ .slnil
    simp only [Instr.sliceAt, Instr.slice, Sem.run_bind, run_underlyingA hu, Result.andThen_ok, zero_bounds ha hh' hm h1 h2 h3 h4 hlo hhi hmx, run_sizeOfA hn, Sem.run_pure]
    rfl
  · rename_i len e l id off hu
    cases rmx with
    | some _ => exact hmx.elim
    | none =>
    cases hx with | p hid =>
    rename_i b' c
    split at h <;> try (cases h; done)
    rename_i la a na lb b nb n ha hb hn
    split at h <;> try (cases h; done)
    rename_i r A hg
    obtain ⟨rfl, hc⟩ := withN_some h
    have hc := chk_spec hc hnd
    simp only [Bool.and_eq_true, Bool.or_eq_true, decide_eq_true_eq] at hc
    obtain ⟨⟨⟨⟨⟨h1, h2⟩, h3⟩, h4⟩, h5⟩, h6⟩ := hc
    have hr := run_bounds (P := P) (w := w) (isS := false) (cap := len) ha hb h1 h2 h3 h4 (Nat.le_refl _) hlo hhi
    have hcz : off + a * n + (len - a) * n ≤ c := by
      rw [Nat.add_assoc, ← Nat.add_mul]
      have : a + (len - a) = len := by omega
      rw [this]
      have h0 := s.blk id b' c hid
      rw [hg] at h0
      obtain ⟨cc, e', fr, hw, hA, hcs, _⟩ := h0
      have := relA_size hA
      omega
    refine gives_val (v := .slice (some ⟨b', off + a * n, none⟩) (b - a) (len - a)) ?_ (.sl hid (by omega) hcz)
    simp only [Instr.sliceAt, Sem.run_bind, run_underlyingA hu, Result.andThen_ok, Instr.sureAddr, Sem.run_pure, hr, run_sizeOfA hn]
    by_cases hca : len = a
    · have ha0 : a = 0 := by omega
      subst ha0
      simp [hca]
    · simp [hca, addr_add]

theorem fieldAddr_gives {t : TypeId} {x v : AV} {rx : Value} {f : Nat} (h : aFieldAddr P t x f = some v) (hx : Rel σ x rx) : Gives P w (Instr.fieldAt t rx f) (Rel σ v) := by
  unfold aFieldAddr at h
  split at h <;> try (cases h; done)
  rename_i fields l id off hu
  cases hx with | p hid =>
  rename_i b c
  split at h <;> try (cases h; done)
  rename_i fd hf
  split at h <;> try (cases h; done)
  rename_i n hn
  cases h
  exact gives_val (v := .pointer (some ⟨b, off + fd.offset, none⟩)) (by simp [Instr.fieldAt, run_underlyingA hu, hf, Instr.sureAddr, fieldPlace, run_sizeOfA hn, addr_add]) (.p hid)

theorem field_gives {t : TypeId} {x v : AV} {rx : Value} {f : Nat} (h : aField P t x f = some v) (hx : Rel σ x rx) : Gives P w (Instr.field t rx f) (Rel σ v) := by
  unfold aField at h
  split at h <;> try (cases h; done)
  rename_i fields l hu
  cases hx with | agg hx =>
  split at h <;> try (cases h; done)
  rename_i fd hf
  obtain ⟨u, hu', hr⟩ := part_run (w := w) h hx
  exact gives_val (by simp [Instr.field, run_underlyingA hu, hf, asAgg, hu']) hr

theorem indexAddr_gives {t : TypeId} {x i v : AV} {rx ri : Value} {nd : List Bool} (h : aIndexAddr P t x i = some (v, nd)) (hnd : allT nd = true) (hx : Rel σ x rx) (hi : Rel σ i ri) : Gives P w (Instr.indexAt t rx ri) (Rel σ v) := by
  unfold aIndexAddr at h
  split at h <;> try (cases h; done)
  · rename_i len e l id off m k n hu
    cases hi
    cases hx with | p hid =>
    rename_i b c
    split at h <;> try (cases h; done)
    rename_i z hz
    obtain ⟨rfl, hc⟩ := withN_some h
    have hc := chk_spec hc hnd
    simp only [Bool.and_eq_true, decide_eq_true_eq] at hc
    exact gives_val (v := .pointer (some ⟨b, off + n.toNat * z, none⟩)) (by simp [Instr.indexAt, asIntOf, run_underlyingA hu, Instr.sureAddr, hc.1, hc.2, run_sizeOfA hz, addr_add]) (.p hid)
  · rename_i e l id off len z' m k n hu
    cases hi
    cases hx with
    | slz =>
      split at h <;> try (cases h; done)
      obtain ⟨rfl, hc⟩ := withN_some h
      have hc := chk_spec hc hnd
      simp only [Bool.and_eq_true, decide_eq_true_eq] at hc
      omega
    | sl hid hcap hz' =>
    rename_i b c
    split at h <;> try (cases h; done)
    rename_i z hz
    obtain ⟨rfl, hc⟩ := withN_some h
    have hc := chk_spec hc hnd
    simp only [Bool.and_eq_true, decide_eq_true_eq] at hc
    exact gives_val (v := .pointer (some ⟨_, off + n.toNat * z, none⟩)) (by simp [Instr.indexAt, asIntOf, run_underlyingA hu, hc.1, hc.2, run_sizeOfA hz, addr_add]) (.p hid)

theorem index_gives {t : TypeId} {x i v : AV} {rx ri : Value} {nd : List Bool} (h : aIndex P t x i = some (v, nd)) (hnd : allT nd = true) (hx : Rel σ x rx) (hi : Rel σ i ri) : Gives P w (Instr.index t rx ri) (Rel σ v) := by
  unfold aIndex at h
  split at h <;> try (cases h; done)
  · rename_i len e l m k n hu
    cases hi
    cases hx with | agg hx =>
    split at h <;> try (cases h; done)
    rename_i z hz
    split at h <;> try (cases h; done)
    rename_i u hpu
    obtain ⟨rfl, hc⟩ := withN_some h
    have hc := chk_spec hc hnd
    simp only [Bool.and_eq_true, decide_eq_true_eq] at hc
    obtain ⟨y, hy, hr⟩ := part_run (w := w) hpu hx
    exact gives_val (by simp [Instr.index, asIntOf, run_underlyingA hu, hc.1, hc.2, run_sizeOfA hz, hy]) hr
  · rename_i l x m k n hu
    cases hx; cases hi
    obtain ⟨rfl, hc⟩ := withN_some h
    have hc := chk_spec hc hnd
    simp only [Bool.and_eq_true, decide_eq_true_eq] at hc
    have hlt : n.toNat < x.length := by omega
    have : (⟨x.toArray⟩ : ByteArray)[n.toNat]? = some (x.getD n.toNat 0) := by
      have h2 : n.toNat < (⟨x.toArray⟩ : ByteArray).size := by rw [str_size]; exact hlt
      have e1 : (⟨x.toArray⟩ : ByteArray)[n.toNat]? = some ((⟨x.toArray⟩ : ByteArray)[n.toNat]'h2) := getElem?_pos (⟨x.toArray⟩ : ByteArray) n.toNat h2
      rw [e1]
      congr 1
      show x.toArray[n.toNat]'(by simpa using hlt) = _
      simp [hlt]
    exact gives_val (v := .int .u8 ((x.getD n.toNat 0).toNat : Int)) (by simp only [Instr.index, asIntOf, Sem.run_bind, Sem.run_pure, Result.andThen_ok, run_underlyingA hu, hc.1, if_true, this]) (.i _ _)

theorem typeAssert_gives {x v : AV} {rx : Value} {xt at_ : TypeId} {ok : Bool} (h : aTypeAssert P x at_ ok = some v) (hx : Rel σ x rx) : Gives P w (Instr.typeAssert rx xt at_ ok) (Rel σ v) := by
  unfold aTypeAssert at h
  split at h <;> try (cases h; done)
  rename_i u t a hu' hu
  cases hx with | ifc hx =>
  rename_i ra
  have hne : ∀ ms, u ≠ .interface ms := fun ms e => hu' ms e
  split at h
  · rename_i hta
    subst hta
    cases h
    cases ok
    · refine gives_val (v := ra) ?_ hx
      simp only [Instr.typeAssert, Sem.run_bind, run_underlyingA hu, Result.andThen_ok]
      cases u <;> first | exact absurd rfl (hne _) | simp
    · refine gives_val (v := .tuple #[ra, .bool true]) ?_ (.tup (.cons hx (.cons (.b _) .nil)))
      simp only [Instr.typeAssert, Sem.run_bind, run_underlyingA hu, Result.andThen_ok]
      cases u <;> first | exact absurd rfl (hne _) | simp
  · rename_i hta
    cases ok
    · simp at h
    · simp only [if_true] at h
      split at h <;> try (cases h; done)
      rename_i i hi
      split at h <;> try (cases h; done)
      rename_i z hz
      split at h <;> try (cases h; done)
      rename_i za hza
      cases h
      refine gives_val (v := .tuple #[z, .bool false]) ?_ (.tup (.cons (ofV_rel hza) (.cons (.b _) .nil)))
      simp only [Instr.typeAssert, Sem.run_bind, run_underlyingA hu, Result.andThen_ok]
      cases u <;> first | exact absurd rfl (hne _) | simp [hta, zeroValue, run_typeInfoA hi, hz]
end
end Go.Ax

/- Builtins, aggregates, and all operations that only read. -/
namespace Go.Ax
open Go

section
variable {P : Program} {w : World} {σ : List (Nat × Nat)} {H : List AB}

theorem len_gives {ts : Array TypeId} {t ty : TypeId} {x v : AV} {rx : Value} (ht : ts[0]? = some t) (h : aLen P t x = some v) (hx : Rel σ x rx) : Gives P w (Builtin.len_ ts ty #[rx]) (Rel σ v) := by
  unfold aLen at h
  split at h <;> (try (cases h; done)) <;> cases h
  · rename_i l x hu
    cases hx
    exact gives_val (v := .int .i64 x.length) (by simp [Builtin.len_, ht, run_underlyingA hu, goInt, str_size]) (.i _ _)
  · rename_i n e hu
    refine gives_val (v := .int .i64 n) ?_ (.i _ _)
    cases hx <;> simp [Builtin.len_, ht, run_underlyingA hu, goInt]
  · rename_i e l id off n z hu
    cases hx with
    | slz => exact gives_val (v := .int .i64 0) (by simp [Builtin.len_, ht, run_underlyingA hu, goInt]) (.i _ _)
    | sl _ _ _ => exact gives_val (v := .int .i64 n) (by simp [Builtin.len_, ht, run_underlyingA hu, goInt]) (.i _ _)
  · rename_i e hu
    cases hx
    exact gives_val (v := .int .i64 0) (by simp [Builtin.len_, ht, run_underlyingA hu, goInt]) (.i _ _)
  · rename_i e hu
    cases hx
    exact gives_val (v := .int .i64 0) (by simp [Builtin.len_, ht, run_underlyingA hu, goInt]) (.i _ _)

theorem fold_gives {g : AV → AV → Option AV} {k : Value → Value → Sem Value} (hg : ∀ {w : World} {a b c : AV} {x y : Value}, g a b = some c → Rel σ a x → Rel σ b y → Gives P w (k x y) (Rel σ c)) :
    ∀ (l : List AV) (rl : List Value) {w : World} {a v : AV} {x : Value}, foldA g a l = some v → Rel σ a x → RelL σ l rl → Gives P w (rl.foldlM k x) (Rel σ v)
  | [], _, w, a, v, x, h, hx, .nil => by
    cases h
    exact .pure hx
  | b :: l, _, w, a, v, x, h, hx, .cons hb hl => by
    simp only [foldA] at h
    split at h <;> try (cases h; done)
    rename_i c hc
    obtain ⟨y, w1, e1, e2, e3⟩ := hg (w := w) hc hx hb
    obtain ⟨z, w2, k1, k2, k3⟩ := fold_gives hg l _ (w := w1) h e2 hl
    exact ⟨z, w2, by simp [List.foldlM_cons, e1, k1], k2, e3.trans k3⟩

theorem max2_gives {a b c : AV} {x y : Value} (h : aMax2 a b = some c) (ha : Rel σ a x) (hb : Rel σ b y) : Gives P w (Builtin.max2 x y) (Rel σ c) := by
  unfold aMax2 at h
  split at h <;> try (cases h; done)
  · split at h <;> cases h
    rename_i hk; subst hk
    cases ha; cases hb
    refine gives_val (v := .int _ _) ?_ (.i _ _)
    simp [Builtin.max2]
  · split at h <;> cases h
    rename_i hk; subst hk
    cases ha with | f ha =>
    cases hb with | f hb =>
    exact gives_float (max_gives ha hb)
theorem min2_gives {a b c : AV} {x y : Value} (h : aMin2 a b = some c) (ha : Rel σ a x) (hb : Rel σ b y) : Gives P w (Builtin.min2 x y) (Rel σ c) := by
  unfold aMin2 at h
  split at h <;> try (cases h; done)
  · split at h <;> cases h
    rename_i hk; subst hk
    cases ha; cases hb
    refine gives_val (v := .int _ _) ?_ (.i _ _)
    simp [Builtin.min2]
  · split at h <;> cases h
    rename_i hk; subst hk
    cases ha with | f ha =>
    cases hb with | f hb =>
    exact gives_float (min_gives ha hb)

theorem relL_one {a : AV} {rl : List Value} (h : RelL σ [a] rl) : ∃ x, rl = [x] ∧ Rel σ a x := by
  cases h with | cons h hs => cases hs; exact ⟨_, rfl, h⟩
theorem relL_two {a b : AV} {rl : List Value} (h : RelL σ [a, b] rl) : ∃ x y, rl = [x, y] ∧ Rel σ a x ∧ Rel σ b y := by
  cases h with | cons h hs =>
  obtain ⟨y, rfl, hy⟩ := relL_one hs
  exact ⟨_, y, rfl, h, hy⟩

theorem builtin_gives {b : Builtin} {ts : Array TypeId} {ty : TypeId} {cs : Array Bool} {args : List AV} {rargs : Array Value} {v : AV} (h : aBuiltin P b ts args = some v) (hr : RelL σ args rargs.toList) :
    ∃ rv w', (builtin b ts ty cs rargs).run P w = .ok (.value rv) w' ∧ Rel σ v rv ∧ Same w w' := by
  have fin : ∀ {x : Sem Value}, builtin b ts ty cs rargs = (do pure (.value (← x))) → Gives P w x (Rel σ v) → ∃ rv w', (builtin b ts ty cs rargs).run P w = .ok (.value rv) w' ∧ Rel σ v rv ∧ Same w w' := by
    intro x e ⟨rv, w', h1, h2, h3⟩
    exact ⟨rv, w', by rw [e]; simp [h1], h2, h3⟩
  have arr : ∀ {l : List Value}, rargs.toList = l → rargs = l.toArray := fun e => by rw [← e]
  unfold aBuiltin at h
  split at h <;> try (cases h; done)
  · obtain ⟨x, e, hx⟩ := relL_one hr
    split at h <;> try (cases h; done)
    rename_i t ht
    have := arr e; subst this
    exact fin rfl (len_gives ht h hx)
  · obtain ⟨x, e, hx⟩ := relL_one hr
    cases h
    have := arr e; subst this
    cases hx with | c h1 h2 =>
    exact fin rfl (gives_val rfl (.f h1))
  · obtain ⟨x, e, hx⟩ := relL_one hr
    cases h
    have := arr e; subst this
    cases hx with | c h1 h2 =>
    exact fin rfl (gives_val rfl (.f h2))
  · obtain ⟨x, y, e, hx, hy⟩ := relL_two hr
    split at h <;> cases h
    rename_i hk; subst hk
    have := arr e; subst this
    cases hx with | f h1 =>
    cases hy with | f h2 =>
    refine fin rfl (gives_val (v := .complex _ _ _) ?_ (.c h1 h2))
    show Sem.run P (if _ = _ then pure (Value.complex _ _ _) else _) w = _
    rw [if_pos rfl]; rfl
  · rename_i a l
    cases hl : rargs.toList with
    | nil => rw [hl] at hr; cases hr
    | cons x rl =>
      rw [hl] at hr
      cases hr with | cons h1 h2 =>
      refine fin rfl ?_
      unfold Builtin.max_
      rw [hl]
      exact fold_gives max2_gives l rl h h1 h2
  · rename_i a l
    cases hl : rargs.toList with
    | nil => rw [hl] at hr; cases hr
    | cons x rl =>
      rw [hl] at hr
      cases hr with | cons h1 h2 =>
      refine fin rfl ?_
      unfold Builtin.min_
      rw [hl]
      exact fold_gives min2_gives l rl h h1 h2

/-! ### An aggregate built -/
theorem setAll_length : ∀ (vs l : List AV) (n : Nat), (setAll l n vs).length = l.length
  | [], _, _ => rfl
  | v :: vs, l, n => by simp only [setAll]; rw [setAll_length vs]; rw [setL_eq]; simp
theorem RelL.setA {l : List AV} {c : Array Value} (h : RelL σ l c.toList) {d : Nat} {v : AV} {rv : Value} (hv : Rel σ v rv) : RelL σ (setL l d v) (c.setIfInBounds d rv).toList := by
  have hl := h.length
  refine RelL.of_get (by rw [setL_eq]; simpa using hl) fun j a x ha hx => ?_
  rw [setL_eq] at ha
  simp only [Array.toList_setIfInBounds] at hx
  by_cases hj : d = j
  · subst hj
    have hd : d < l.length := by
      rcases Nat.lt_or_ge d l.length with h' | h'
      · exact h'
      · rw [List.getElem?_eq_none (by simpa using h')] at ha; cases ha
    rw [List.getElem?_set_self hd] at ha
    rw [List.getElem?_set_self (by rw [← hl]; exact hd)] at hx
    cases ha; cases hx; exact hv
  · rw [List.getElem?_set_ne hj] at ha hx
    obtain ⟨y, hy, hr⟩ := h.get ha
    rw [hy] at hx; cases hx; exact hr
theorem setAll_rel : ∀ {vs : List AV} {rvs : List Value} (off i : Nat) {l : List AV} {c : Array Value}, RelL σ vs rvs → RelL σ l c.toList →
    RelL σ (setAll l (off + i) vs) (rvs.zipIdx i |>.foldl (fun cs (x : Value × Nat) => cs.setIfInBounds (off + x.2) x.1) c).toList
  | _, _, _, _, _, _, .nil, h => h
  | _, _, off, i, _, _, .cons hv hs, h => by
    simp only [setAll, List.zipIdx_cons, List.foldl_cons]
    exact setAll_rel off (i + 1) hs (h.setA hv)

theorem fill_rel {place : Nat → Option (Nat × Nat)} : ∀ {parts : List (Nat × AV)} {rparts : List (Nat × Value)} {l l' : List AV} {c : Array Value}, fillA place l parts = some l' →
    (parts.length = rparts.length ∧ ∀ (j : Nat) (p : Nat × AV) (q : Nat × Value), parts[j]? = some p → rparts[j]? = some q → p.1 = q.1 ∧ Rel σ p.2 q.2) → RelL σ l c.toList →
    ∃ c', Instr.fill place c rparts = some c' ∧ RelL σ l' c'.toList
  | [], rparts, l, l', c, h, hp, hr => by
    cases h
    cases rparts with
    | nil => exact ⟨c, rfl, hr⟩
    | cons _ _ => simp at hp
  | (i, v) :: parts, rparts, l, l', c, h, hp, hr => by
    cases rparts with
    | nil => simp at hp
    | cons q rparts =>
    obtain ⟨i', rv⟩ := q
    obtain ⟨hi, hv⟩ := hp.2 0 (i, v) (i', rv) rfl rfl
    have hi : i = i' := hi
    subst hi
    have hv : Rel σ v rv := hv
    cases hany : isAny v with
    | true =>
      simp [fillA, hany] at h
      cases hpl : place i <;> rw [hpl] at h <;> cases h
    | false =>
    have hc := cellsA_rel hv hany
    have hcl := hc.length
    simp only [Array.length_toList] at hcl
    have hll := hr.length
    simp only [Array.length_toList] at hll
    simp only [fillA, hany, Bool.false_or] at h
    simp only [Instr.fill]
    cases hpl : place i with
    | none => rw [hpl] at h; cases h
    | some z =>
      obtain ⟨off, size⟩ := z
      rw [hpl] at h
      simp only [] at h ⊢
      rw [← hcl, ← hll]
      split at h
      · cases h
      · rename_i hcond
        rw [if_neg hcond]
        refine fill_rel h ⟨by simpa using hp.1, fun j p q h1 h2 => hp.2 (j + 1) p q (by simpa using h1) (by simpa using h2)⟩ ?_
        have := setAll_rel off 0 hc hr
        rw [Nat.add_zero] at this
        rw [← Array.foldl_toList, Array.toList_zipIdx]
        exact this


theorem ofS_not {v : Value} {a : AV} (h : ofS v = some a) : isAny a = false := by
  unfold ofS at h
  split at h <;> first | (cases h; done) | (cases h; rfl)
theorem ofV_not {v : Value} {a : AV} (h : ofV v = some a) : isAny a = false := by
  unfold ofV at h
  split at h
  · rename_i cs
    cases hc : ofSs cs.toList <;> rw [hc] at h <;> cases h; rfl
  · rename_i cs
    cases hc : ofSs cs.toList <;> rw [hc] at h <;> cases h; rfl
  · exact ofS_not h
theorem zeroA_not {t : TypeId} {z : AV} (h : zeroA P t = some z) : isAny z = false := by
  unfold zeroA at h
  split at h <;> try (cases h; done)
  split at h <;> try (cases h; done)
  exact ofV_not h
theorem zeroA_run {t : TypeId} {z : AV} (h : zeroA P t = some z) : ∃ v, (zeroValue t).run P w = .ok v w ∧ Rel σ z v ∧ ∃ i, P.info? t = some i ∧ i.zero = some v := by
  unfold zeroA at h
  split at h <;> try (cases h; done)
  rename_i i hi
  split at h <;> try (cases h; done)
  rename_i v hv
  exact ⟨v, by simp [zeroValue, run_typeInfoA hi, hv], ofV_rel h, i, hi, hv⟩

theorem places_run : ∀ {fs : List Field} {l : List (Nat × Nat)} {w : World}, placesA P fs = some l → (List.mapM (fun f => Prod.mk f.offset <$> sizeOf f.type) fs : Sem (List (Nat × Nat))).run P w = .ok l w
  | [], l, w, h => by cases h; simp
  | f :: fs, l, w, h => by
    simp only [placesA] at h
    split at h <;> try (cases h; done)
    rename_i n l' hn hl'
    cases h
    simp [List.mapM_cons, run_sizeOfA hn, places_run hl']

theorem build_gives {t : TypeId} {parts : List (Nat × AV)} {rparts : Array (Nat × Value)} {v : AV} (h : aBuild P t parts = some v)
    (hp : parts.length = rparts.toList.length ∧ ∀ (j : Nat) (p : Nat × AV) (q : Nat × Value), parts[j]? = some p → rparts.toList[j]? = some q → p.1 = q.1 ∧ Rel σ p.2 q.2) :
    Gives P w (Instr.build t rparts) (Rel σ v) := by
  unfold aBuild at h
  split at h <;> try (cases h; done)
  · rename_i z fields hz hu
    obtain ⟨zv, hzr, hzrel, _⟩ := zeroA_run (w := w) (σ := σ) hz
    split at h <;> try (cases h; done)
    rename_i pl hpl
    split at h <;> try (cases h; done)
    rename_i l hl
    cases h
    obtain ⟨c', hc', hr'⟩ := fill_rel hl hp (cellsA_rel hzrel (zeroA_not hz))
    refine gives_val (v := .agg c') ?_ (.agg hr')
    have hpr : (fields.mapM fun f => do pure (f.offset, ← sizeOf f.type) : Sem (Array (Nat × Nat))).run P w = .ok pl.toArray w := by
      rw [Array.mapM_eq_mapM_toList]
      simp [places_run hpl]
    have hpl2 : (fun i : Nat => pl.toArray[i]?) = fun i => pl[i]? := by funext i; simp
    simp only [Instr.build, Sem.run_bind, hzr, Result.andThen_ok, Sem.run_pure, run_underlyingA hu, hpr, hpl2, hc']
  · rename_i z len e hz hu
    obtain ⟨zv, hzr, hzrel, _⟩ := zeroA_run (w := w) (σ := σ) hz
    split at h <;> try (cases h; done)
    rename_i n hn
    split at h <;> try (cases h; done)
    rename_i l hl
    cases h
    obtain ⟨c', hc', hr'⟩ := fill_rel hl hp (cellsA_rel hzrel (zeroA_not hz))
    refine gives_val (v := .agg c') ?_ (.agg hr')
    simp only [Instr.build, Sem.run_bind, hzr, Result.andThen_ok, Sem.run_pure, run_underlyingA hu, run_sizeOfA hn, hc']

theorem relL_map {ρA : Operand → AV} {ρ : Operand → Value} (l : List Operand) (h : ∀ x ∈ l, Rel σ (ρA x) (ρ x)) : RelL σ (l.map ρA) (l.map ρ) := RelL.map _ _ l h
theorem relO_map {ρA : Operand → AV} {ρ : Operand → Value} (o : Option Operand) (h : ∀ x ∈ o, Rel σ (ρA x) (ρ x)) : RelO σ (o.map ρA) (o.map ρ) := by
  cases o with
  | none => trivial
  | some x => exact h x rfl

/-- **All operations that only read.** -/
theorem aop_gives {o : Oper} {ρA : Operand → AV} {ρ : Operand → Value} {v : AV} {nd : List Bool} (h : aop P o.op ρA H = some (v, nd)) (hnd : allT nd = true) (s : Sim σ H w)
    (hr : ∀ x ∈ o.op.operands, Rel σ (ρA x) (ρ x)) : ∃ rv w', (execOp ρ o).run P w = .ok (.value rv) w' ∧ Rel σ v rv ∧ Same w w' := by
  have fin : ∀ {x : Sem Value}, execOp ρ o = (do pure (.value (← x))) → Gives P w x (Rel σ v) → ∃ rv w', (execOp ρ o).run P w = .ok (.value rv) w' ∧ Rel σ v rv ∧ Same w w' := by
    intro x e ⟨rv, w', h1, h2, h3⟩
    exact ⟨rv, w', by rw [e]; simp [h1], h2, h3⟩
  unfold aop at h
  split at h <;> (try (cases h; done)) <;> rename_i hop
  · -- move
    rename_i x
    simp only [Option.some.injEq, Prod.mk.injEq] at h; obtain ⟨rfl, _⟩ := h
    exact ⟨ρ x, w, by simp [execOp, hop], hr x (by simp [hop, Op.operands]), Same.refl w⟩
  · rename_i x
    simp only [Option.some.injEq, Prod.mk.injEq] at h; obtain ⟨rfl, _⟩ := h
    exact ⟨ρ x, w, by simp [execOp, hop], hr x (by simp [hop, Op.operands]), Same.refl w⟩
  · -- pick
    rename_i c a b
    split at h <;> try (cases h; done)
    rename_i l t hc
    simp only [Option.some.injEq, Prod.mk.injEq] at h; obtain ⟨rfl, _⟩ := h
    have h1 := hr c (by simp [hop, Op.operands])
    rw [hc] at h1
    have h2 := pickA_rel (l := l) (t := t) (hr a (by simp [hop, Op.operands])) (hr b (by simp [hop, Op.operands]))
    cases hcv : ρ c <;> rw [hcv] at h1 <;> cases h1
    exact ⟨_, w, by simp [execOp, hop, hcv, asBool], h2, Same.refl w⟩
  · rename_i t a
    exact fin (by simp [execOp, hop]) (load_gives h hnd s (hr a (by simp [hop, Op.operands])))
  · -- nilCheck
    rename_i x
    have h1 := hr x (by simp [hop, Op.operands])
    split at h <;> (try (cases h; done)) <;> rename_i hx <;> simp only [Option.some.injEq, Prod.mk.injEq] at h <;> obtain ⟨rfl, _⟩ := h <;> rw [hx] at h1
    · cases hxv : ρ x <;> rw [hxv] at h1 <;> cases h1
      rename_i hid
      exact ⟨_, w, by simp [execOp, hop, hxv], .p hid, Same.refl w⟩
    · cases hxv : ρ x <;> rw [hxv] at h1 <;> cases h1
      rename_i hf hc
      exact ⟨_, w, by simp [execOp, hop, hxv], .fn hf hc, Same.refl w⟩
    · cases hxv : ρ x <;> rw [hxv] at h1 <;> cases h1
      rename_i hv
      exact ⟨_, w, by simp [execOp, hop, hxv], .ifc hv, Same.refl w⟩
  · rename_i op t x y yt
    refine fin (x := (do eqGuard op t x y (ρ x) (ρ y); binOp op t (ρ x) (ρ y))) (by simp [execOp, hop]) ?_
    unfold binA at h
    split at h
    · rename_i hc
      exact nil_gives hc h (hr x (by simp [hop, Op.operands])) (hr y (by simp [hop, Op.operands]))
    · exact bin_gives h hnd (hr x (by simp [hop, Op.operands])) (hr y (by simp [hop, Op.operands]))
  · rename_i op t x
    exact fin (by simp [execOp, hop]) (un_gives (just_some h) (hr x (by simp [hop, Op.operands])))
  · rename_i s' d x
    exact fin (by simp [execOp, hop]) (conv_gives h hnd (hr x (by simp [hop, Op.operands])))
  · -- makeInterface
    rename_i t x
    have h1 := hr x (by simp [hop, Op.operands])
    split at h <;> try (cases h; done)
    rename_i u hu' hu
    simp only [Option.some.injEq, Prod.mk.injEq] at h; obtain ⟨rfl, _⟩ := h
    refine fin (x := Instr.makeInterface t (ρ x)) (by simp [execOp, hop]) (gives_val (v := .iface t (ρ x)) ?_ (.ifc h1))
    simp only [Instr.makeInterface, Sem.run_bind, run_underlyingA hu, Result.andThen_ok]
    cases u <;> first | rfl | exact absurd hu (hu' _)
  · rename_i g first cap
    simp only [Option.some.injEq, Prod.mk.injEq] at h; obtain ⟨rfl, _⟩ := h
    refine ⟨.func (.func g) (first.map ρ) (cap.map ρ), w, by simp [execOp, hop, Instr.makeFunc], .fn ?_ ?_, Same.refl w⟩
    · rw [Array.toList_map]; exact relL_map _ fun x hx => hr x (by simp [hop, Op.operands]; exact .inl (by simpa using hx))
    · rw [Array.toList_map]; exact relL_map _ fun x hx => hr x (by simp [hop, Op.operands]; exact .inr (by simpa using hx))
  · rename_i t x lo hi mx
    refine fin (by simp [execOp, hop]) (slice_gives h hnd s (hr x (by simp [hop, Op.operands])) (relO_map _ fun y hy => hr y ?_) (relO_map _ fun y hy => hr y ?_) (relO_map _ fun y hy => hr y ?_))
    all_goals (simp [hop, Op.operands]; simp at hy; simp [hy])
  · rename_i t x f
    exact fin (by simp [execOp, hop]) (fieldAddr_gives (just_some h) (hr x (by simp [hop, Op.operands])))
  · rename_i t x f
    exact fin (by simp [execOp, hop]) (field_gives (just_some h) (hr x (by simp [hop, Op.operands])))
  · rename_i t x i
    exact fin (by simp [execOp, hop]) (indexAddr_gives h hnd (hr x (by simp [hop, Op.operands])) (hr i (by simp [hop, Op.operands])))
  · rename_i t x i
    exact fin (by simp [execOp, hop]) (index_gives h hnd (hr x (by simp [hop, Op.operands])) (hr i (by simp [hop, Op.operands])))
  · rename_i x xt at_ ok
    exact fin (x := Instr.typeAssert (ρ x) xt at_ ok) (by simp [execOp, hop]) (typeAssert_gives (just_some h) (hr x (by simp [hop, Op.operands])))
  · -- extract
    rename_i t ix
    have h1 := hr t (by simp [hop, Op.operands])
    split at h <;> try (cases h; done)
    rename_i l ht
    rw [ht] at h1
    have h2 := just_some h
    rw [nth?_eq] at h2
    cases htv : ρ t <;> rw [htv] at h1 <;> cases h1
    rename_i cs hl
    obtain ⟨y, hy, hry⟩ := hl.get h2
    have hy' : cs[ix]? = some y := by simpa using hy
    exact fin (x := Instr.extract (.tuple cs) ix) (by simp [execOp, hop, htv]) (gives_val (by simp [Instr.extract, hy']) hry)
  · rename_i t parts
    refine fin (x := Instr.build t (parts.map fun (i, x) => (i, ρ x))) (by simp [execOp, hop]) (build_gives (just_some h) ?_)
    refine ⟨by simp, fun j p q hp hq => ?_⟩
    simp only [List.getElem?_map, Array.getElem?_toList, Option.map_eq_some_iff] at hp
    obtain ⟨p0, hp0, rfl⟩ := hp
    simp only [Array.getElem?_toList, Array.getElem?_map, hp0, Option.map_some, Option.some.injEq] at hq
    subst hq
    refine ⟨rfl, hr p0.2 ?_⟩
    simp [hop, Op.operands]
    exact ⟨p0.1, by have := Array.mem_of_getElem? hp0; simpa using this⟩
  · rename_i b args ts
    have h1 : RelL σ (args.toList.map ρA) (args.map ρ).toList := by
      rw [Array.toList_map]; exact relL_map _ fun x hx => hr x (by simp [hop, Op.operands, Call.operands]; simpa using hx)
    obtain ⟨rv, w', e1, e2, e3⟩ := builtin_gives (w := w) (ty := o.type) (cs := args.map fun | .const _ => true | _ => false) (just_some h) h1
    exact ⟨rv, w', by simp [execOp, hop, resolve, invoke]; exact e1, e2, e3⟩
end
end Go.Ax

/- Two values merged into one by a test. -/
namespace Go.Ax
open Go

mutual
def mergeV (b : Bool) : AV → AV → Option AV
  | .b l x, .b l' y => match l && l' with
    | true => match x with
      | true => match y with
        | true => some (.b true true)
        | false => some (.b false b)
      | false => match y with
        | true => some (.b false (!b))
        | false => some (.b true false)
    | false => some (.b false (cond b x y))
  | .i l k n, .i l' k' m => if k = k' then match l && l' && decide (n = m) with
      | true => some (.i true k n)
      | false => some (.i false k (cond b n m)) else none
  | .f l k n, .f l' k' m => if k = k' then match l && l' && decide (n = m) with
      | true => some (.f true k n)
      | false => some (.f false k (cond b n m)) else none
  | .c l k x y, .c l' k' x' y' => if k = k' then match l && l' && decide (x = x') && decide (y = y') with
      | true => some (.c true k x y)
      | false => some (.c false k (cond b x x') (cond b y y')) else none
  | .s _ x, .s _ y => some (.s false (cond b x y))
  | .p l id off, .p l' id' off' => if id = id' then match l && l' && decide (off = off') with
      | true => some (.p true id off)
      | false => some (.p false id (cond b off off')) else none
  | .pnil, .pnil => some .pnil
  | .sl l id off len z, .sl l' id' off' len' z' => match decide (id = id') && decide (z = z') && l && l' && decide (off = off') && decide (len = len') with
      | true => some (.sl true id off len z)
      | false => if id = id' ∧ z = z' then some (.sl false id (cond b off off') (cond b len len') z) else none
  | .slnil, .slnil => some .slnil
  | .sle, .sle => some .sle
  | .fn g f c, .fn g' f' c' => if g = g' then match mergeL b f f', mergeL b c c' with
      | some x, some y => some (.fn g x y)
      | _, _ => none else none
  | .fnil, .fnil => some .fnil
  | .ifc t v, .ifc t' v' => if t = t' then match mergeV b v v' with
      | some x => some (.ifc t x)
      | none => none else none
  | .inil, .inil => some .inil
  | .agg l, .agg l' => match mergeL b l l' with
      | some x => some (.agg x)
      | none => none
  | .tup l, .tup l' => match mergeL b l l' with
      | some x => some (.tup x)
      | none => none
  | _, _ => none
def mergeL (b : Bool) : List AV → List AV → Option (List AV)
  | [], [] => some []
  | x :: xs, y :: ys => match mergeV b x y with
    | some z => match mergeL b xs ys with
      | some zs => some (z :: zs)
      | none => none
    | none => none
  | _, _ => none
end

mutual
theorem mergeV_left {σ : List (Nat × Nat)} : ∀ {x y z : AV} {v : Value}, mergeV true x y = some z → Rel σ x v → Rel σ z v
  | .b _ _, y, z, v, h, r => by
    cases y <;> simp only [mergeV] at h <;> (try (cases h; done))
    cases r
    repeat' (split at h)
    all_goals cases h
    all_goals first | exact .b _ | simp_all
  | .i _ _ _, y, z, v, h, r => by
    cases y <;> simp only [mergeV] at h <;> (try (cases h; done))
    split at h <;> (try (cases h; done))
    split at h <;> cases h <;> cases r <;> exact .i _ _
  | .f _ _ _, y, z, v, h, r => by
    cases y <;> simp only [mergeV] at h <;> (try (cases h; done))
    split at h <;> (try (cases h; done))
    split at h <;> cases h <;> cases r with | f hr => exact .f hr
  | .c _ _ _ _, y, z, v, h, r => by
    cases y <;> simp [mergeV] at h
    obtain ⟨rfl, h⟩ := h
    split at h <;> cases h
    · cases r with | c h1 h2 => exact .c h1 h2
    · cases r with | c h1 h2 => exact .c h1 h2
  | .s _ _, y, z, v, h, r => by
    cases y <;> simp [mergeV] at h; subst h; cases r; exact .s _
  | .p _ _ _, y, z, v, h, r => by
    cases y <;> simp only [mergeV] at h <;> (try (cases h; done))
    split at h <;> (try (cases h; done))
    split at h <;> cases h <;> cases r with | p hr => exact .p hr
  | .pnil, y, z, v, h, r => by cases y <;> simp [mergeV] at h; subst h; exact r
  | .sl _ _ _ _ _, y, z, v, h, r => by
    cases y <;> simp only [mergeV] at h <;> (try (cases h; done))
    split at h
    · cases h; cases r with | sl h1 h2 h3 => exact .sl h1 h2 h3 | slz => exact .slz
    · split at h <;> cases h
      cases r with | sl h1 h2 h3 => exact .sl h1 h2 h3 | slz => exact .slz
  | .slnil, y, z, v, h, r => by cases y <;> simp [mergeV] at h; subst h; exact r
  | .sle, y, z, v, h, r => by cases y <;> simp [mergeV] at h; subst h; exact r
  | .fn _ _ _, y, z, v, h, r => by
    cases y <;> simp only [mergeV] at h <;> (try (cases h; done))
    split at h <;> (try (cases h; done))
    split at h <;> cases h
    rename_i hx hy
    cases r with | fn h1 h2 => exact .fn (mergeL_left hx h1) (mergeL_left hy h2)
  | .fnil, y, z, v, h, r => by cases y <;> simp [mergeV] at h; subst h; exact r
  | .ifc _ _, y, z, v, h, r => by
    cases y <;> simp only [mergeV] at h <;> (try (cases h; done))
    split at h <;> (try (cases h; done))
    split at h <;> cases h
    rename_i hx
    cases r with | ifc h1 => exact .ifc (mergeV_left hx h1)
  | .inil, y, z, v, h, r => by cases y <;> simp [mergeV] at h; subst h; exact r
  | .agg _, y, z, v, h, r => by
    cases y <;> simp only [mergeV] at h <;> (try (cases h; done))
    split at h <;> cases h
    rename_i hx
    cases r with | agg h1 => exact .agg (mergeL_left hx h1)
  | .tup _, y, z, v, h, r => by
    cases y <;> simp only [mergeV] at h <;> (try (cases h; done))
    split at h <;> cases h
    rename_i hx
    cases r with | tup h1 => exact .tup (mergeL_left hx h1)
theorem mergeL_left {σ : List (Nat × Nat)} : ∀ {x y z : List AV} {v : List Value}, mergeL true x y = some z → RelL σ x v → RelL σ z v
  | [], y, z, v, h, r => by cases y <;> simp [mergeL] at h; subst h; exact r
  | x :: xs, y, z, v, h, r => by
    cases y <;> simp only [mergeL] at h <;> (try (cases h; done))
    split at h <;> (try (cases h; done))
    split at h <;> cases h
    rename_i hx _ _ hxs
    cases r with | cons h1 h2 => exact .cons (mergeV_left hx h1) (mergeL_left hxs h2)
end
mutual
theorem mergeV_right {σ : List (Nat × Nat)} : ∀ {x y z : AV} {v : Value}, mergeV false x y = some z → Rel σ y v → Rel σ z v
  | .b _ _, y, z, v, h, r => by
    cases y <;> simp only [mergeV] at h <;> (try (cases h; done))
    cases r
    repeat' (split at h)
    all_goals cases h
    all_goals first | exact .b _ | simp_all
  | .i _ _ _, y, z, v, h, r => by
    cases y <;> simp only [mergeV] at h <;> (try (cases h; done))
    split at h <;> (try (cases h; done))
    rename_i hk
    subst hk
    split at h
    · rename_i hl
      simp at hl
      obtain ⟨_, rfl⟩ := hl
      cases h; cases r; exact .i _ _
    · cases h; cases r; exact .i _ _
  | .f _ _ _, y, z, v, h, r => by
    cases y <;> simp only [mergeV] at h <;> (try (cases h; done))
    split at h <;> (try (cases h; done))
    rename_i hk
    subst hk
    split at h
    · rename_i hl
      simp at hl
      obtain ⟨_, rfl⟩ := hl
      cases h; cases r with | f hr => exact .f hr
    · cases h; cases r with | f hr => exact .f hr
  | .c _ _ _ _, y, z, v, h, r => by
    cases y <;> simp only [mergeV] at h <;> (try (cases h; done))
    split at h <;> (try (cases h; done))
    rename_i hk
    subst hk
    split at h <;> cases h
    · rename_i hl
      simp at hl
      obtain ⟨⟨_, rfl⟩, rfl⟩ := hl
      cases r with | c h1 h2 => exact .c h1 h2
    · cases r with | c h1 h2 => exact .c h1 h2
  | .s _ _, y, z, v, h, r => by
    cases y <;> simp [mergeV] at h; subst h; cases r; exact .s _
  | .p _ _ _, y, z, v, h, r => by
    cases y <;> simp only [mergeV] at h <;> (try (cases h; done))
    split at h <;> (try (cases h; done))
    rename_i hk
    subst hk
    split at h
    · rename_i hl
      simp at hl
      obtain ⟨_, rfl⟩ := hl
      cases h; cases r with | p hr => exact .p hr
    · cases h; cases r with | p hr => exact .p hr
  | .pnil, y, z, v, h, r => by cases y <;> simp [mergeV] at h; subst h; exact r
  | .sl _ _ _ _ _, y, z, v, h, r => by
    cases y <;> simp only [mergeV] at h <;> (try (cases h; done))
    split at h
    · cases h
      rename_i hl
      simp at hl
      obtain ⟨⟨⟨⟨⟨rfl, rfl⟩, _⟩, _⟩, rfl⟩, rfl⟩ := hl
      cases r with | sl h1 h2 h3 => exact .sl h1 h2 h3 | slz => exact .slz
    · split at h <;> cases h
      rename_i hl
      obtain ⟨rfl, rfl⟩ := hl
      cases r with | sl h1 h2 h3 => exact .sl h1 h2 h3 | slz => exact .slz
  | .slnil, y, z, v, h, r => by cases y <;> simp [mergeV] at h; subst h; exact r
  | .sle, y, z, v, h, r => by cases y <;> simp [mergeV] at h; subst h; exact r
  | .fn _ _ _, y, z, v, h, r => by
    cases y <;> simp only [mergeV] at h <;> (try (cases h; done))
    split at h <;> (try (cases h; done))
    rename_i hg
    subst hg
    split at h <;> cases h
    rename_i hx hy
    cases r with | fn h1 h2 => exact .fn (mergeL_right hx h1) (mergeL_right hy h2)
  | .fnil, y, z, v, h, r => by cases y <;> simp [mergeV] at h; subst h; exact r
  | .ifc _ _, y, z, v, h, r => by
    cases y <;> simp only [mergeV] at h <;> (try (cases h; done))
    split at h <;> (try (cases h; done))
    rename_i hg
    subst hg
    split at h <;> cases h
    rename_i hx
    cases r with | ifc h1 => exact .ifc (mergeV_right hx h1)
  | .inil, y, z, v, h, r => by cases y <;> simp [mergeV] at h; subst h; exact r
  | .agg _, y, z, v, h, r => by
    cases y <;> simp only [mergeV] at h <;> (try (cases h; done))
    split at h <;> cases h
    rename_i hx
    cases r with | agg h1 => exact .agg (mergeL_right hx h1)
  | .tup _, y, z, v, h, r => by
    cases y <;> simp only [mergeV] at h <;> (try (cases h; done))
    split at h <;> cases h
    rename_i hx
    cases r with | tup h1 => exact .tup (mergeL_right hx h1)
theorem mergeL_right {σ : List (Nat × Nat)} : ∀ {x y z : List AV} {v : List Value}, mergeL false x y = some z → RelL σ y v → RelL σ z v
  | [], y, z, v, h, r => by cases y <;> simp [mergeL] at h; subst h; exact r
  | x :: xs, y, z, v, h, r => by
    cases y <;> simp only [mergeL] at h <;> (try (cases h; done))
    split at h <;> (try (cases h; done))
    split at h <;> cases h
    rename_i hx _ _ hxs
    cases r with | cons h1 h2 => exact .cons (mergeV_right hx h1) (mergeL_right hxs h2)
end

end Go.Ax

/- Code run on abstract values. -/
namespace Go.Ax
open Go

/-- What a function's evaluation comes to: an answer, or two ways by a test that is not decided. -/
inductive Res where
  | ret (v : AV) (H : List AB) (nd : List Bool)
  | ite (b : Bool) (x y : Res)
  | stop (todo : List Item) (t : List AV) (H : List AB) (nd : List Bool)
  | fail
/-- The way that is gone. -/
def Res.sel : Res → Res
  | .ret v H nd => .ret v H nd
  | .ite b x y => if b then x.sel else y.sel
  | .stop todo t H nd => .stop todo t H nd
  | .fail => .fail
/-- A way through the tests. -/
def Res.at : Res → List Bool → Res
  | .ite _ x y, b :: l => match b with
    | true => x.at l
    | false => y.at l
  | r, _ => r
def Res.todo : Res → List Item
  | .stop todo _ _ _ => todo
  | _ => []

abbrev KF := AV → List AB → List Bool → Res
abbrev KT := List AV → List AB → List Bool → Res
/-- What is known of each function: how its calls are evaluated. -/
abbrev Table := FuncId → List AV → List AB → List Bool → KF → Res

def evA (t : List AV) : Operand → AV
  | .tmp n => getL t n
  | .const v => (ofV v).getD (.tup [])
  | .global _ => .tup []
  | .func f => .fn f [] []
def okOpd : Operand → Bool
  | .tmp _ => true
  | .const v => (ofV v).isSome
  | .global _ => false
  | .func _ => true
def putT (t : List AV) (d : Option Nat) (v : AV) : List AV :=
  match d with
  | some n => setL t n v
  | none => t

/-! ### Operations that make or write memory -/
def asF32 : List AV → Option (List Nat)
  | [] => some []
  | .f _ .f32 x :: l => match asF32 l with
    | some r => some (x :: r)
    | none => none
  | _ => none
def asC64 : List AV → Option (List (Nat × Nat))
  | [] => some []
  | .c _ .f32 x y :: l => match asC64 l with
    | some r => some ((x, y) :: r)
    | none => none
  | _ => none
def asInts (k : IntKind) : List AV → Option (List Int)
  | [] => some []
  | .i _ k' x :: l => if k = k' then (match asInts k l with
    | some r => some (x :: r)
    | none => none) else none
  | _ => none
def asStrs : List AV → Option (List (List UInt8))
  | [] => some []
  | .s _ x :: l => match asStrs l with
    | some r => some (x :: r)
    | none => none
  | _ => none
/-- Cells in the form that suits an element type. -/
def mkCells (P : Program) (e : TypeId) (l : List AV) : Cells :=
  match P.underlying e with
  | some (.float .f32) => match asF32 l with
    | some r => .f32 r
    | none => .lit l
  | some (.complex .f32) => match asC64 l with
    | some r => .c64 r
    | none => .lit l
  | some (.int k) => match asInts k l with
    | some r => .ints k r
    | none => .lit l
  | some .string => match asStrs l with
    | some r => .strs r
    | none => .lit l
  | _ => .lit l
/-- Cells of a literal; of none, in the form that suits what is put behind them. -/
def litCells (P : Program) (e : TypeId) (len : Nat) (l : List AV) : Cells :=
  match len with
  | 0 => mkCells P e l
  | _ => .lit l
/-- n cells of one value. -/
def repCells (P : Program) (e : TypeId) (z : AV) (n : Nat) : Cells :=
  match P.underlying e, z with
  | some (.float .f32), .f _ .f32 x => .f32 (List.replicate n x)
  | some (.complex .f32), .c _ .f32 x y => .c64 (List.replicate n (x, y))
  | some (.int _), .i _ k x => .ints k (List.replicate n x)
  | some .string, .s _ x => .strs (List.replicate n x)
  | _, z => .lit (List.replicate n z)
def Cells.app : Cells → Cells → Cells
  | .f32 x, .f32 y => .f32 (x ++ y)
  | .c64 x, .c64 y => .c64 (x ++ y)
  | .ints k x, .ints k' y => if k = k' then .ints k (x ++ y) else .lit ((Cells.ints k x).toL ++ (Cells.ints k' y).toL)
  | .strs x, .strs y => .strs (x ++ y)
  | A, B => .lit (A.toL ++ B.toL)
/-- A part of a row of cells. -/
def Cells.sub : Cells → Nat → Nat → Cells
  | .lit l, off, n => .lit ((l.drop off).take n)
  | .f32 x, off, n => .f32 ((x.drop off).take n)
  | .c64 x, off, n => .c64 ((x.drop off).take n)
  | .ints k x, off, n => .ints k ((x.drop off).take n)
  | .strs x, off, n => .strs ((x.drop off).take n)
/-- Cells written from a place on. -/
def Cells.put (A : Cells) (off : Nat) (vs : List AV) : Option Cells :=
  match vs with
  | [v] => A.set off v
  | vs => match A with
    | .lit l => some (.lit (l.take off ++ (vs ++ l.drop (off + vs.length))))
    | _ => none
def allCell : List AV → Bool
  | [] => true
  | v :: l => okCell v && allCell l

/-- The cells that an appended slice holds: tag, cells, number, what is to be shown. -/
def sliceCells (H : List AB) (size : Nat) : AV → Option (Bool × Cells × Nat × List Bool)
  | .sl l id off n _ => match getB H id with
    | .cells _ A => match chk (l && A.isLit) (decide (off + n * size ≤ A.len)) with
      | some nd => some (l, A.sub off (n * size), n, nd)
      | none => none
    | _ => none
  | .slnil => some (true, .lit [], 0, [])
  | .sle => some (true, .lit [], 0, [])
  | _ => none
def Cells.okAll : Cells → Bool
  | .lit l => allCell l
  | _ => true
def slId : AV → Option Nat
  | .sl _ id _ _ _ => some id
  | _ => none

/-- What is put behind a row, in the row's form. -/
def fitB (P : Program) (e : TypeId) (A B : Cells) : Cells :=
  match A with
  | .lit _ => B
  | _ => match B with
    | .lit l => mkCells P e l
    | B => B
def zeroFits (P : Program) (e : TypeId) (n : Nat) : Bool :=
  match zeroA P e with
  | some z => (cellsA z).length == n
  | none => false
def consN (v : AV) (H : List AB) (nd : List Bool) : Option (List Bool) → Option (AV × List AB × List Bool)
  | some n => some (v, H, n ++ nd)
  | none => none
def aAppend (P : Program) (ts : Array TypeId) (args : List AV) (H : List AB) : Option (AV × List AB × List Bool) :=
  match ts[0]?, ts[1]?, args with
  | some t, some t', [s, x] =>
    match P.underlying t, P.underlying t' with
    | some (.slice e), some (.slice _) =>
      match P.info? e with
      | some i =>
        match zeroFits P e i.size && decide (0 < i.bytes) && decide (0 < i.size), sliceCells H i.size x with
        | true, some (lx, B, n, nb) =>
          match B.okAll with
          | false => none
          | true =>
          match s with
          | .slnil => match lx, n with
            | true, 0 => some (.slnil, H, nb)
            | _, _ => consN (.sl lx H.length 0 n i.size) (H ++ [.cells true (mkCells P e B.toL)]) nb (chk lx (decide (0 < n) && decide ((2 * n + 1024) * i.bytes ≤ 2 ^ 48)))
          | .sle => match lx, n with
            | true, 0 => some (.sle, H, nb)
            | _, _ => consN (.sl lx H.length 0 n i.size) (H ++ [.cells true B]) nb (chk lx (decide (0 < n) && decide ((2 * n + 1024) * i.bytes ≤ 2 ^ 48)))
          | .sl l id off m z =>
            match getB H id with
            | .cells true A =>
              if slId x = some id then none else
              consN (.sl (l && lx) H.length 0 (m + n) i.size) (setB H id .dead ++ [.cells true ((A.sub off (m * i.size)).app (fitB P e A B))]) nb
                (chk (l && lx && A.isLit) (decide (off = 0) && decide (z = i.size) && decide (m * i.size = A.len) && decide ((2 * (m + n) + 1024) * i.bytes ≤ 2 ^ 48)))
            | _ => none
          | _ => none
        | _, _ => none
      | none => none
    | _, _ => none
  | _, _, _ => none

def aMake (P : Program) (t : TypeId) (l c : AV) (H : List AB) : Option (AV × List AB × List Bool) :=
  match P.underlying t, l, c with
  | some (.slice e), .i ll _ l, .i lc _ c =>
    match P.info? e, zeroA P e with
    | some i, some z =>
      if i.size = 1 then
        match cellsA z with
        | [z] => consN (.sl ll H.length 0 l.toNat 1) (H ++ [.cells true (repCells P e z c.toNat)]) []
            (chk (ll && lc) (decide (0 ≤ l) && decide (l ≤ c) && decide (i.bytes * c ≤ 2 ^ 48) && decide (0 < i.bytes)))
        | _ => none
      else
        consN (.sl ll H.length 0 l.toNat i.size) (H ++ [.cells true (.lit ((List.range (c.toNat * i.size)).map fun j => getL (cellsA z) (j % i.size)))]) []
            (chk (ll && lc) (decide (0 ≤ l) && decide (l ≤ c) && decide (i.bytes * c ≤ 2 ^ 48) && decide (0 < i.bytes) && decide ((cellsA z).length = i.size) && decide (0 < i.size)))
    | _, _ => none
  | _, _, _ => none

def aBuildSlice (P : Program) (t : TypeId) (len : Nat) (parts : List (Nat × AV)) (H : List AB) : Option (AV × List AB × List Bool) :=
  match P.underlying t with
  | some (.slice e) =>
    match szA P e, zeroA P e with
    | some n, some z =>
      match fillA (fun i => some (i * n, n)) ((List.range (len * n)).map fun j => getL (cellsA z) (j % n)) parts with
      | some l => consN (.sl true H.length 0 len n) (H ++ [.cells true (litCells P e len l)]) [] (chk true (decide (len * n ≤ 2 ^ 24) && decide ((cellsA z).length = n) && decide (0 < n)))
      | none => none
    | _, _ => none
  | _ => none

def symSet (off : Nat) (v : AV) : Nat → List AV → List AV
  | _, [] => []
  | j, a :: l => (match mergeV (decide (off = j)) v a with
    | some z => z
    | none => a) :: symSet off v (j + 1) l
def symOb (off : Nat) (v : AV) : Nat → List AV → List Bool
  | _, [] => []
  | j, a :: l => match mergeV (decide (off = j)) v a with
    | some _ => symOb off v (j + 1) l
    | none => (!decide (off = j)) :: symOb off v (j + 1) l
/-- A cell written at a place that is not a closed term, in a row of literal length. -/
def symPut (off : Nat) (A : Cells) (x : List AV) (H : List AB) (id : Nat) : Option (AV × List AB × List Bool) :=
  match A, x with
  | .lit L, [v] => match okCell v with
    | true => some (.tup [], setB H id (.cells true (.lit (symSet off v 0 L))), decide (off < L.length) :: symOb off v 0 L)
    | false => none
  | _, _ => none
def aStore (P : Program) (t : TypeId) (a x : AV) (H : List AB) : Option (AV × List AB × List Bool) :=
  match a with
  | .p l id off => match getB H id with
    | .cells true A => match szA P t with
      | some n => match l || !A.isLit with
        | true => match A.put off (cellsA x) with
          | some B => if allCell (cellsA x) then
              consN (.tup []) (setB H id (.cells true B)) [] (chk (l && A.isLit) (decide ((cellsA x).length = n) && decide (off + n ≤ A.len)))
            else none
          | none => none
        | false => match decide (n = 1) with
          | true => symPut off A (cellsA x) H id
          | false => none
      | none => none
    | _ => none
  | _ => none
/-- The operations that make or write memory. -/
def eop (P : Program) (op : Op) (ρ : Operand → AV) (H : List AB) : Option (AV × List AB × List Bool) :=
  match op with
  | .alloc e => match zeroA P e with
    | some z => some (.p true H.length 0, H ++ [.cells true (.lit (cellsA z))], [])
    | none => none
  | .box _ x => match isAny (ρ x) with
    | true => none
    | false => some (.p true H.length 0, H ++ [.cells true (.lit (cellsA (ρ x)))], [])
  | .store t a x => aStore P t (ρ a) (ρ x) H
  | .buildSlice t len parts => aBuildSlice P t len (parts.toList.map fun x => (x.1, ρ x.2)) H
  | .makeSlice t l c => aMake P t (ρ l) (ρ c) H
  | .call { callee := .builtin .append, args, argTypes } => aAppend P argTypes (args.toList.map ρ) H
  | _ => none

/-! ### Calls -/
/-- The function that is called, and its arguments. -/
def aCall (c : Call) (ρ : Operand → AV) : Option (FuncId × List AV) :=
  match c.callee with
  | .value f => match ρ f with
    | .fn g first cap => some (g, first ++ c.args.toList.map ρ ++ cap)
    | _ => none
  | _ => none
def fsqrt (x : Nat) : Nat := (FloatKind.f64.format.sqrt x).getD (qnan .f64)
/-- A function of the library without a Go body. -/
def aExtern (fn : Func) (args : List AV) : Option AV :=
  if fn.name == "math.sqrt" && fn.origin == "" then
    match args with
    | [.f l .f64 x] => some (.f l .f64 (fsqrt x))
    | _ => none
  else none

mutual
/-- No block beyond the first n is named. -/
def below (n : Nat) : AV → Bool
  | .p _ id _ => decide (id < n)
  | .sl _ id _ _ _ => decide (id < n)
  | .fn _ f c => belowL n f && belowL n c
  | .ifc _ v => below n v
  | .agg l => belowL n l
  | .tup l => belowL n l
  | _ => true
def belowL (n : Nat) : List AV → Bool
  | [] => true
  | a :: l => below n a && belowL n l
end
def roB : AB → AB
  | .dead => .dead
  | .cells _ A => .cells false A
  | .code o xs => .code o xs
def roH : List AB → List AB
  | [] => []
  | a :: l => roB a :: roH l

section
variable (P : Program) (T : Table)
def stepA (op : Op) (d : Option Nat) (t : List AV) (H : List AB) (nd : List Bool) (K : KT) : Res :=
  match aop P op (evA t) H with
  | some (v, n) => K (putT t d v) H (n ++ nd)
  | none => match eop P op (evA t) H with
    | some (v, H', n) => K (putT t d v) H' (n ++ nd)
    | none => .fail
/-- One operation. -/
def stepOp (o : Oper) (t : List AV) (H : List AB) (nd : List Bool) (K : KT) : Res :=
  if o.op.operands.all okOpd then
    match o.op with
    | .call c =>
      match aCall c (evA t) with
      | some (g, args) =>
        match P.funcs[g]? with
        | some fn =>
          match fn.body with
          | some _ =>
            match fn.name == "runtime.NumGoroutine" with
            | true => .fail
            | false => T g args H nd fun v H' nd' => K (putT t o.dst v) H' nd'
          | none => match aExtern fn args with
            | some v => K (putT t o.dst v) H nd
            | none => .fail
        | none => .fail
      | none => stepA P o.op o.dst t H nd K
    | op => stepA P op o.dst t H nd K
  else .fail
def stepAQ (op : Op) (d : Option Nat) (t : List AV) (H : List AB) (nd : List Bool) (K : List AV → List Bool → Res) : Res :=
  match aop P op (evA t) H with
  | some (v, n) => K (putT t d v) (n ++ nd)
  | none => .fail
/-- One operation that must leave memory alone. -/
def stepQ (o : Oper) (t : List AV) (H : List AB) (nd : List Bool) (K : List AV → List Bool → Res) : Res :=
  if o.op.operands.all okOpd then
    match o.op with
    | .call c =>
      match aCall c (evA t) with
      | some (g, args) =>
        match P.funcs[g]? with
        | some fn =>
          match fn.body with
          | some _ =>
            match fn.name == "runtime.NumGoroutine" with
            | true => .fail
            | false => T g args (roH H) nd fun v _ nd' => match below H.length v with
              | true => K (putT t o.dst v) nd'
              | false => .fail
          | none => match aExtern fn args with
            | some v => K (putT t o.dst v) nd
            | none => .fail
        | none => .fail
      | none => stepAQ P o.op o.dst t H nd K
    | op => stepAQ P op o.dst t H nd K
  else .fail

def gDst (ops : Array Oper) (j : Nat) : Option Nat :=
  match ops[j]? with
  | some o => o.dst
  | none => none
/-- A test that guards an operation: its temporary, and the two ways. -/
def guarded (ops : Array Oper) (o : Oper) (t : List AV) (yes no : List AV → Res) : Res :=
  match o.guard with
  | none => yes t
  | some (j, want) =>
    match gDst ops j with
    | none => .fail
    | some d =>
      match getL t d with
      | .b l x =>
        match l with
        | true => match x with
          | true => match want with
            | true => yes t
            | false => no t
          | false => match want with
            | true => no t
            | false => yes t
        | false => match want with
          | true => .ite x (yes (setL t d (.b true true))) (no (setL t d (.b true false)))
          | false => .ite x (no (setL t d (.b true true))) (yes (setL t d (.b true false)))
      | .tup [] => no t
      | _ => .fail

def runOps (ops : Array Oper) : List Oper → List AV → List AB → List Bool → KT → Res
  | [], t, H, nd, K => K t H nd
  | o :: rest, t, H, nd, K =>
    guarded ops o t
      (fun t => stepOp P T o t H nd fun t H nd => runOps ops rest t H nd K)
      (fun t => runOps ops rest (putT t o.dst (.tup [])) H nd K)
def runQ (ops : Array Oper) : List Oper → List AV → List AB → List Bool → (List AV → List Bool → Res) → Res
  | [], t, _, nd, K => K t nd
  | o :: rest, t, H, nd, K =>
    guarded ops o t
      (fun t => stepQ P T o t H nd fun t nd => runQ ops rest t H nd K)
      (fun t => runQ ops rest (putT t o.dst (.tup [])) H nd K)

/-! ### Regions whose order is open -/
def aheadOf (ops : Array Oper) : Nat → Nat → Nat → Bool
  | 0, _, _ => false
  | n + 1, j, k =>
    match ops[j]? with
    | some o => (o.after.any fun e => Region.binds .any e && e.on == k) || (o.after.any fun e => Region.binds .any e && aheadOf ops n e.on k)
    | none => false
def looks (ops : Array Oper) (o : Oper) : List Nat :=
  (o.op.operands.toList.filterMap fun | .tmp t => some t | _ => none) ++
  (match o.guard with
   | some (g, _) => (gDst ops g).toList
   | none => [])
def isEff : Op → Bool
  | .assign _ | .store .. | .alloc _ | .box .. | .buildSlice .. | .makeSlice .. => true
  | .call { callee := .builtin .append, .. } => true
  | _ => false
/-- How many operations come ahead of the first that writes. -/
def quietN : List Oper → Nat
  | [] => 0
  | o :: l => if isEff o.op then 0 else quietN l + 1
/-- The first m operations may come in any order that their edges allow, the others come one behind the other. -/
def drawOK (ops : Array Oper) (m : Nat) : Bool :=
  let n := ops.size
  ((List.range n).all fun j => match ops[j]? with
    | some o => (o.after.all fun e => !Region.binds .any e || decide (e.on < j)) &&
      (match o.op with | .select .. => false | _ => true) &&
      (if j < m then
        ((looks ops o).all fun t => (List.range m).all fun i => !(gDst ops i == some t) || aheadOf ops 10 j i) &&
        ((List.range m).all fun i => i == j || match o.dst with | some d => !(gDst ops i == some d) | none => true)
      else (List.range j).all fun k => aheadOf ops 10 j k)
    | none => false)
/-- Those that write memory. -/
def isEffA : Op → Bool
  | .store .. | .alloc _ | .box .. | .buildSlice .. | .makeSlice .. => true
  | .call { callee := .builtin .append, .. } => true
  | _ => false
def quietA : List Oper → Nat
  | [] => 0
  | o :: l => if isEffA o.op then 0 else quietA l + 1
/-- How many operations come first, in any order: those ahead of the first that writes, or, where that fits no order, those ahead of the first that writes memory. -/
def qN (ops : Array Oper) : Nat := match drawOK ops (quietN ops.toList) with
  | true => quietN ops.toList
  | false => quietA ops.toList
def qM (draw : Bool) (ops : Array Oper) : Nat := match draw with
  | true => qN ops
  | false => quietN ops.toList
def runRegion (ops : Array Oper) (draw : Bool) (t : List AV) (H : List AB) (nd : List Bool) (K : KT) : Res :=
  match draw with
  | false => runOps P T ops ops.toList t H nd K
  | true =>
    match P.follows .mixedOrders && drawOK ops (qN ops) with
    | true => runQ P T ops (ops.toList.take (qN ops)) t H nd fun t nd => runOps P T ops (ops.toList.drop (qN ops)) t H nd K
    | false => .fail

def run : Nat → List Item → List AV → List AB → List Bool → KT → Res
  | 0, _, _, _, _, _ => .fail
  | n + 1, todo, t, H, nd, K =>
    match todo with
    | [] => K t H nd
    | .inBlock _ :: k => run n k t H nd K
    | .inLoop c :: k => run n (.code c :: .inLoop c :: k) t H nd K
    | .code c :: k =>
      match c with
      | .skip => run n k t H nd K
      | .label _ => run n k t H nd K
      | .ret => K t H nd
      | .seq a b => run n (.code a :: .code b :: k) t H nd K
      | .cond c a b =>
        match okOpd c, evA t c with
        | true, .b l x => match l with
          | true => match x with
            | true => run n (.code a :: k) t H nd K
            | false => run n (.code b :: k) t H nd K
          | false => .ite x (run n (.code a :: k) t H nd K) (run n (.code b :: k) t H nd K)
        | _, _ => .fail
      | .block id c => run n (.code c :: .inBlock id :: k) t H nd K
      | .loop c => run n (.code c :: .inLoop c :: k) t H nd K
      | .exit id => match exitTo id k with
        | some k' => run n k' t H nd K
        | none => .fail
      | .region _ ops draw => runRegion P T ops draw t H nd fun t H nd => run n k t H nd K
      | _ => .fail
    | _ => .fail

def resV (P : Program) (t : List AV) (H : List AB) : List ResultVar → Option (List AV × List Bool)
  | [] => some ([], [])
  | .tmp d :: l => match resV P t H l with
    | some (vs, n) => some (getL t d :: vs, n)
    | none => none
  | .cell a ty :: l => match aLoad P ty (getL t a) H, resV P t H l with
    | some (v, m), some (vs, n) => some (v :: vs, m ++ n)
    | _, _ => none
def tupV : List AV → AV
  | [v] => v
  | l => .tup l
def retK (fn : Func) (K : KF) : KT := fun t H nd =>
  match resV P t H fn.results.toList with
  | some (vs, n) => K (tupV vs) H (n ++ nd)
  | none => .fail
def undefs : Nat → List AV
  | 0 => []
  | n + 1 => .tup [] :: undefs n
/-- A function's own text run. -/
def runF (n : Nat) : Table := fun f args H nd K =>
  match P.funcs[f]? with
  | some fn => match fn.body with
    | some c => run P T n [.code c] (args ++ undefs (fn.ntmps - args.length)) H nd (retK P fn K)
    | none => .fail
  | none => .fail
end
end Go.Ax

/- The operations that make or write memory: the model does the same. -/
namespace Go.Ax
open Go

/-- What a step has come to. -/
def Out (σ : List (Nat × Nat)) (H : List AB) (w : World) (v : AV) (H' : List AB) (rv : Value) (w' : World) : Prop :=
  ∃ σ', Rel σ' v rv ∧ Sim σ' H' w' ∧ Fr σ H w σ' H' w'

section
variable {P : Program} {w : World} {σ : List (Nat × Nat)} {H : List AB}

theorem relA_of {l : List AV} {c : Array Value} (h : RelL σ l c.toList) : RelA σ l c := fun j a ha => by
  obtain ⟨x, hx, hr⟩ := h.get ha
  exact ⟨x, by simpa using hx, hr⟩
/-- The same cells without tags. -/
def Alike (l m : List AV) : Prop := l.length = m.length ∧ ∀ (j : Nat) (a b : AV), l[j]? = some a → m[j]? = some b → a = b ∨ b = a.bare
theorem Alike.rfl' (l : List AV) : Alike l l := ⟨rfl, fun j a b h h' => by rw [h] at h'; cases h'; exact .inl rfl⟩
theorem relA_alike {l m : List AV} {c : Array Value} (h : RelA σ l c) (ha : Alike l m) : RelA σ m c := fun j b hb => by
  have hj : j < m.length := by
    rcases Nat.lt_or_ge j m.length with h' | h'
    · exact h'
    · rw [List.getElem?_eq_none h'] at hb; cases hb
  have hj' : j < l.length := by rw [ha.1]; exact hj
  have hl : l[j]? = some l[j] := List.getElem?_eq_getElem hj'
  obtain ⟨v, hv, hr⟩ := h j _ hl
  rcases ha.2 j _ b hl hb with rfl | rfl
  · exact ⟨v, hv, hr⟩
  · exact ⟨v, hv, hr.bare⟩

theorem asF32_alike : ∀ {l : List AV} {r : List Nat}, asF32 l = some r → Alike l (r.map (.f false .f32))
  | [], r, h => by cases h; exact Alike.rfl' _
  | a :: l, r, h => by
    unfold asF32 at h
    split at h <;> try (cases h; done)
    · rename_i heq; cases heq
    rename_i t x l' heq
    cases heq
    split at h <;> cases h
    rename_i r hr
    have ih := asF32_alike hr
    refine ⟨by simp [ih.1], fun j a b ha hb => ?_⟩
    cases j with
    | zero => simp at ha hb; subst ha; subst hb; exact .inr rfl
    | succ j => exact ih.2 j a b (by simpa using ha) (by simpa using hb)
theorem asC64_alike : ∀ {l : List AV} {r : List (Nat × Nat)}, asC64 l = some r → Alike l (r.map fun z => .c false .f32 z.1 z.2)
  | [], r, h => by cases h; exact Alike.rfl' _
  | a :: l, r, h => by
    unfold asC64 at h
    split at h <;> try (cases h; done)
    · rename_i heq; cases heq
    rename_i t x y l' heq
    cases heq
    split at h <;> cases h
    rename_i r hr
    have ih := asC64_alike hr
    refine ⟨by simp [ih.1], fun j a b ha hb => ?_⟩
    cases j with
    | zero => simp at ha hb; subst ha; subst hb; exact .inr rfl
    | succ j => exact ih.2 j a b (by simpa using ha) (by simpa using hb)
theorem asInts_alike {k : IntKind} : ∀ {l : List AV} {r : List Int}, asInts k l = some r → Alike l (r.map (.i false k))
  | [], r, h => by cases h; exact Alike.rfl' _
  | a :: l, r, h => by
    cases a <;> simp only [asInts] at h <;> try (cases h; done)
    rename_i t k' x
    split at h <;> try (cases h; done)
    rename_i hk; subst hk
    split at h <;> cases h
    rename_i r hr
    have ih := asInts_alike hr
    refine ⟨by simp [ih.1], fun j a b ha hb => ?_⟩
    cases j with
    | zero => simp at ha hb; subst ha; subst hb; exact .inr rfl
    | succ j => exact ih.2 j a b (by simpa using ha) (by simpa using hb)
theorem asStrs_alike : ∀ {l : List AV} {r : List (List UInt8)}, asStrs l = some r → Alike l (r.map (.s false))
  | [], r, h => by cases h; exact Alike.rfl' _
  | a :: l, r, h => by
    cases a <;> simp only [asStrs] at h <;> try (cases h; done)
    rename_i t x
    split at h <;> cases h
    rename_i r hr
    have ih := asStrs_alike hr
    refine ⟨by simp [ih.1], fun j a b ha hb => ?_⟩
    cases j with
    | zero => simp at ha hb; subst ha; subst hb; exact .inr rfl
    | succ j => exact ih.2 j a b (by simpa using ha) (by simpa using hb)
theorem mkCells_alike (e : TypeId) (l : List AV) : Alike l (mkCells P e l).toL := by
  unfold mkCells
  split
  · split
    · rename_i r hr; exact asF32_alike hr
    · exact Alike.rfl' _
  · split
    · rename_i r hr; exact asC64_alike hr
    · exact Alike.rfl' _
  · split
    · rename_i r hr; exact asInts_alike hr
    · exact Alike.rfl' _
  · split
    · rename_i r hr; exact asStrs_alike hr
    · exact Alike.rfl' _
  · exact Alike.rfl' _

theorem litCells_alike (e : TypeId) (n : Nat) (l : List AV) : Alike l (litCells P e n l).toL := by
  unfold litCells
  split
  · exact mkCells_alike e l
  · exact Alike.rfl' _

/-- A new block of cells, and a pointer to it. -/
theorem alloc_out {A : Cells} {c : Array Value} {t : TypeId} (s : Sim σ H w) (h : RelA σ A.toL c) :
    Sim (σ ++ [(w.heap.size, c.size)]) (H ++ [.cells true A]) (w.alloc (.cells c t)) ∧ Fr σ H w (σ ++ [(w.heap.size, c.size)]) (H ++ [.cells true A]) (w.alloc (.cells c t)) ∧
      (σ ++ [(w.heap.size, c.size)])[H.length]? = some (w.heap.size, c.size) :=
  ⟨s.alloc h, Fr.alloc σ H w _ _ _ s.len, by rw [← s.len]; simp⟩

/-! ### Stores -/
theorem storeCells_out {id b z : Nat} : ∀ {vs : List AV} {rvs : List Value} (off i : Nat) {w : World} {H : List AB} {L : List AV}, σ[id]? = some (b, z) → getB H id = .cells true (.lit L) → Sim σ H w →
    RelL σ vs rvs → allCell vs = true → off + i + vs.length ≤ L.length →
    ∃ w', (storeCells ⟨b, off, none⟩ rvs i).run P w = .ok () w' ∧ Sim σ (setB H id (.cells true (.lit (setAll L (off + i) vs)))) w' ∧ Fr σ H w σ (setB H id (.cells true (.lit (setAll L (off + i) vs)))) w'
  | _, _, off, i, w, H, L, hid, hg, s, .nil, _, _ => by
    have hidl : id < H.length := by rw [← s.len]; exact isSome_lt hid
    have hsame : setB H id (.cells true (.lit L)) = H := by
      rw [← hg]
      have : ∀ (H : List AB) (id : Nat), setB H id (getB H id) = H := by
        intro H
        induction H with
        | nil => intro id; rfl
        | cons a H ih => intro id; cases id with
          | zero => rfl
          | succ n => simp [setB, getB, ih n]
      exact this H id
    refine ⟨w, by simp [storeCells], ?_, ?_⟩
    · simp only [setAll]; rw [hsame]; exact s
    · simp only [setAll]; rw [hsame]; exact Fr.refl _ _ _
  | _, _, off, i, w, H, L, hid, hg, s, .cons (a := a) (v := v) (as := as) (vs := rvs) hv hs, hc, hb => by
    simp only [allCell, Bool.and_eq_true] at hc
    simp only [List.length_cons] at hb
    have hidl : id < H.length := by rw [← s.len]; exact isSome_lt hid
    obtain ⟨⟨u, hu⟩, hf, s1⟩ := s.store (off := off + i) (B := .lit (setL L (off + i) a)) hid hg (by simp [Cells.len]; omega) (by simp [Cells.toL, setL_eq]) hv
    have f1 : Fr σ H w σ (setB H id (.cells true (.lit (setL L (off + i) a)))) (w.setCell ⟨b, off + i, none⟩ v) := Fr.store σ H w hid hg
    have hg1 : getB (setB H id (.cells true (.lit (setL L (off + i) a)))) id = .cells true (.lit (setL L (off + i) a)) := getB_setB_same hidl
    obtain ⟨w', h1, h2, h3⟩ := storeCells_out off (i + 1) hid hg1 s1 hs hc.2 (by rw [setL_eq]; simp; omega)
    have hss : ∀ (H : List AB) (id : Nat) (x y : AB), setB (setB H id x) id y = setB H id y := by
      intro H
      induction H with
      | nil => intros; rfl
      | cons c H ih => intro id x y; cases id with
        | zero => rfl
        | succ n => simp [setB, ih n]
    rw [hss] at h2 h3
    refine ⟨w', ?_, ?_, ?_⟩
    · have hst : (store ((⟨b, off, none⟩ : Addr).add i) v).run P w = .ok () (w.setCell ⟨b, off + i, none⟩ v) := by
        rw [addr_add, run_store P w _ v .plain (okCell_one hv hc.1), hu]
        simp [hf]
      simp only [storeCells, Sem.run_bind, hst, Result.andThen_ok]
      exact h1
    · simpa [setAll, Nat.add_assoc] using h2
    · simpa [setAll, Nat.add_assoc] using f1.trans h3

theorem setB_self (H : List AB) (id : Nat) : setB H id (getB H id) = H := by
  induction H generalizing id with
  | nil => rfl
  | cons a H ih => cases id with
    | zero => rfl
    | succ n => simp [setB, getB, ih n]
theorem setB_setB (H : List AB) (id : Nat) (x y : AB) : setB (setB H id x) id y = setB H id y := by
  induction H generalizing id with
  | nil => rfl
  | cons c H ih => cases id with
    | zero => rfl
    | succ n => simp [setB, ih n]

theorem setAll_eq : ∀ (vs L : List AV) (n : Nat), n + vs.length ≤ L.length → setAll L n vs = L.take n ++ (vs ++ L.drop (n + vs.length))
  | [], L, n, _ => by simp [setAll]
  | v :: vs, L, n, h => by
    simp only [List.length_cons] at h
    simp only [setAll]
    rw [setAll_eq vs _ _ (by rw [setL_eq]; simp; omega), setL_eq]
    have h1 : (L.set n v).take (n + 1) = L.take n ++ [v] := by
      rw [List.take_succ_eq_append_getElem (by simp; omega)]
      simp [List.take_set_of_le]
    have h2 : (L.set n v).drop (n + 1 + vs.length) = L.drop (n + 1 + vs.length) := by
      rw [List.drop_set_of_lt (by omega)]
    rw [h1, h2]
    simp [Nat.add_assoc, Nat.add_comm 1]

theorem Sim.alike {id : Nat} {r : Bool} {A B : Cells} (h : Alike A.toL B.toL) (hid : id < H.length) (s : Sim σ (setB H id (.cells r A)) w) : Sim σ (setB H id (.cells r B)) w := by
  refine ⟨by rw [setB_length]; have := s.len; rwa [setB_length] at this, fun i b z hb => ?_, fun i j b z z' hi hj hr hl => ?_, s.base.rw' setB_rw⟩
  · have := s.blk i b z hb
    by_cases hib : id = i
    · subst hib
      rw [getB_setB_same hid] at this ⊢
      obtain ⟨c, e, fr, h1, h2, h3⟩ := this
      exact ⟨c, e, fr, h1, relA_alike h2 h, h3⟩
    · rwa [getB_setB_ne hib] at this ⊢
  · refine s.inj i j b z z' hi hj ?_ ?_
    · by_cases hib : id = i
      · subst hib; rw [getB_setB_same hid] at hr ⊢; exact hr
      · rwa [getB_setB_ne hib] at hr ⊢
    · by_cases hib : id = j
      · subst hib; rw [getB_setB_same hid]; rfl
      · rwa [getB_setB_ne hib] at hl ⊢
theorem Fr.other {σ' : List (Nat × Nat)} {H' : List AB} {w' : World} {id : Nat} {r : Bool} {A B : Cells} (h : Fr σ H w σ' (setB H' id (.cells r A)) w') : Fr σ H w σ' (setB H' id (.cells r B)) w' := by
  refine ⟨h.os, h.tape, h.output, h.size, h.old, h.ext, h.new, fun i hi hr => h.mono i hi ?_⟩
  by_cases hid : id < H'.length
  · by_cases hib : id = i
    · subst hib; rw [getB_setB_same hid] at hr ⊢; exact hr
    · rwa [getB_setB_ne hib] at hr ⊢
  · have : ∀ x, getB (setB H' id x) i = getB H' i := by
      intro x
      by_cases hib : id = i
      · subst hib
        rw [getB_none (by rw [setB_length]; omega), getB_none (by omega)]
      · exact getB_setB_ne hib
    rw [this] at hr ⊢; exact hr

theorem put_alike {A B : Cells} {off : Nat} {vs : List AV} (h : A.put off vs = some B) (hb : off + vs.length ≤ A.len) : Alike (setAll A.toL off vs) B.toL := by
  have hlen : off + vs.length ≤ A.toL.length := by rw [Cells.len_eq]; exact hb
  have hone : ∀ {v : AV}, vs = [v] → A.set off v = some B → Alike (setAll A.toL off vs) B.toL := by
    intro v hv hs
    subst hv
    rcases Cells.set_toL hs with e | e
    · rw [e]; simp only [setAll, setL_eq]; exact Alike.rfl' _
    · rw [e]; simp only [setAll, setL_eq]
      refine ⟨by simp, fun j a b ha hb' => ?_⟩
      by_cases hj : off = j
      · subst hj
        simp only [List.length_cons, List.length_nil] at hlen
        rw [List.getElem?_set_self (by omega)] at ha hb'
        cases ha; cases hb'; exact .inr rfl
      · rw [List.getElem?_set_ne hj] at ha hb'
        rw [ha] at hb'; cases hb'; exact .inl rfl
  unfold Cells.put at h
  split at h
  · exact hone rfl h
  · split at h <;> cases h
    rename_i l
    simp only [Cells.toL] at hlen ⊢
    rw [setAll_eq _ _ _ hlen]
    exact Alike.rfl' _

theorem consN_some {v v' : AV} {H H' : List AB} {nd n : List Bool} {o : Option (List Bool)} (h : consN v H nd o = some (v', H', n)) (hn : allT n = true) :
    v = v' ∧ H = H' ∧ allT nd = true ∧ ∃ m, o = some m ∧ allT m = true := by
  cases o <;> simp [consN] at h
  rename_i m
  obtain ⟨rfl, rfl, rfl⟩ := h
  rw [allT_append, Bool.and_eq_true] at hn
  exact ⟨rfl, rfl, hn.2, m, rfl, hn.1⟩

theorem not_any {a : AV} (h : allCell (cellsA a) = true) : isAny a = false := by
  cases a <;> first | rfl | (simp [cellsA, allCell, okCell] at h)
theorem sym_weak {off : Nat} {v : AV} {c : Array Value} : ∀ (L : List AV) (j : Nat), allT (symOb off v j L) = true → ∀ (i : Nat) (a b : AV) (x : Value), L[i]? = some a → (symSet off v j L)[i]? = some b →
    Rel σ (if off = j + i then v else a) x → Rel σ b x
  | [], j, _, i, a, b, x, ha, _, _ => by simp at ha
  | y :: L, j, hob, 0, a, b, x, ha, hb, r => by
    simp only [List.getElem?_cons_zero, Option.some.injEq] at ha
    subst ha
    simp only [symSet, List.getElem?_cons_zero, Option.some.injEq] at hb
    simp only [Nat.add_zero] at r
    simp only [symOb] at hob
    by_cases ho : off = j
    · rw [if_pos ho] at r
      have hd : decide (off = j) = true := by simpa using ho
      rw [hd] at hb hob
      cases hm : mergeV true v y with
      | none => rw [hm] at hob; simp [allT] at hob
      | some z =>
        rw [hm] at hb
        cases hb
        exact mergeV_left hm r
    · rw [if_neg ho] at r
      have hd : decide (off = j) = false := by simpa using ho
      rw [hd] at hb hob
      cases hm : mergeV false v y with
      | none => rw [hm] at hb; cases hb; exact r
      | some z =>
        rw [hm] at hb
        cases hb
        exact mergeV_right hm r
  | y :: L, j, hob, i + 1, a, b, x, ha, hb, r => by
    simp only [List.getElem?_cons_succ] at ha
    simp only [symSet, List.getElem?_cons_succ] at hb
    have hob' : allT (symOb off v (j + 1) L) = true := by
      simp only [symOb] at hob
      split at hob
      · exact hob
      · simp only [allT, Bool.and_eq_true] at hob; exact hob.2
    refine sym_weak (c := c) L (j + 1) hob' i a b x ha hb ?_
    rw [show j + 1 + i = j + (i + 1) by omega]; exact r
theorem symSet_length (off : Nat) (v : AV) : ∀ (L : List AV) (j : Nat), (symSet off v j L).length = L.length
  | [], _ => rfl
  | _ :: L, j => by simp [symSet, symSet_length off v L (j + 1)]

theorem symPut_out {t : TypeId} {l : Bool} {id off : Nat} {A : Cells} {x v : AV} {ra rx : Value} {H' : List AB} {nd : List Bool} (h : symPut off A (cellsA x) H id = some (v, H', nd)) (hnd : allT nd = true) (s : Sim σ H w)
    (ha : Rel σ (.p l id off) ra) (hx : Rel σ x rx) (hg : getB H id = .cells true A) (hn : szA P t = some 1) :
    v = .tup [] ∧ ∃ w', (Instr.storeAt t ra rx).run P w = .ok () w' ∧ Sim σ H' w' ∧ Fr σ H w σ H' w' := by
  unfold symPut at h
  split at h <;> try (cases h; done)
  rename_i L a hcx
  split at h <;> try (cases h; done)
  rename_i hok
  cases h
  simp only [allT, Bool.and_eq_true, decide_eq_true_eq] at hnd
  obtain ⟨hlt, hob⟩ := hnd
  cases ha with | p hid =>
  rename_i b z
  have hidl : id < H.length := by rw [← s.len]; exact isSome_lt hid
  have hcr := cellsA_rel hx (not_any (by rw [hcx]; simp [allCell, hok]))
  rw [hcx] at hcr
  have hcl := hcr.length
  simp only [Array.length_toList, List.length_cons, List.length_nil] at hcl
  obtain ⟨w', h1, h2, h3⟩ := storeCells_out (P := P) off 0 hid hg s hcr (by simp [allCell, hok]) (by simp; omega)
  refine ⟨rfl, w', ?_, ?_, h3.other⟩
  · have hsz : rx.cells.size = 1 := by omega
    simp only [Instr.storeAt, Instr.sureAddr, Sem.run_bind, Sem.run_pure, Result.andThen_ok, storeVar, run_sizeOfA hn, hsz, ne_eq, not_true_eq_false, if_false]
    exact h1
  · refine ⟨by rw [setB_length]; exact s.len, fun i b' z' hb' => ?_, fun i j b' z' z2 hi hj hri hlj => ?_, h2.base.rw' setB_rw⟩
    · have h0 := h2.blk i b' z' hb'
      by_cases hib : id = i
      · subst hib
        rw [getB_setB_same hidl] at h0 ⊢
        obtain ⟨c, e, fr, e1, e2, e3⟩ := h0
        refine ⟨c, e, fr, e1, fun k y hk => ?_, e3⟩
        simp only [Cells.toL] at hk
        have hkl : k < L.length := by
          rcases Nat.lt_or_ge k L.length with h' | h'
          · exact h'
          · rw [List.getElem?_eq_none (by rw [symSet_length]; exact h')] at hk; cases hk
        obtain ⟨y0, hy0, hr0⟩ := e2 k (if off = k then a else L[k]) (by
          simp only [Cells.toL, setAll, setL_eq, Nat.add_zero]
          by_cases ho : off = k
          · subst ho; rw [List.getElem?_set_self hlt, if_pos rfl]
          · rw [List.getElem?_set_ne ho, if_neg ho]; exact List.getElem?_eq_getElem hkl)
        exact ⟨y0, hy0, sym_weak (c := c) L 0 hob k L[k] y y0 (List.getElem?_eq_getElem hkl) hk (by rw [Nat.zero_add]; exact hr0)⟩
      · rw [getB_setB_ne hib] at h0 ⊢; exact h0
    · have key : ∀ k, (getB (setB H id (.cells true (.lit (symSet off a 0 L)))) k).rw = (getB H k).rw ∧ (getB (setB H id (.cells true (.lit (symSet off a 0 L)))) k).live = (getB H k).live := fun k => by
        by_cases hib : id = k
        · subst hib; rw [getB_setB_same hidl, hg]; exact ⟨rfl, rfl⟩
        · rw [getB_setB_ne hib]; exact ⟨rfl, rfl⟩
      rw [(key i).1] at hri
      rw [(key j).2] at hlj
      exact s.inj i j b' z' z2 hi hj hri hlj

theorem store_out {t : TypeId} {a x v : AV} {ra rx : Value} {H' : List AB} {nd : List Bool} (h : aStore P t a x H = some (v, H', nd)) (hnd : allT nd = true) (s : Sim σ H w) (ha : Rel σ a ra) (hx : Rel σ x rx) :
    v = .tup [] ∧ ∃ w', (Instr.storeAt t ra rx).run P w = .ok () w' ∧ Sim σ H' w' ∧ Fr σ H w σ H' w' := by
  unfold aStore at h
  split at h <;> try (cases h; done)
  rename_i l id off
  split at h <;> try (cases h; done)
  rename_i A hg
  split at h <;> try (cases h; done)
  rename_i n hn
  split at h
  case h_2 =>
    split at h <;> try (cases h; done)
    rename_i hn1
    have hn1 : n = 1 := by simpa using hn1
    subst hn1
    exact symPut_out h hnd s ha hx hg hn
  split at h <;> try (cases h; done)
  rename_i B hB
  split at h <;> try (cases h; done)
  rename_i hcell
  obtain ⟨rfl, rfl, _, m, hc, hm⟩ := consN_some h hnd
  have hc := chk_spec hc hm
  simp only [Bool.and_eq_true, decide_eq_true_eq] at hc
  cases ha with | p hid =>
  rename_i b z
  have hidl : id < H.length := by rw [← s.len]; exact isSome_lt hid
  have hcx := cellsA_rel hx (not_any hcell)
  have hcl := hcx.length
  simp only [Array.length_toList] at hcl
  have s0 : Sim σ (setB H id (.cells true (.lit A.toL))) w := by
    refine Sim.alike (A := A) (Alike.rfl' _) hidl ?_
    rw [← hg, setB_self]; exact s
  have hg0 : getB (setB H id (.cells true (.lit A.toL))) id = .cells true (.lit A.toL) := getB_setB_same hidl
  have hlen : off + (cellsA x).length ≤ A.toL.length := by rw [Cells.len_eq]; omega
  obtain ⟨w', h1, h2, h3⟩ := storeCells_out (P := P) off 0 hid hg0 s0 hcx hcell (by simpa using hlen)
  rw [Nat.add_zero, setB_setB] at h2 h3
  refine ⟨rfl, w', ?_, Sim.alike (A := .lit (setAll A.toL off (cellsA x))) (put_alike hB (by omega)) hidl h2, ?_⟩
  · have hsz : rx.cells.size = n := by omega
    simp only [Instr.storeAt, Instr.sureAddr, Sem.run_bind, Sem.run_pure, Result.andThen_ok, storeVar, run_sizeOfA hn, hsz, ne_eq, not_true_eq_false, if_false]
    exact h1
  · have f0 : Fr σ H w σ (setB H id (.cells true (.lit A.toL))) w := by
      refine ⟨rfl, rfl, rfl, Nat.le_refl _, fun _ _ _ => rfl, Ext.refl _, fun i b z h h' => (by rw [h'] at h; cases h), fun i hi hr => ?_⟩
      by_cases hib : id = i
      · subst hib; rw [hg]; rfl
      · rwa [getB_setB_ne hib] at hr
    exact (f0.trans h3).other

/-! ### New blocks -/
theorem new_out {A : Cells} {c : Array Value} {e : TypeId} (s : Sim σ H w) (h : RelA σ A.toL c) {l : Bool} {len cap z : Nat} (hl : len ≤ cap) (hz : cap * z ≤ c.size) :
    Out σ H w (.sl l H.length 0 len z) (H ++ [.cells true A]) (.slice (some ⟨w.heap.size, 0, none⟩) len cap) (w.alloc (.cells c e)) := by
  obtain ⟨h1, h2, h3⟩ := alloc_out (t := e) s h
  exact ⟨_, .sl h3 hl (by omega), h1, h2⟩

theorem zero_list {z : AV} {zv : Value} {n : Nat} (hz : Rel σ z zv) (na : isAny z = false) (hn : (cellsA z).length = n) (h0 : 0 < n) (m : Nat) :
    RelL σ ((List.range m).map fun j => getL (cellsA z) (j % n)) ((Array.range m).map (fun i => zv.cells[i % zv.cells.size]!)).toList := by
  have hc := cellsA_rel hz na
  have hcl := hc.length
  simp only [Array.length_toList] at hcl
  rw [Array.toList_map, Array.toList_range]
  refine RelL.map _ _ _ fun j _ => ?_
  have hlt : j % n < (cellsA z).length := by rw [hn]; exact Nat.mod_lt _ h0
  obtain ⟨x, hx, hr⟩ := hc.get (getL_some hlt)
  rw [← hcl, hn]
  have hx' : zv.cells[j % n]? = some x := by simpa using hx
  rw [getElem!_def, hx']
  exact hr

theorem buildSlice_out {t : TypeId} {len : Nat} {parts : List (Nat × AV)} {rparts : Array (Nat × Value)} {v : AV} {H' : List AB} {nd : List Bool} (h : aBuildSlice P t len parts H = some (v, H', nd)) (hnd : allT nd = true) (s : Sim σ H w)
    (hp : parts.length = rparts.toList.length ∧ ∀ (j : Nat) (p : Nat × AV) (q : Nat × Value), parts[j]? = some p → rparts.toList[j]? = some q → p.1 = q.1 ∧ Rel σ p.2 q.2) :
    ∃ rv w', (Instr.buildSlice t len rparts).run P w = .ok rv w' ∧ Out σ H w v H' rv w' := by
  unfold aBuildSlice at h
  split at h <;> try (cases h; done)
  rename_i e hu
  split at h <;> try (cases h; done)
  rename_i n z hn hz
  split at h <;> try (cases h; done)
  rename_i l hl
  obtain ⟨rfl, rfl, _, m, hc, hm⟩ := consN_some h hnd
  have hc := chk_spec hc hm
  simp only [Bool.and_eq_true, decide_eq_true_eq] at hc
  obtain ⟨⟨h1, h2⟩, h3⟩ := hc
  obtain ⟨zv, hzr, hzrel, _⟩ := zeroA_run (w := w) (σ := σ) hz
  have hzl := zero_list hzrel (zeroA_not hz) h2 h3 (len * n)
  obtain ⟨c', hc', hr'⟩ := fill_rel hl hp hzl
  have hcs : c'.size = len * n := by
    have e1 := hr'.length
    have e2 : ∀ {place : Nat → Option (Nat × Nat)} {parts : List (Nat × AV)} {l l' : List AV}, fillA place l parts = some l' → l'.length = l.length := by
      intro place parts
      induction parts with
      | nil => intro l l' h; cases h; rfl
      | cons p parts ih =>
        intro l l' h
        obtain ⟨i, v⟩ := p
        simp only [fillA] at h
        split at h <;> try (cases h; done)
        split at h <;> try (cases h; done)
        rw [ih h, setAll_length]
    have := e2 hl
    simp at this e1
    omega
  refine ⟨_, _, ?_, new_out (A := litCells P e len l) (c := c') (e := e) s (relA_alike (relA_of hr') (litCells_alike e len l)) (Nat.le_refl len) (by rw [hcs]; exact Nat.le_refl _)⟩
  simp only [Instr.buildSlice, Sem.run_bind, run_underlyingA hu, Result.andThen_ok, run_sizeOfA hn]
  rw [if_neg (by omega)]
  by_cases h0 : len * n = 0
  · rw [if_pos h0]
    have hf : Instr.fill (fun i => some (i * n, n)) ((Array.range (len * n)).map (fun x => (#[] : Array Value)[x % (#[] : Array Value).size]!)) rparts.toList = some c' := by
      have e1 : ∀ g : Nat → Value, (Array.range (len * n)).map g = #[] := fun g => by rw [h0]; simp
      rw [e1]; rw [e1] at hc'; exact hc'
    simp only [Sem.run_bind, Sem.run_pure, Result.andThen_ok, hf, newRow, run_newObj]
    rfl
  · rw [if_neg h0]
    simp only [Sem.run_bind, hzr, Sem.run_pure, Result.andThen_ok, hc', newRow, run_newObj]
    rfl

theorem wrap64_id {n : Int} (h0 : -9223372036854775808 ≤ n) (h1 : n ≤ 9223372036854775807) : IntKind.i64.wrap n = n := by
  have e : IntKind.i64.wrap n = if 9223372036854775808 ≤ n % 18446744073709551616 then n % 18446744073709551616 - 18446744073709551616 else n % 18446744073709551616 := by
    simp [IntKind.wrap, IntKind.bits, IntKind.signed]
  rw [e]; split <;> omega
theorem rep_alike {e : TypeId} {z : AV} (n : Nat) : Alike (List.replicate n z) (repCells P e z n).toL := by
  have key : ∀ (y : AV), (z = y ∨ y = z.bare) → Alike (List.replicate n z) (List.replicate n y) := by
    intro y hy
    refine ⟨by simp, fun j a b ha hb => ?_⟩
    simp only [List.getElem?_replicate] at ha hb
    split at ha <;> cases ha
    split at hb <;> cases hb
    · exact hy
    · omega
  unfold repCells
  split
  · simp only [Cells.toL, List.map_replicate]; exact key _ (.inr rfl)
  · simp only [Cells.toL, List.map_replicate]; exact key _ (.inr rfl)
  · simp only [Cells.toL, List.map_replicate]; exact key _ (.inr rfl)
  · simp only [Cells.toL, List.map_replicate]; exact key _ (.inr rfl)
  · exact Alike.rfl' _

theorem make_out {t : TypeId} {l c v : AV} {rl rc : Value} {H' : List AB} {nd : List Bool} (h : aMake P t l c H = some (v, H', nd)) (hnd : allT nd = true) (s : Sim σ H w) (hl : Rel σ l rl) (hc : Rel σ c rc) :
    ∃ rv w', (Instr.makeSlice t rl rc).run P w = .ok rv w' ∧ Out σ H w v H' rv w' := by
  unfold aMake at h
  split at h <;> try (cases h; done)
  rename_i e ll kl l lc kc c hu
  cases hl; cases hc
  split at h <;> try (cases h; done)
  rename_i i z hi hz
  obtain ⟨zv, hzr, hzrel, i', hi', hiz⟩ := zeroA_run (w := w) (σ := σ) hz
  rw [hi] at hi'; cases hi'
  have hszr : (sizeOf e).run P w = .ok i.size w := by simp [sizeOf, run_typeInfoA hi]
  have main : ∀ (cells : Array Value), 0 ≤ l → l ≤ c → (i.bytes : Int) * c ≤ 2 ^ 48 → 0 < i.bytes →
      (∀ zc : Array Value, (c.toNat * i.size = 0 → zc = #[]) → (c.toNat * i.size ≠ 0 → zc = zv.cells) → (Array.range (c.toNat * i.size)).map (zc[· % zc.size]!) = cells) →
      (Instr.makeSlice t (.int kl l) (.int kc c)).run P w = .ok (.slice (some ⟨w.heap.size, 0, none⟩) l.toNat c.toNat) (w.alloc (.cells cells e)) := by
    intro cells h0 h1 h2 h3 hcells
    have hcb : c ≤ 2 ^ 48 := by
      have : c ≤ (i.bytes : Int) * c := by
        have : (1 : Int) * c ≤ (i.bytes : Int) * c := Int.mul_le_mul_of_nonneg_right (by omega) (by omega)
        omega
      omega
    have wl : IntKind.i64.wrap l = l := wrap64_id (by omega) (by omega)
    have wc : IntKind.i64.wrap c = c := wrap64_id (by omega) (by omega)
    have hcond : ¬ ((c < 0 || (i.bytes : Int) * c > 2 ^ 48) || l < 0 || l > c) = true := by
      simp; omega
    simp only [Instr.makeSlice, Sem.run_bind, run_underlyingA hu, Result.andThen_ok, asInt, asIntOf, Sem.run_pure, run_typeInfoA hi, wl, wc]
    rw [if_neg (by simpa using hcond)]
    simp only [Sem.run_bind, run_askRoom, Result.andThen_ok, hszr]
    by_cases hz0 : c.toNat * i.size = 0
    · rw [if_pos hz0]
      have := hcells #[] (fun _ => rfl) (fun h => absurd hz0 h)
      simp only [Sem.run_bind, Sem.run_pure, Result.andThen_ok, this, newRow, run_newObj]
      rfl
    · rw [if_neg hz0]
      have := hcells zv.cells (fun h => absurd h hz0) (fun _ => rfl)
      simp only [Sem.run_bind, Sem.run_pure, Result.andThen_ok, hzr, this, newRow, run_newObj]
      rfl
  split at h
  · rename_i hone
    split at h <;> try (cases h; done)
    rename_i z0 hz0
    obtain ⟨rfl, rfl, _, m, hc, hm⟩ := consN_some h hnd
    have hc := chk_spec hc hm
    simp only [Bool.and_eq_true, decide_eq_true_eq] at hc
    obtain ⟨⟨⟨h1, h2⟩, h3⟩, h4⟩ := hc
    have hzl := zero_list hzrel (zeroA_not hz) (by rw [hz0]; rfl) (Nat.zero_lt_one) c.toNat
    have hzl' : RelL σ (List.replicate c.toNat z0) ((Array.range c.toNat).map (fun i => zv.cells[i % zv.cells.size]!)).toList := by
      have : ((List.range c.toNat).map fun j => getL (cellsA z) (j % 1)) = List.replicate c.toNat z0 := by
        rw [hz0]
        apply List.ext_getElem?
        intro j
        by_cases hj : j < c.toNat
        · simp [hj, Nat.mod_one, getL]
        · simp [hj]
      rw [← this]; exact hzl
    refine ⟨_, _, main _ h1 h2 h3 h4 (fun zc hz1 hz2 => ?_), new_out (A := repCells P e z0 c.toNat) (c := (Array.range c.toNat).map (fun i => zv.cells[i % zv.cells.size]!)) (e := e) s
      (relA_alike (relA_of hzl') (rep_alike _)) (by omega) (by simp)⟩
    rw [hone, Nat.mul_one] at hz1 hz2 ⊢
    by_cases h0 : c.toNat = 0
    · rw [h0]; simp
    · rw [hz2 h0]
  · obtain ⟨rfl, rfl, _, m, hc, hm⟩ := consN_some h hnd
    have hc := chk_spec hc hm
    simp only [Bool.and_eq_true, decide_eq_true_eq] at hc
    obtain ⟨⟨⟨⟨⟨h1, h2⟩, h3⟩, h4⟩, h5⟩, h6⟩ := hc
    have hzl := zero_list hzrel (zeroA_not hz) h5 h6 (c.toNat * i.size)
    refine ⟨_, _, main _ h1 h2 h3 h4 (fun zc hz1 hz2 => ?_), new_out (A := .lit ((List.range (c.toNat * i.size)).map fun j => getL (cellsA z) (j % i.size))) (c := (Array.range (c.toNat * i.size)).map (fun i => zv.cells[i % zv.cells.size]!)) (e := e) s
      (relA_of hzl) (by omega) (by simp)⟩
    by_cases h0 : c.toNat * i.size = 0
    · rw [h0]; simp
    · rw [hz2 h0]
end
end Go.Ax
