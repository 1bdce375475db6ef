/- Rows out of 'some value of a form'; spec.l01Draw, l01Bad, l01Spoil, l01Near, DrawCellOf. -/
import Derived.Test.YtdcjjibekhcplaaGreatBam
namespace Go.Ax
open Go Go.Proofs

/-- The value and the state behind it, of a call that gives some value of a form. -/
noncomputable def pickV {α : Type} [Inhabited α] (F : Form α) (f : FuncId) (sc : List AV) (c : Cd) (a : Nat) (h : Int) : α × Nat × Int :=
  open Classical in if hx : ∃ r : α × Nat × Int, SrcOK Tryz.prog f sc c a h (F.val r.1) r.2.1 r.2.2 then hx.choose else (default, a, h)
theorem pickV_ok {α : Type} [Inhabited α] {F : Form α} {f : FuncId} {sc : List AV} {c : Cd} {a : Nat} {h : Int} (hx : ∃ x a' h', SrcOK Tryz.prog f sc c a h (F.val x) a' h') : SrcOK Tryz.prog f sc c a h (F.val (pickV F f sc c a h).1) (pickV F f sc c a h).2.1 (pickV F f sc c a h).2.2 := by
  have he : ∃ r : α × Nat × Int, SrcOK Tryz.prog f sc c a h (F.val r.1) r.2.1 r.2.2 := by
    obtain ⟨x, a', h', e⟩ := hx
    exact ⟨(x, a', h'), e⟩
  unfold pickV
  rw [dif_pos he]
  exact he.choose_spec
noncomputable def exT {α : Type} [Inhabited α] (F : Form α) (f : FuncId) (norm : List AV → Option (List AV × List Bool)) : Table := srcT fun c a h sc => match norm sc with
  | some (sc', q) => some (F.val (pickV F f sc' c a h).1, (pickV F f sc' c a h).2.1, (pickV F f sc' c a h).2.2, q)
  | none => none
theorem exT_at {α : Type} [Inhabited α] {F : Form α} {f : FuncId} {norm : List AV → Option (List AV × List Bool)}
    (hn : ∀ sc sc' q, norm sc = some (sc', q) → allT q = true → sc.map AV.deep = sc'.map AV.deep ∧ belowL 0 sc = true ∧ ∀ c a h, goodB c = true → ∃ x a' h', SrcOK Tryz.prog f sc' c a h (F.val x) a' h') : SoundAt Tryz.prog f (exT F f norm) := fun args H nd K => by
  refine srcT_sound (fun c a h sc v a' h' q hc hg hq => ?_) args H nd K
  split at hg <;> (try (cases hg; done))
  rename_i sc' q' hns
  cases hg
  obtain ⟨e1, e2, e3⟩ := hn sc sc' q hns hq
  obtain ⟨H2, k, g1, g2, _⟩ := pickV_ok (e3 c a h hc)
  exact ⟨H2, k.deep (by simp only [List.map_cons, e1]), g1, g2, e2⟩
def norm0 : List AV → Option (List AV × List Bool)
  | [] => some ([], [])
  | _ => none
theorem norm0_at {α : Type} [Inhabited α] {F : Form α} {f : FuncId} (h : ∀ c a h, goodB c = true → ∃ x a' h', SrcOK Tryz.prog f [] c a h (F.val x) a' h') : SoundAt Tryz.prog f (exT F f norm0) :=
  exT_at fun sc sc' q hs _ => by
    unfold norm0 at hs
    split at hs <;> cases hs
    exact ⟨rfl, rfl, h⟩
def normS : List AV → Option (List AV × List Bool)
  | [.i l .i64 n] => match chk l (sideB n) with
    | some q => some ([.i false .i64 n], q)
    | none => none
  | _ => none
def normI : List AV → Option (List AV × List Bool)
  | [.i _ .i64 n] => some ([.i false .i64 n], [])
  | _ => none
theorem normI_at {α : Type} [Inhabited α] {F : Form α} {f : FuncId} (h : ∀ n c a h, goodB c = true → ∃ x a' h', SrcOK Tryz.prog f [.i false .i64 n] c a h (F.val x) a' h') : SoundAt Tryz.prog f (exT F f normI) :=
  exT_at fun sc sc' q hs _ => by
    unfold normI at hs
    split at hs <;> cases hs
    exact ⟨rfl, rfl, h _⟩
def normW : List AV → Option (List AV × List Bool)
  | [.agg l] => match ofW l, belowL 0 l with
    | some (n, X), true => some ([wv n X], [])
    | _, _ => none
  | _ => none
theorem normW_at {α : Type} [Inhabited α] {F : Form α} {f : FuncId} (h : ∀ n X c a h, goodB c = true → ∃ x a' h', SrcOK Tryz.prog f [wv n X] c a h (F.val x) a' h') : SoundAt Tryz.prog f (exT F f normW) :=
  exT_at fun sc sc' q hs _ => by
    unfold normW at hs
    split at hs <;> (try (cases hs; done))
    split at hs <;> cases hs
    rename_i hl hb _
    exact ⟨by simp [ofW_spec hl], by simp [belowL, below, hb], h _ _⟩
/-- Out of one evaluation. -/
theorem src_ex {α : Type} {F : Form α} {T : Table} {f : FuncId} {sc : List AV} {c : Cd} {a : Nat} {h : Int} {m : Nat} (hT : SoundT Tryz.prog T)
    (hn : ((srcEx F c (T f (.p true 1 0 :: sc) [codeB c false, srcB c a h] [] fun v H nd => .ret v H nd)).map fun r => r.2.2.2) = some (List.replicate m (okB c c.off c.len)))
    (hc : goodB c = true) (hsc : belowL 0 sc = true) : ∃ x a' h', SrcOK Tryz.prog f sc c a h (F.val x) a' h' := by
  refine srcOK_some hT ?_ hn hc hsc
  cases hr : srcEx F c (T f (.p true 1 0 :: sc) [codeB c false, srcB c a h] [] fun v H nd => .ret v H nd) with
  | none => rw [hr] at hn; cases hn
  | some r => rfl
theorem src_ex' {α : Type} {F : Form α} {T : Table} {f : FuncId} {sc : List AV} {c : Cd} {a : Nat} {h : Int} {l : List Bool} (hT : SoundT Tryz.prog T)
    (hn : ((srcEx F c (T f (.p true 1 0 :: sc) [codeB c false, srcB c a h] [] fun v H nd => .ret v H nd)).map fun r => r.2.2.2) = some l) (hl : allT l = true) (hsc : belowL 0 sc = true) : ∃ x a' h', SrcOK Tryz.prog f sc c a h (F.val x) a' h' := by
  cases hr : srcEx F c (T f (.p true 1 0 :: sc) [codeB c false, srcB c a h] [] fun v H nd => .ret v H nd) with
  | none => rw [hr] at hn; cases hn
  | some r =>
    obtain ⟨x, a', h', nd⟩ := r
    rw [hr] at hn
    simp only [Option.map_some, Option.some.injEq] at hn
    subst hn
    exact ⟨x, a', h', srcOK_of_ex hT hr hl hsc⟩
noncomputable def ndsOf {α : Type} (F : Form α) (T : Table) (f : FuncId) (sc : List AV) (c : Cd) (a : Nat) (h : Int) : Option (List Bool) :=
  (srcEx F c (T f (.p true 1 0 :: sc) [codeB c false, srcB c a h] [] fun v H nd => .ret v H nd)).map fun r => r.2.2.2
def formW : Form (Int × (Nat → Nat × Nat)) where
  get := fun
    | .agg l => ofW l
    | _ => none
  val := fun x => wv x.1 x.2
  rel := fun {v x} h σ y r => by
    split at h <;> (try (cases h; done))
    obtain ⟨n, X⟩ := x
    have := r.deep
    rw [ofW_spec h] at this
    exact this.undeep
  low := fun x => wv_low x.1 x.2
theorem drawOf_at : SoundAt Tryz.prog 203 (exT formW 203 normS) :=
  exT_at fun sc sc' q hs hq => by
    unfold normS at hs
    split at hs <;> (try (cases hs; done))
    split at hs <;> cases hs
    rename_i hch
    have hq := chk_spec hch hq
    refine ⟨rfl, rfl, fun c a h hc => ?_⟩
    obtain ⟨X, a', h', e⟩ := drawOf_ex hc a h _ (sideB_iff.1 hq)
    exact ⟨(_, X), a', h', e⟩
noncomputable def rows9 (mx : Int) : List (FuncId × Table) := (203, exT formW 203 normS) :: rows8 mx
theorem rows9_at (mx : Int) : allAt Tryz.prog (rows9 mx) := ⟨drawOf_at, rows8_at mx⟩
def inlS : List FuncId := [73, 180, 95, 66, 157, 156, 87, 164]
noncomputable def tab9 (mx : Int) : Table := tabOf (cdeep Tryz.prog (rows9 mx) inlS 2000 6)
theorem tab9_sound (mx : Int) : SoundT Tryz.prog (tab9 mx) := cdeep_sound (allAt_mem (rows9_at mx)) 6

theorem draw_nd (c : Cd) (a : Nat) (h : Int) : ndsOf formW (tab9 7) 157 [] c a h = some (List.replicate 21 (okB c c.off c.len)) := by kernel_rfl
theorem draw_at : SoundAt Tryz.prog 157 (exT formW 157 norm0) := norm0_at fun c a h hc => src_ex (tab9_sound 7) (draw_nd c a h) hc rfl
noncomputable def badNd (k : Bool) (v : Int) : List Bool := List.replicate 16 k ++ ([decide (1 + v.toNat * 1 < 65), !decide (1 + v.toNat * 1 = 0), decide (0 ≤ v) && decide (v < ((64 : Nat) : Int))] ++ List.replicate 6 k)
theorem bad_nd (n : Int) (X : Nat → Nat × Nat) (c : Cd) (a : Nat) (h : Int) : ndsOf formW (tab9 5) 156 [wv n X] c a h = some (badNd (okB c c.off c.len) (nxV c (nxA c a 40) (nxS h 40) 64)) := by kernel_rfl
theorem bad_at : SoundAt Tryz.prog 156 (exT formW 156 normW) := normW_at fun n X c a h hc => by
  refine src_ex' (tab9_sound 5) (bad_nd n X c a h) ?_ (by simp [belowL, wv_low])
  have hk : okB c c.off c.len = true := by simp [okB, hc]
  have hb := nxV_bound hc (nxA c a 40) (nxS h 40) 64
  have hb2 := hb.2 (by decide)
  generalize nxV c (nxA c a 40) (nxS h 40) 64 = v at *
  have e1 : decide (1 + v.toNat * 1 < 65) = true := by simp; omega
  have e2 : (!decide (1 + v.toNat * 1 = 0)) = true := by simp
  have e3 : (decide (0 ≤ v) && decide (v < ((64 : Nat) : Int))) = true := by simp; omega
  unfold badNd
  rw [hk, e1, e2, e3]
  rfl
noncomputable def rows10 (mx : Int) : List (FuncId × Table) := (156, exT formW 156 normW) :: (157, exT formW 157 norm0) :: rows9 mx
theorem rows10_at (mx : Int) : allAt Tryz.prog (rows10 mx) := ⟨bad_at, draw_at, rows9_at mx⟩
noncomputable def tab10 (mx : Int) : Table := tabOf (cdeep Tryz.prog (rows10 mx) inlS 2000 6)
theorem tab10_sound (mx : Int) : SoundT Tryz.prog (tab10 mx) := cdeep_sound (allAt_mem (rows10_at mx)) 6

theorem spoil_nd (c : Cd) (a : Nat) (h : Int) : ndsOf formW (tab10 4) 87 [] c a h = some (List.replicate 3 (okB c c.off c.len)) := by kernel_rfl
theorem spoil_at : SoundAt Tryz.prog 87 (exT formW 87 norm0) := norm0_at fun c a h hc => src_ex (tab10_sound 4) (spoil_nd c a h) hc rfl
theorem near_nd (n : Int) (c : Cd) (a : Nat) (h : Int) : ndsOf formI (tab10 4) 66 [.i false .i64 n] c a h = some (List.replicate 15 (okB c c.off c.len)) := by kernel_rfl
theorem near_at : SoundAt Tryz.prog 66 (exT formI 66 normI) := normI_at fun n c a h hc => src_ex (tab10_sound 4) (near_nd n c a h) hc rfl
noncomputable def rows11 (mx : Int) : List (FuncId × Table) := (66, exT formI 66 normI) :: (87, exT formW 87 norm0) :: rows10 mx
theorem rows11_at (mx : Int) : allAt Tryz.prog (rows11 mx) := ⟨near_at, spoil_at, rows10_at mx⟩
noncomputable def tab11 (mx : Int) : Table := tabOf (cdeep Tryz.prog (rows11 mx) inlS 2000 6)
theorem tab11_sound (mx : Int) : SoundT Tryz.prog (tab11 mx) := cdeep_sound (allAt_mem (rows11_at mx)) 6
end Go.Ax

/- What is known of a call that reads some blocks holds in every memory that has these blocks somewhere. -/
namespace Go.Ax
open Go

mutual
/-- Names turned. -/
def mapV (g : Nat → Nat) : AV → AV
  | .p l id off => .p l (g id) off
  | .sl l id off len z => .sl l (g id) off len z
  | .fn h f c => .fn h (mapL g f) (mapL g c)
  | .ifc t v => .ifc t (mapV g v)
  | .agg l => .agg (mapL g l)
  | .tup l => .tup (mapL g l)
  | v => v
def mapL (g : Nat → Nat) : List AV → List AV
  | [] => []
  | a :: l => mapV g a :: mapL g l
end
def mapB (g : Nat → Nat) : AB → AB
  | .cells rw (.lit l) => .cells rw (.lit (mapL g l))
  | b => b
theorem mapL_map (g : Nat → Nat) : ∀ (l : List AV), mapL g l = l.map (mapV g)
  | [] => rfl
  | a :: l => by simp [mapL, mapL_map g l]
theorem mapB_rw (g : Nat → Nat) (B : AB) : (mapB g B).rw = B.rw ∧ (mapB g B).live = B.live := by
  cases B with
  | dead => exact ⟨rfl, rfl⟩
  | cells r A => cases A <;> exact ⟨rfl, rfl⟩
  | code _ _ => exact ⟨rfl, rfl⟩
section
variable {σ τ : List (Nat × Nat)} {g : Nat → Nat}
def Via (g : Nat → Nat) (σ τ : List (Nat × Nat)) : Prop := ∀ (i : Nat) (b : Nat × Nat), σ[i]? = some b → τ[g i]? = some b
mutual
theorem mapV_rel (u : Via g σ τ) : ∀ {a : AV} {v : Value}, Rel σ a v → Rel τ (mapV g a) v
  | _, _, .b x => .b x
  | _, _, .i k n => .i k n
  | _, _, .f h => .f h
  | _, _, .c h h' => .c h h'
  | _, _, .s l => .s l
  | _, _, .p h => .p (u _ _ h)
  | _, _, .pnil => .pnil
  | _, _, .sl h hc hz => .sl (u _ _ h) hc hz
  | _, _, .slz => .slz
  | _, _, .slnil => .slnil
  | _, _, .sle => .sle
  | _, _, .fn h h' => .fn (mapL_rel u h) (mapL_rel u h')
  | _, _, .fnil => .fnil
  | _, _, .ifc h => .ifc (mapV_rel u h)
  | _, _, .inil => .inil
  | _, _, .agg h => .agg (mapL_rel u h)
  | _, _, .tup h => .tup (mapL_rel u h)
  | _, _, .any => .any
theorem mapL_rel (u : Via g σ τ) : ∀ {a : List AV} {v : List Value}, RelL σ a v → RelL τ (mapL g a) v
  | _, _, .nil => .nil
  | _, _, .cons h hs => .cons (mapV_rel u h) (mapL_rel u hs)
end
/-- Values that name no block, pointers and slices: read back. -/
def plainV (n : Nat) : AV → Bool
  | .p _ id _ => decide (id < n)
  | .sl _ id _ _ _ => decide (id < n)
  | a => below 0 a
theorem below_free {σ τ : List (Nat × Nat)} {a : AV} {v : Value} (h : below 0 a = true) (r : Rel τ a v) : Rel σ a v := (below_rel (σ := []) (n := 0) (τ := τ) (fun i b hb => by simp at hb) rfl h r).mono fun i b hb => by simp at hb
mutual
theorem mapV_low (g : Nat → Nat) : ∀ {a : AV}, below 0 a = true → mapV g a = a
  | .b _ _, _ => rfl
  | .i _ _ _, _ => rfl
  | .f _ _ _, _ => rfl
  | .c _ _ _ _, _ => rfl
  | .s _ _, _ => rfl
  | .p _ id _, h => by simp [below] at h
  | .pnil, _ => rfl
  | .sl _ id _ _ _, h => by simp [below] at h
  | .slnil, _ => rfl
  | .sle, _ => rfl
  | .fn _ f c, h => by
    simp only [below, Bool.and_eq_true] at h
    simp only [mapV, mapL_low g h.1, mapL_low g h.2]
  | .fnil, _ => rfl
  | .ifc _ v, h => by
    simp only [below] at h
    simp only [mapV, mapV_low g h]
  | .inil, _ => rfl
  | .agg l, h => by
    simp only [below] at h
    simp only [mapV, mapL_low g h]
  | .tup l, h => by
    simp only [below] at h
    simp only [mapV, mapL_low g h]
  | .any, _ => rfl
theorem mapL_low (g : Nat → Nat) : ∀ {l : List AV}, belowL 0 l = true → mapL g l = l
  | [], _ => rfl
  | a :: l, h => by
    simp only [belowL, Bool.and_eq_true] at h
    simp only [mapL, mapV_low g h.1, mapL_low g h.2]
end
theorem mapV_back {n : Nat} (u : ∀ i, i < n → σ[i]? = τ[g i]?) {a : AV} {v : Value} (h : plainV n a = true) (r : Rel τ (mapV g a) v) : Rel σ a v := by
  cases a
  case p l id off =>
    simp only [plainV, decide_eq_true_eq] at h
    cases r with | p hr => exact .p (by rw [u id h]; exact hr)
  case sl l id off len z =>
    simp only [plainV, decide_eq_true_eq] at h
    cases r with
    | sl hr hc hz => exact .sl (by rw [u id h]; exact hr) hc hz
    | slz => exact .slz
  all_goals
    rw [mapV_low g h] at r
    exact below_free h r
theorem mapL_back {n : Nat} (u : ∀ i, i < n → σ[i]? = τ[g i]?) : ∀ {a : List AV} {v : List Value}, a.all (plainV n) = true → RelL τ (mapL g a) v → RelL σ a v
  | [], _, _, r => by cases r; exact .nil
  | a :: l, _, h, r => by
    simp only [List.all_cons, Bool.and_eq_true] at h
    simp only [mapL] at r
    cases r with | cons h1 h2 => exact .cons (mapV_back u h.1 h1) (mapL_back u h.2 h2)
theorem mapB_blk (u : Via g σ τ) {z : Nat} {B : AB} {o : Option Obj} (h : BlkRel σ z B o) : BlkRel τ z (mapB g B) o := by
  cases B with
  | dead => trivial
  | code _ _ => exact h
  | cells r A =>
    obtain ⟨c, e, fr, h1, h2, h3⟩ := h
    have key : RelA τ (match A with | .lit l => mapL g l | A => A.toL) c := by
      cases A
      case lit l =>
        intro j a ha
        dsimp only at ha
        rw [mapL_map, List.getElem?_map, Option.map_eq_some_iff] at ha
        obtain ⟨x, hx, rfl⟩ := ha
        obtain ⟨v, hv, hr⟩ := h2 j x hx
        exact ⟨v, hv, mapV_rel u hr⟩
      all_goals
        intro j a ha
        obtain ⟨v, hv, hr⟩ := h2 j a ha
        refine ⟨v, hv, below_free ?_ hr⟩
        simp only [Cells.toL, List.getElem?_map, Option.map_eq_some_iff] at ha
        obtain ⟨y, _, rfl⟩ := ha
        rfl
    cases A <;> exact ⟨c, e, fr, h1, key, h3⟩
end
/-- The name of a block among others: the ones that are read, and new ones. -/
def pickI (k r : Nat) (ids : List Nat) (i : Nat) : Nat :=
  match decide (i < k) with
  | true => ids.getD i 0
  | false => i - k + r
theorem pickI_lt {k r i : Nat} {ids : List Nat} (h : i < k) : pickI k r ids i = ids.getD i 0 := by simp [pickI, h]
theorem pickI_ge {k r i : Nat} {ids : List Nat} (h : k ≤ i) : pickI k r ids i = i - k + r := by simp [pickI, Nat.not_lt.2 h]
theorem getB_map (f : AB → AB) (hf : f .dead = .dead) : ∀ (l : List AB) (i : Nat), getB (l.map f) i = f (getB l i)
  | [], _ => hf.symm
  | _ :: _, 0 => rfl
  | _ :: l, i + 1 => getB_map f hf l i
variable {P : Program}
theorem CallOK.pick {f : FuncId} {args : List AV} {v : AV} {H0 H1 : List AB} (h : CallOK P f args H0 v H1) (hro : ∀ i, (getB H0 i).rw = false) (ha : args.all (plainV H0.length) = true) (ids : List Nat) (hid : ids.length = H0.length) (H : List AB)
    (hb : ∀ i, i < H0.length → ids.getD i 0 < H.length ∧ ∀ (σ τ : List (Nat × Nat)) (z : Nat) (o : Option Obj), BlkRel σ z (getB H (ids.getD i 0)) o → BlkRel τ z (getB H0 i) o) :
    CallOK P f (mapL (pickI H0.length H.length ids) args) H (mapV (pickI H0.length H.length ids) v) (H ++ (H1.drop H0.length).map (mapB (pickI H0.length H.length ids))) := fun σ w rargs s hra => by
  have hσl := s.len
  let σ0 := ids.map fun j => σ.getD j (0, 0)
  have hσ0 : σ0.length = H0.length := by simp [σ0, hid]
  have u0 : ∀ i, i < H0.length → σ0[i]? = σ[pickI H0.length H.length ids i]? := fun i hi => by
    rw [pickI_lt hi]
    have hlt := (hb i hi).1
    have hi' : i < ids.length := by omega
    simp only [σ0, List.getElem?_map, List.getElem?_eq_getElem hi', Option.map_some, List.getD_eq_getElem?_getD, Option.getD_some]
    rw [List.getD_eq_getElem?_getD, List.getElem?_eq_getElem hi', Option.getD_some] at hlt
    rw [List.getElem?_eq_getElem (by omega), Option.getD_some]
  have s0 : Sim σ0 H0 w := by
    refine ⟨hσ0, fun i b z hbz => ?_, fun i j b z z' hi hj hr _ => by rw [hro] at hr; cases hr⟩
    have hi : i < H0.length := by have := isSome_lt hbz; omega
    rw [u0 i hi, pickI_lt hi] at hbz
    exact (hb i hi).2 _ _ _ _ (s.blk _ _ _ hbz)
  refine (h σ0 w rargs s0 (mapL_back u0 ha hra)).mono ?_
  rintro e w' ⟨rv, rfl, σ1, r1, s1, F⟩
  have hold : ∀ b, b < w.heap.size → w'.heap[b]? = w.heap[b]? := fun b hb => F.old b hb fun i z hr => by rw [hro] at hr; cases hr
  have hk1 : H0.length ≤ σ1.length := by have := F.ext.length; omega
  have hl1 := s1.len
  have x1 : ∀ i, i < H0.length → σ1[i]? = σ0[i]? := fun i hi => by
    have hi' : i < σ0.length := by omega
    rw [F.ext i _ (List.getElem?_eq_getElem hi'), List.getElem?_eq_getElem hi']
  have tl : ∀ i, i < σ.length → (σ ++ σ1.drop H0.length)[i]? = σ[i]? := fun i hi => List.getElem?_append_left hi
  have tr : ∀ i, σ.length ≤ i → (σ ++ σ1.drop H0.length)[i]? = σ1[H0.length + (i - σ.length)]? := fun i hi => by
    rw [List.getElem?_append_right hi, List.getElem?_drop]
  have u : Via (pickI H0.length H.length ids) σ1 (σ ++ σ1.drop H0.length) := fun i b hbz => by
    by_cases hi : i < H0.length
    · have hlt := (hb i hi).1
      have e1 := u0 i hi
      rw [pickI_lt hi] at e1 ⊢
      rw [tl _ (by omega), ← e1, ← x1 i hi]; exact hbz
    · rw [pickI_ge (by omega), tr _ (by omega)]
      have : H0.length + (i - H0.length + H.length - σ.length) = i := by omega
      rw [this]; exact hbz
  have ge : ∀ i b z, H0.length ≤ i → σ1[i]? = some (b, z) → w.heap.size ≤ b := fun i b z hi hbz => by
    rcases F.new i b z hbz (List.getElem?_eq_none (by omega)) with h' | ⟨j, z', hj, _⟩
    · exact h'
    · rw [hro] at hj; cases hj
  have gl : ∀ i, i < H.length → getB (H ++ (H1.drop H0.length).map (mapB (pickI H0.length H.length ids))) i = getB H i := fun i hi => getB_append_left hi
  have gr : ∀ i, H.length ≤ i → getB (H ++ (H1.drop H0.length).map (mapB (pickI H0.length H.length ids))) i = mapB (pickI H0.length H.length ids) (getB H1 (H0.length + (i - σ.length))) := fun i hi => by
    rw [getB_append_right hi, getB_map _ rfl, getB_drop, hσl]
  refine ⟨_, rfl, σ ++ σ1.drop H0.length, mapV_rel u r1, ⟨?_, fun i b z hbz => ?_, fun i j b z z' hi hj hri hlj => ?_⟩, ⟨F.os, F.tape, F.output, F.size, fun b hlt _ => hold b hlt, Ext.append _ _, fun i b z hbz hn => ?_, fun i hi hr => ?_⟩⟩
  · simp; omega
  · by_cases hi : i < σ.length
    · rw [tl i hi] at hbz
      rw [gl i (by omega)]
      have hbl := (s.blk i b z hbz).mono (Ext.append σ (σ1.drop H0.length))
      cases hg : getB H i with
      | dead => trivial
      | cells r A =>
        rw [hold b (s.lt hbz (by rw [hg]; rfl)), ← hg]; exact hbl
      | code o xs =>
        rw [hold b (s.lt hbz (by rw [hg]; rfl)), ← hg]; exact hbl
    · rw [tr i (by omega)] at hbz
      rw [gr i (by omega)]
      exact mapB_blk u (s1.blk _ b z hbz)
  · by_cases hi' : i < σ.length
    · rw [tl i hi'] at hi
      rw [gl i (by omega)] at hri
      by_cases hj' : j < σ.length
      · rw [tl j hj'] at hj
        rw [gl j (by omega)] at hlj
        exact s.inj i j b z z' hi hj hri hlj
      · rw [tr j (by omega)] at hj
        have h1 := s.lt hi (rw_live hri)
        have h2 := ge _ _ _ (by omega) hj
        omega
    · rw [tr i (by omega)] at hi
      by_cases hj' : j < σ.length
      · rw [tl j hj'] at hj
        rw [gl j (by omega)] at hlj
        have h1 := s.lt hj hlj
        have h2 := ge _ _ _ (by omega) hi
        omega
      · rw [tr j (by omega)] at hj
        rw [gr i (by omega), (mapB_rw _ _).1] at hri
        rw [gr j (by omega), (mapB_rw _ _).2] at hlj
        have := s1.inj _ _ b z z' hi hj hri hlj
        omega
  · have hi : ¬ i < σ.length := fun hi => by
      rw [List.getElem?_eq_getElem hi] at hn; cases hn
    rw [tr i (by omega)] at hbz
    exact .inl (ge _ _ _ (by omega) hbz)
  · rwa [gl i (by omega)] at hr
end Go.Ax

/- Ways of straight code joined into one state. -/
namespace Go.Ax
open Go

/-! ### Values -/
def mergeA (b : Bool) (x y : AV) : AV :=
  match mergeV b x y with
  | some z => z
  | none => .any
theorem mergeA_left {σ : List (Nat × Nat)} {x y : AV} {v : Value} (r : Rel σ x v) : Rel σ (mergeA true x y) v := by
  unfold mergeA
  split
  · rename_i z hz; exact mergeV_left hz r
  · exact .any
theorem mergeA_right {σ : List (Nat × Nat)} {x y : AV} {v : Value} (r : Rel σ y v) : Rel σ (mergeA false x y) v := by
  unfold mergeA
  split
  · rename_i z hz; exact mergeV_right hz r
  · exact .any
def mergeAs (b : Bool) : List AV → List AV → List AV
  | x :: xs, y :: ys => mergeA b x y :: mergeAs b xs ys
  | _, _ => []
theorem mergeAs_len (b : Bool) : ∀ (xs ys : List AV), (mergeAs b xs ys).length ≤ xs.length ∧ (mergeAs b xs ys).length ≤ ys.length
  | [], _ => by simp [mergeAs]
  | _ :: _, [] => by simp [mergeAs]
  | x :: xs, y :: ys => by
    have := mergeAs_len b xs ys
    simp [mergeAs]; omega
theorem mergeAs_get (b : Bool) : ∀ (xs ys : List AV) (n : Nat), n < (mergeAs b xs ys).length → getL (mergeAs b xs ys) n = mergeA b (getL xs n) (getL ys n)
  | [], _, n, h => by simp [mergeAs] at h
  | _ :: _, [], n, h => by simp [mergeAs] at h
  | x :: xs, y :: ys, 0, _ => rfl
  | x :: xs, y :: ys, n + 1, h => by
    simp only [mergeAs, List.length_cons] at h
    exact mergeAs_get b xs ys n (by omega)
/-- The values that all ways of operations come to. -/
def joinD : Res → Option (List AV × List Bool)
  | .ret v _ nd => match v with
    | .tup vs => some (vs, nd)
    | _ => none
  | .ite b x y => match joinD x, joinD y with
    | some (vs, nd), some (vs', nd') => some (mergeAs b vs vs', guardL b nd ++ guardL (!b) nd')
    | some (vs, nd), none => some (vs, b :: nd)
    | none, some (vs, nd) => some (vs, (!b) :: nd)
    | none, none => none
  | .stop _ _ _ _ => none
  | .fail => none
theorem joinD_spec : ∀ {r : Res} {vs : List AV} {nd : List Bool}, joinD r = some (vs, nd) → allT nd = true →
    ∃ vs' H' nd', r.sel = .ret (.tup vs') H' nd' ∧ allT nd' = true ∧ vs.length ≤ vs'.length ∧ ∀ (n : Nat), n < vs.length → ∀ (σ : List (Nat × Nat)) (v : Value), Rel σ (getL vs' n) v → Rel σ (getL vs n) v
  | .ret v H0 nd0, vs, nd, h, hn => by
    simp only [joinD] at h
    split at h <;> cases h
    exact ⟨_, H0, _, rfl, hn, Nat.le_refl _, fun _ _ _ _ r => r⟩
  | .stop _ _ _ _, vs, nd, h, hn => by cases h
  | .fail, vs, nd, h, hn => by cases h
  | .ite b x y, vs, nd, h, hn => by
    simp only [joinD] at h
    split at h
    · rename_i v1 nd1 v2 nd2 h1 h2
      cases h
      rw [allT_append, Bool.and_eq_true] at hn
      have hl := mergeAs_len b v1 v2
      cases b with
      | true =>
        obtain ⟨vs', H', nd', e1, e2, e3, e4⟩ := joinD_spec h1 (guardL_true hn.1)
        exact ⟨vs', H', nd', e1, e2, by omega, fun n hlt σ v r => by rw [mergeAs_get _ _ _ _ hlt]; exact mergeA_left (e4 n (by omega) σ v r)⟩
      | false =>
        obtain ⟨vs', H', nd', e1, e2, e3, e4⟩ := joinD_spec h2 (guardL_true hn.2)
        exact ⟨vs', H', nd', e1, e2, by omega, fun n hlt σ v r => by rw [mergeAs_get _ _ _ _ hlt]; exact mergeA_right (e4 n (by omega) σ v r)⟩
    · rename_i v1 nd1 h1 h2
      cases h
      simp only [allT, Bool.and_eq_true] at hn
      obtain ⟨rfl, hn⟩ := hn
      exact joinD_spec (r := x) h1 hn
    · rename_i v1 nd1 h1 h2
      cases h
      simp only [allT, Bool.and_eq_true] at hn
      obtain ⟨hb, hn⟩ := hn
      have : b = false := by simpa using hb
      subst this
      exact joinD_spec (r := y) h2 hn
    · cases h

/-! ### Temporaries written -/
noncomputable def putDs : List Nat → List AV → Tm → Tm
  | d :: ds, v :: vs, t => putDs ds vs (st t d v)
  | [], _, t => t
  | _ :: _, [], t => t
def putDsL : List Nat → List AV → List AV → List AV
  | d :: ds, v :: vs, t => putDsL ds vs (setL t d v)
  | [], _, t => t
  | _ :: _, [], t => t
theorem putDs_R : ∀ (ds : List Nat) (vs : List AV) {τ : Tm} {t : List AV}, R τ t → R (putDs ds vs τ) (putDsL ds vs t)
  | [], _, _, _, h => h
  | _ :: _, [], _, _, h => h
  | d :: ds, v :: vs, _, _, h => putDs_R ds vs (h.set d v)
theorem putDsL_len : ∀ (ds : List Nat) (vs t : List AV), (putDsL ds vs t).length = t.length
  | [], _, _ => rfl
  | _ :: _, [], _ => rfl
  | d :: ds, v :: vs, t => by rw [putDsL, putDsL_len ds vs, setL_length]
theorem putDsL_out : ∀ (ds : List Nat) (vs t : List AV) (n : Nat), n ∉ ds → getL (putDsL ds vs t) n = getL t n
  | [], _, _, _, _ => rfl
  | _ :: _, [], _, _, _ => rfl
  | d :: ds, v :: vs, t, n, h => by
    simp only [List.mem_cons, not_or] at h
    rw [putDsL, putDsL_out ds vs _ n h.2, getL_setL_ne (Ne.symm h.1)]
theorem putDsL_in : ∀ (ds : List Nat) (vs t : List AV) (n : Nat), vs.length = ds.length → n ∈ ds → n < t.length → ∃ i, ds[i]? = some n ∧ getL (putDsL ds vs t) n = getL vs i
  | [], _, _, _, _, h, _ => by cases h
  | _ :: _, [], _, _, h, _, _ => by cases h
  | d :: ds, v :: vs, t, n, hl, h, ht => by
    by_cases hn : n ∈ ds
    · obtain ⟨i, h1, h2⟩ := putDsL_in ds vs (setL t d v) n (by simpa using hl) hn (by rw [setL_length]; exact ht)
      exact ⟨i + 1, by simpa using h1, h2⟩
    · have : n = d := by
        rcases List.mem_cons.1 h with h | h
        · exact h
        · exact absurd h hn
      subst this
      refine ⟨0, rfl, ?_⟩
      rw [putDsL, putDsL_out ds vs _ n hn, getL_setL_same ht]; rfl

/-! ### Memory -/
/-- G is H but for cells named in W. -/
def Pt (H G : List AB) (W : List (Nat × Nat)) : Prop := H.length = G.length ∧ ∀ i, (∃ C D, getB H i = .cells true C ∧ getB G i = .cells true D ∧ D.toL.length = C.toL.length ∧ ∀ j, (i, j) ∉ W → D.toL[j]? = C.toL[j]?) ∨ ((∀ C, getB H i ≠ .cells true C) ∧ getB G i = getB H i)
theorem Pt.refl (H : List AB) (W : List (Nat × Nat)) : Pt H H W := ⟨rfl, fun i => by
  by_cases h : ∃ C, getB H i = .cells true C
  · obtain ⟨C, h⟩ := h
    exact .inl ⟨C, C, h, h, rfl, fun _ _ => rfl⟩
  · exact .inr ⟨fun C hc => h ⟨C, hc⟩, rfl⟩⟩
theorem Pt.trans {H G K : List AB} {W V : List (Nat × Nat)} (h : Pt H G W) (k : Pt G K V) : Pt H K (W ++ V) := ⟨h.1.trans k.1, fun i => by
  rcases h.2 i with ⟨C, D, h1, h2, h3, h4⟩ | ⟨h1, h2⟩
  · rcases k.2 i with ⟨C', D', k1, k2, k3, k4⟩ | ⟨k1, k2⟩
    · rw [h2] at k1; cases k1
      refine .inl ⟨C, D', h1, k2, k3.trans h3, fun j hj => ?_⟩
      simp only [List.mem_append, not_or] at hj
      rw [k4 j hj.2, h4 j hj.1]
    · exact absurd h2 (k1 D)
  · rcases k.2 i with ⟨C', D', k1, k2, k3, k4⟩ | ⟨k1, k2⟩
    · rw [h2] at k1; exact absurd k1 (h1 C')
    · exact .inr ⟨h1, k2.trans h2⟩⟩
theorem Pt.mono {H G : List AB} {W V : List (Nat × Nat)} (h : Pt H G W) (hs : ∀ p ∈ W, p ∈ V) : Pt H G V := ⟨h.1, fun i => by
  rcases h.2 i with ⟨C, D, h1, h2, h3, h4⟩ | h
  · exact .inl ⟨C, D, h1, h2, h3, fun j hj => h4 j fun hw => hj (hs _ hw)⟩
  · exact .inr h⟩
theorem Pt.set {H : List AB} {id off : Nat} {A B : Cells} {v : AV} (hg : getB H id = .cells true A) (hs : A.set off v = some B) : Pt H (setB H id (.cells true B)) [(id, off)] := by
  have hlt : id < H.length := by
    rcases Nat.lt_or_ge id H.length with h | h
    · exact h
    · rw [getB_none h] at hg; cases hg
  refine ⟨(setB_length _ _ _).symm, fun i => ?_⟩
  by_cases hi : id = i
  · subst hi
    rw [getB_setB_same hlt]
    have hb := Cells.set_toL hs
    refine .inl ⟨A, B, hg, rfl, ?_, fun j hj => ?_⟩
    · rcases hb with h | h <;> rw [h, List.length_set]
    · have hne : off ≠ j := fun e => hj (by subst e; simp)
      rcases hb with h | h <;> rw [h, List.getElem?_set_ne hne]
  · rw [getB_setB_ne hi]
    by_cases h : ∃ C, getB H i = .cells true C
    · obtain ⟨C, h⟩ := h
      exact .inl ⟨C, C, h, h, rfl, fun _ _ => rfl⟩
    · exact .inr ⟨fun C hc => h ⟨C, hc⟩, rfl⟩

/-- The cells that were written on one way or the other, joined. -/
def mergeH (b : Bool) (Ha Hb : List AB) : List (Nat × Nat) → List AB → Option (List AB)
  | [], H => some H
  | (id, off) :: ws, H => match getB Ha id with
    | .cells true A => match getB Hb id with
      | .cells true B => match getB H id with
        | .cells true C => match mergeV b (A.get off) (B.get off) with
          | some z => match C.set off z with
            | some D => mergeH b Ha Hb ws (setB H id (.cells true D))
            | none => none
          | none => none
        | _ => none
      | _ => none
    | _ => none
/-- What a joined cell holds. -/
def Met (b : Bool) (Ha Hb G : List AB) (i j : Nat) : Prop := ∃ A B D z, getB Ha i = .cells true A ∧ getB Hb i = .cells true B ∧ getB G i = .cells true D ∧ mergeV b (A.get j) (B.get j) = some z ∧ (j < D.toL.length → D.toL[j]? = some z ∨ D.toL[j]? = some z.bare)
theorem mergeH_spec (b : Bool) (Ha Hb : List AB) : ∀ (ws : List (Nat × Nat)) (H G : List AB), mergeH b Ha Hb ws H = some G → Pt H G ws ∧ ∀ i j, (i, j) ∈ ws → Met b Ha Hb G i j
  | [], H, G, h => by
    cases h
    exact ⟨Pt.refl _ _, fun i j hj => by cases hj⟩
  | (id, off) :: ws, H, G, h => by
    simp only [mergeH] at h
    split at h <;> (try (cases h; done))
    rename_i A hA
    split at h <;> (try (cases h; done))
    rename_i B hB
    split at h <;> (try (cases h; done))
    rename_i C hC
    split at h <;> (try (cases h; done))
    rename_i z hz
    split at h <;> (try (cases h; done))
    rename_i D hD
    obtain ⟨p, m⟩ := mergeH_spec b Ha Hb ws _ G h
    have p0 := Pt.set hC hD
    have hlt : id < H.length := by
      rcases Nat.lt_or_ge id H.length with h | h
      · exact h
      · rw [getB_none h] at hC; cases hC
    refine ⟨p0.trans p, fun i j hj => ?_⟩
    by_cases hm : (i, j) ∈ ws
    · exact m i j hm
    · have e : (i, j) = (id, off) := by
        rcases List.mem_cons.1 hj with h | h
        · exact h
        · exact absurd h hm
      cases e
      rcases p.2 id with ⟨C', D', k1, k2, k3, k4⟩ | ⟨k1, k2⟩
      · rw [getB_setB_same hlt] at k1
        cases k1
        refine ⟨A, B, D', z, hA, hB, k2, hz, fun hl => ?_⟩
        rw [k4 off hm]
        rw [k3] at hl
        rcases Cells.set_toL hD with h | h
        · left; rw [h, List.length_set] at hl; rw [h, List.getElem?_set_self hl]
        · right; rw [h, List.length_set] at hl; rw [h, List.getElem?_set_self hl]
      · rw [getB_setB_same hlt] at k1
        exact absurd rfl (k1 D)
theorem mergeH_left {H Ha Hb G : List AB} {W : List (Nat × Nat)} (ha : Pt H Ha W) (h : mergeH true Ha Hb W H = some G) : HEq Ha G := by
  obtain ⟨p, m⟩ := mergeH_spec true Ha Hb W H G h
  refine ⟨ha.1.symm.trans p.1, fun i => ?_⟩
  rcases ha.2 i with ⟨C, A, a1, a2, a3, a4⟩ | ⟨a1, a2⟩
  · rcases p.2 i with ⟨C', D, p1, p2, p3, p4⟩ | ⟨p1, p2⟩
    · rw [a1] at p1; cases p1
      rw [a2, p2]
      refine ⟨rfl, rfl, fun σ z o hb => ?_⟩
      obtain ⟨c, e, fr, h1, h2, h3⟩ := hb
      refine ⟨c, e, fr, h1, fun j a hj => ?_, h3⟩
      by_cases hw : (i, j) ∈ W
      · obtain ⟨A', B', D', z', m1, m2, m3, m4, m5⟩ := m i j hw
        rw [a2] at m1; cases m1
        rw [p2] at m3; cases m3
        have hjl : j < D.toL.length := (List.getElem?_eq_some_iff.1 hj).1
        have hA : A.toL[j]? = some (A.get j) := Cells.get_some (by rw [← Cells.len_eq, a3, ← p3]; exact hjl)
        obtain ⟨v, hv, hr⟩ := h2 j _ hA
        have hr := mergeV_left m4 hr
        rcases m5 hjl with h | h <;> rw [h] at hj <;> cases hj
        · exact ⟨v, hv, hr⟩
        · exact ⟨v, hv, hr.bare⟩
      · rw [p4 j hw, ← a4 j hw] at hj
        exact h2 j a hj
    · exact absurd a1 (p1 C)
  · rcases p.2 i with ⟨C', D, p1, p2, p3, p4⟩ | ⟨p1, p2⟩
    · exact absurd p1 (a1 C')
    · rw [a2, p2]; exact ⟨rfl, rfl, fun _ _ _ h => h⟩
theorem mergeH_right {H Ha Hb G : List AB} {W : List (Nat × Nat)} (hb : Pt H Hb W) (h : mergeH false Ha Hb W H = some G) : HEq Hb G := by
  obtain ⟨p, m⟩ := mergeH_spec false Ha Hb W H G h
  refine ⟨hb.1.symm.trans p.1, fun i => ?_⟩
  rcases hb.2 i with ⟨C, A, a1, a2, a3, a4⟩ | ⟨a1, a2⟩
  · rcases p.2 i with ⟨C', D, p1, p2, p3, p4⟩ | ⟨p1, p2⟩
    · rw [a1] at p1; cases p1
      rw [a2, p2]
      refine ⟨rfl, rfl, fun σ z o hb => ?_⟩
      obtain ⟨c, e, fr, h1, h2, h3⟩ := hb
      refine ⟨c, e, fr, h1, fun j a hj => ?_, h3⟩
      by_cases hw : (i, j) ∈ W
      · obtain ⟨A', B', D', z', m1, m2, m3, m4, m5⟩ := m i j hw
        rw [a2] at m2; cases m2
        rw [p2] at m3; cases m3
        have hjl : j < D.toL.length := (List.getElem?_eq_some_iff.1 hj).1
        have hA : A.toL[j]? = some (A.get j) := Cells.get_some (by rw [← Cells.len_eq, a3, ← p3]; exact hjl)
        obtain ⟨v, hv, hr⟩ := h2 j _ hA
        have hr := mergeV_right m4 hr
        rcases m5 hjl with h | h <;> rw [h] at hj <;> cases hj
        · exact ⟨v, hv, hr⟩
        · exact ⟨v, hv, hr.bare⟩
      · rw [p4 j hw, ← a4 j hw] at hj
        exact h2 j a hj
    · exact absurd a1 (p1 C)
  · rcases p.2 i with ⟨C', D, p1, p2, p3, p4⟩ | ⟨p1, p2⟩
    · exact absurd p1 (a1 C')
    · rw [a2, p2]; exact ⟨rfl, rfl, fun _ _ _ h => h⟩
end Go.Ax

/- Regions and straight code: all ways joined. -/
namespace Go.Ax
open Go

structure JS where
  t : Tm
  H : List AB
  ds : List Nat
  ws : List (Nat × Nat)
  nd : List Bool
def dsts (l : List Oper) : List Nat := l.filterMap (·.dst)
theorem mem_dsts {l : List Oper} {o : Oper} {d : Nat} (ho : o ∈ l) (hd : o.dst = some d) : d ∈ dsts l := List.mem_filterMap.2 ⟨o, ho, hd⟩
/-- Operations that may come behind the first one that writes. -/
def tailOK (o : Oper) : Bool :=
  match o.guard with
  | some _ => false
  | none => match o.op with
    | .alloc _ => false
    | .box _ _ => false
    | .buildSlice _ _ _ => false
    | .makeSlice _ _ _ => false
    | .call c => match c.callee with
      | .builtin .append => false
      | .builtin _ => true
      | _ => false
    | _ => true

section
variable (P : Program) (T : Table)
noncomputable def tRun : List Oper → Tm → List AB → List Bool → Option (Tm × List AB × List (Nat × Nat) × List Bool)
  | [], t, H, nd => some (t, H, [], nd)
  | o :: rest, t, H, nd => match o.guard with
    | some _ => none
    | none => match o.op.operands.all okOpd with
      | false => none
      | true => match o.op with
        | .store ty a x => match evB t a with
          | .p l id off => match l && okCell (evB t x) with
            | true => match aStore P ty (.p true id off) (evB t x) H with
              | some (v, H', n) => match tRun rest (putB t o.dst v) H' (n ++ nd) with
                | some (t', H', ws, nd) => some (t', H', (id, off) :: ws, nd)
                | none => none
              | none => none
            | false => none
          | _ => none
        | op => match aop P op (evB t) H with
          | some (v, n) => tRun rest (putB t o.dst v) H (n ++ nd)
          | none => none
noncomputable def jReg (ops : Array Oper) (draw : Bool) : CF (Tm → List AB → Option JS) :=
  match cOpsQ P T ops (ops.toList.take (qM draw ops)) with
  | .mk f => .mk fun t H => match joinD (f t H [] fun t nd => .ret (.tup ((dsts (ops.toList.take (qM draw ops))).map (gt t))) [] nd) with
    | some (vs, nd) => match Nat.beq vs.length (dsts (ops.toList.take (qM draw ops))).length with
      | true => match tRun P (ops.toList.drop (qM draw ops)) (putDs (dsts (ops.toList.take (qM draw ops))) vs t) H nd with
        | some (t', H', ws, nd) => some ⟨t', H', dsts (ops.toList.take (qM draw ops)) ++ dsts (ops.toList.drop (qM draw ops)), ws, nd⟩
        | none => none
      | false => none
    | none => none
end

section
variable {P : Program} {T : Table} {ops : Array Oper}
theorem pt_store {ty : TypeId} {id off : Nat} {x v : AV} {H H' : List AB} {n : List Bool} (hx : okCell x = true) (h : aStore P ty (.p true id off) x H = some (v, H', n)) : Pt H H' [(id, off)] := by
  unfold aStore at h
  simp only [Bool.true_or] at h
  split at h <;> (try (cases h; done))
  rename_i A hg
  split at h <;> (try (cases h; done))
  split at h <;> (try (cases h; done))
  rename_i B hB
  split at h <;> (try (cases h; done))
  unfold consN at h
  split at h <;> cases h
  rw [okCell_cells hx] at hB
  exact Pt.set hg hB
theorem wants_none {o : Oper} {t : List AV} (hg : o.guard = none) : Wants ops o t true := fun σ tm _ => by simp [Region.wanted, hg]
theorem tRun_sound : ∀ (l : List Oper) (k : Nat) (τ : Tm) (t : List AV) (H : List AB) (nd : List Bool) {τ' : Tm} {H' : List AB} {ws : List (Nat × Nat)} {nd' : List Bool}, l = ops.toList.drop k → k ≤ ops.size → R τ t → tRun P l τ H nd = some (τ', H', ws, nd') →
    ∃ t', R τ' t' ∧ t'.length = t.length ∧ (∀ n, n ∉ dsts l → getL t' n = getL t n) ∧ Pt H H' ws ∧ (allT nd' = true → allT nd = true ∧ Chain P ops k t H ops.size t' H')
  | [], k, τ, t, H, nd, τ', H', ws, nd', hl, hk, hR, h => by
    have : ops.size ≤ k := by
      have := congrArg List.length hl
      simp at this; omega
    have : k = ops.size := by omega
    subst this
    simp only [tRun, Option.some.injEq, Prod.mk.injEq] at h
    obtain ⟨rfl, rfl, rfl, rfl⟩ := h
    exact ⟨t, hR, rfl, fun _ _ => rfl, Pt.refl _ _, fun h => ⟨h, .nil⟩⟩
  | o :: rest, k, τ, t, H, nd, τ', H', ws, nd', hl, hk, hR, h => by
    obtain ⟨ho, hrest⟩ := drop_cons hl
    have ho' : ops[k]? = some o := by simpa using ho
    have hks : k < ops.size := (Array.getElem?_eq_some_iff.1 ho').1
    rw [tRun] at h
    split at h <;> (try (cases h; done))
    rename_i hg
    split at h <;> (try (cases h; done))
    rename_i hok
    have shape : ∀ {v : AV} {t' : List AV}, (∀ n, n ∉ dsts rest → getL t' n = getL (putT t o.dst v) n) → ∀ n, n ∉ dsts (o :: rest) → getL t' n = getL t n := fun {v t'} hs n hn => by
      have h1 : n ∉ dsts rest := fun h => hn (by
        obtain ⟨x, hx, hd⟩ := List.mem_filterMap.1 h
        exact mem_dsts (List.mem_cons_of_mem _ hx) hd)
      have h2 : o.dst ≠ some n := fun h => hn (mem_dsts List.mem_cons_self h)
      rw [hs n h1, getL_putT_ne h2]
    split at h
    · rename_i ty a x hop
      split at h <;> (try (cases h; done))
      rename_i l id off ha
      split at h <;> (try (cases h; done))
      rename_i hlx
      rw [Bool.and_eq_true] at hlx
      obtain ⟨rfl, hx⟩ := hlx
      split at h <;> (try (cases h; done))
      rename_i v H1 n1 hst
      split at h <;> cases h
      rename_i τ2 H2 ws2 nd2 hr
      obtain ⟨t', r1, r2, r3, r4, r5⟩ := tRun_sound rest (k + 1) _ (putT t o.dst v) H1 (n1 ++ nd) hrest hks (hR.put o.dst v) hr
      refine ⟨t', r1, by rw [r2, putT_length], shape r3, (pt_store hx hst).trans r4, fun hn => ?_⟩
      obtain ⟨r6, r7⟩ := r5 hn
      rw [allT_append, Bool.and_eq_true] at r6
      refine ⟨r6.2, .cons ?_ r7⟩
      intro σ w a0 Q next s r q
      simp only [wpOp, ho', wants_none hg σ a0.tmps (relL_looks (ops := ops) r o), if_true]
      refine .inl ?_
      rw [hR.ev] at ha hst
      have he : eop P o.op (evA t) H = some (v, H1, n1) := by
        rw [hop]; show aStore P ty (evA t a) (evA t x) H = _
        rw [ha]; exact hst
      obtain ⟨rv, w', e1, σ', e2, e3, e4⟩ := eop_out (ρ := a0.eval) he r6.1 s (opds_ok hok r)
      show o.upon P a0 next Q ((execOp a0.eval o).run P w)
      rcases e1 with e1 | ⟨e1, rfl⟩
      · rw [e1]
        exact q _ _ σ' (RelL.put (RelL.mono e4.ext r) e2) (put_defers _ _ _) e3 e4
      · rw [e1]
        exact q _ _ σ' (RelL.put (RelL.mono e4.ext r) e2) (put_defers _ _ _) e3 e4
    · split at h <;> (try (cases h; done))
      rename_i v n1 hao
      obtain ⟨t', r1, r2, r3, r4, r5⟩ := tRun_sound rest (k + 1) _ (putT t o.dst v) H (n1 ++ nd) hrest hks (hR.put o.dst v) h
      refine ⟨t', r1, by rw [r2, putT_length], shape r3, r4, fun hn => ?_⟩
      obtain ⟨r6, r7⟩ := r5 hn
      rw [allT_append, Bool.and_eq_true] at r6
      refine ⟨r6.2, .cons ?_ r7⟩
      intro σ w a0 Q next s r q
      simp only [wpOp, ho', wants_none hg σ a0.tmps (relL_looks (ops := ops) r o), if_true]
      refine .inl ?_
      rw [hR.ev] at hao
      obtain ⟨rv, w', e1, e2, e3⟩ := aop_gives (ρ := a0.eval) hao r6.1 s (opds_ok hok r)
      show o.upon P a0 next Q ((execOp a0.eval o).run P w)
      rw [e1]
      exact q _ _ σ (r.put e2) (put_defers _ _ _) (e3.sim s) e3.fr
theorem QChain.toChain {k m j : Nat} {t t1 t' : List AV} {H H' : List AB} (c : QChain P ops H k t m t1) : Chain P ops m t1 H j t' H' → Chain P ops k t H j t' H' := by
  induction c with
  | nil => exact fun h => h
  | @cons k m t t1 v h c ih =>
    intro d
    refine .cons ?_ (ih d)
    obtain ⟨o, ho, hq⟩ := h
    intro σ w a Q next s r q
    refine hq σ w a Q next s (fun n _ => r.getD n) (by have := r.length; simpa using this.symm) fun rv w' hr s' f' => ?_
    have hgd : gDst ops k = o.dst := by simp [gDst, ho]
    exact q _ _ σ (by rw [hgd]; exact r.put hr) (put_defers _ _ _) s' f'
/-- A region out of its two parts. -/
theorem region_of {id : Nat} {draw : Bool} {t t1 t' : List AV} {H H' : List AB} (hd : draw = false ∨ (P.follows .mixedOrders && drawOK ops (qM draw ops)) = true) (qc : QChain P ops H 0 t (qM draw ops) t1) (c : Chain P ops (qM draw ops) t1 H ops.size t' H') : RegionOK P id ops draw t H t' H' := by
  intro σ w a Q s r q
  by_cases hdr : draw = false
  · subst hdr
    refine wp_region ?_
    have := (qc.toChain c).wpOps s r q
    rwa [Nat.sub_zero, ← List.range_eq_range'] at this
  · have hdt : draw = true := by simpa using hdr
    subst hdt
    rcases hd with hd | hd
    · cases hd
    rw [Bool.and_eq_true] at hd
    obtain ⟨hf, hok⟩ := hd
    have hm : qM true ops ≤ ops.size := qM_le true ops
    obtain ⟨val, _, hst, hv⟩ := qc.vals
    have c3 := c
    rw [hst, Nat.sub_zero] at c3
    refine wp_region_any hf ?_
    have hnl : ∀ i, ¬ Ls (Array.replicate ops.size false) i := fun i => by
      unfold Ls
      rw [Array.getD_eq_getD_getElem?]
      by_cases hi : i < ops.size
      · simp [hi]
      · simp [hi]
    have hsm : Same w { w with drawn := w.drawn + 1 } := Same.drew w
    refine any_pre hok hm (fun i hi => hv i (Nat.zero_le _) hi) c3 ops.size _ a _ (by simp) (fun i o _ hl => absurd hl (hnl i)) ?_ (fun i _ => hnl i) (hsm.sim s) ?_ (fun x => ⟨fun i _ hl => absurd hl (hnl i), fun _ => r.getD x⟩)
      fun a' w' σ' r' d' s' f' => q a' w' σ' r' d' s' (hsm.fr.trans f')
    · have := List.length_filter_le (fun i => !(Array.replicate ops.size false).getD i false) (List.range ops.size)
      simp only [List.length_range] at this
      exact this
    · have := r.length; simpa using this.symm
theorem RegionOK.weak {id : Nat} {draw : Bool} {t t1 t' : List AV} {H H' : List AB} (h : RegionOK P id ops draw t H t1 H') (e : Eqv t1 t') : RegionOK P id ops draw t H t' H' := fun σ w a Q s r q =>
  h σ w a Q s r fun a' w' σ' r' => q a' w' σ' (e.relL r')
theorem getL_map_gt {τ : Tm} {t : List AV} (h : R τ t) (ds : List Nat) : ds.map (gt τ) = ds.map (getL t) := List.map_congr_left fun n _ => h.get n
theorem jReg_sound (hT : SoundT P T) {id : Nat} {draw : Bool} (hd : draw = false ∨ (P.follows .mixedOrders && drawOK ops (qM draw ops)) = true) {τ : Tm} {t : List AV} {H : List AB} {s : JS} (h : R τ t) (e : (jReg P T ops draw).app τ H = some s) :
    ∃ t', R s.t t' ∧ t'.length = t.length ∧ (∀ n, n ∉ s.ds → getL t' n = getL t n) ∧ Pt H s.H s.ws ∧ (allT s.nd = true → RegionOK P id ops draw t H t' s.H) := by
  unfold jReg at e
  have hq := cOpsQ_eq (P := P) (T := T) ops (ops.toList.take (qM draw ops))
  cases hf : cOpsQ P T ops (ops.toList.take (qM draw ops)) with
  | mk f =>
    rw [hf] at e hq
    dsimp only [CF.app] at e hq
    generalize hm : qM draw ops = m at *
    have hms : m ≤ ops.size := by have := qM_le draw ops; rw [hm] at this; exact this
    split at e <;> (try (cases e; done))
    rename_i vs nd hj
    split at e <;> (try (cases e; done))
    rename_i hlen
    have hlen := Nat.eq_of_beq_eq_true hlen
    split at e <;> cases e
    rename_i τ2 H2 ws nd2 hr
    generalize hds : dsts (ops.toList.take m) = ds at *
    obtain ⟨t', r1, r2, r3, r4, r5⟩ := tRun_sound (P := P) (ops := ops) (ops.toList.drop m) m _ (putDsL ds vs t) H nd rfl hms (putDs_R ds vs h) hr
    refine ⟨t', r1, by rw [r2, putDsL_len], fun n hn => ?_, r4, fun hnd => ?_⟩
    · simp only [List.mem_append, not_or] at hn
      rw [r3 n hn.2, putDsL_out _ _ _ _ hn.1]
    · obtain ⟨hnd1, c⟩ := r5 hnd
      obtain ⟨vs', H', nd', e1, e2, e3, e4⟩ := joinD_spec hj hnd1
      rw [hq, bRunQ_eq (K' := fun t nd => .ret (.tup (ds.map (getL t))) [] nd) (fun τ t nd hR => by rw [getL_map_gt hR]) _ _ t H [] h] at e1
      rcases runQ_sound (P := P) (H := H) hT (fun t nd => .ret (.tup (ds.map (getL t))) [] nd) hms (ops.toList.take m) 0 t [] (by simp) (Nat.zero_le _) with hfail | ⟨t0, nd0, h1, h2⟩
      · rw [hfail] at e1; cases e1
      rw [h1] at e1
      cases e1
      obtain ⟨_, t'', qc, eq1⟩ := h2 e2
      have hlen2 : t''.length = t.length := by
        obtain ⟨val, _, hst, _⟩ := qc.vals
        rw [hst, stAt_length]
      have hout : ∀ n, n ∉ ds → getL t'' n = getL t n := fun n hn => by
        obtain ⟨val, _, hst, _⟩ := qc.vals
        rw [hst]
        refine stAt_untouched ops val _ 0 t fun i _ hi hg => hn ?_
        rw [← hds]
        unfold gDst at hg
        cases ho : ops[i]? with
        | none => rw [ho] at hg; cases hg
        | some o =>
          rw [ho] at hg
          refine mem_dsts (o := o) ?_ hg
          rw [List.mem_take_iff_getElem]
          have hi' : i < m := by omega
          refine ⟨i, by simp; omega, ?_⟩
          have := (Array.getElem?_eq_some_iff.1 ho).2
          simpa using this
      have hE : Eqv t'' (putDsL ds vs t) := by
        refine ⟨by rw [putDsL_len, hlen2], fun σ n v hr => ?_⟩
        by_cases hn : n ∈ ds
        · rcases Nat.lt_or_ge n t.length with hlt | hge
          · obtain ⟨i, hi, hgi⟩ := putDsL_in ds vs t n hlen hn hlt
            rw [hgi]
            have hil : i < ds.length := (List.getElem?_eq_some_iff.1 hi).1
            refine e4 i (by omega) σ v ?_
            have hgm : getL (ds.map (getL t0)) i = getL t0 n := by
              rw [getL_eq, List.getD_eq_getElem?_getD, List.getElem?_map, hi]; rfl
            rw [hgm]
            exact eq1.2 σ n v hr
          · rw [getL_none (by rw [hlen2]; exact hge)] at hr
            rw [getL_none (by rw [putDsL_len]; exact hge)]; exact hr
        · rw [putDsL_out _ _ _ _ hn, ← hout n hn]; exact hr
      obtain ⟨t3, c3, e3'⟩ := c.conv hE
      subst hm
      exact (region_of hd qc c3).weak e3'
end

/-! ### Straight code -/
def strR (P : Program) (ops : Array Oper) (draw : Bool) : Bool := (ops.toList.drop (qM draw ops)).all tailOK && (!draw || (P.follows .mixedOrders && drawOK ops (qM draw ops)))
/-- Code that falls through. -/
def strC (P : Program) : Nat → Code → Bool
  | 0, _ => false
  | n + 1, c => match c with
    | .skip => true
    | .seq a b => strC P n a && strC P n b
    | .block _ c => strC P n c
    | .region _ ops draw => strR P ops draw
    | .cond _ a b => strC P n a && strC P n b
    | _ => false
section
variable (P : Program) (T : Table)
noncomputable def mergeDs (b : Bool) (ta tb : Tm) : List Nat → List AV
  | [] => []
  | d :: ds => mergeA b (gt ta d) (gt tb d) :: mergeDs b ta tb ds
noncomputable def jJoin (x : Bool) (t : Tm) (H : List AB) : Option JS → Option JS → Option JS
  | some ⟨t1, H1, ds1, ws1, nd1⟩, some ⟨t2, H2, ds2, ws2, nd2⟩ => match mergeH x H1 H2 (ws1 ++ ws2) H with
    | some H' => some ⟨putDs (ds1 ++ ds2) (mergeDs x t1 t2 (ds1 ++ ds2)) t, H', ds1 ++ ds2, ws1 ++ ws2, guardL x nd1 ++ guardL (!x) nd2⟩
    | none => none
  | some ⟨t1, H1, ds1, ws1, nd1⟩, none => some ⟨t1, H1, ds1, ws1, x :: nd1⟩
  | none, some ⟨t2, H2, ds2, ws2, nd2⟩ => some ⟨t2, H2, ds2, ws2, (!x) :: nd2⟩
  | none, none => none
noncomputable def jC : Nat → Code → CF (Tm → List AB → Option JS)
  | 0, _ => .mk fun _ _ => none
  | n + 1, c => match c with
    | .skip => .mk fun t H => some ⟨t, H, [], [], []⟩
    | .seq a b => match jC n a, jC n b with
      | .mk f, .mk g => .mk fun t H => match f t H with
        | some ⟨t1, H1, ds1, ws1, nd1⟩ => match g t1 H1 with
          | some ⟨t2, H2, ds2, ws2, nd2⟩ => some ⟨t2, H2, ds1 ++ ds2, ws1 ++ ws2, nd2 ++ nd1⟩
          | none => none
        | none => none
    | .block _ c => jC n c
    | .region _ ops draw => match strR P ops draw with
      | true => jReg P T ops draw
      | false => .mk fun _ _ => none
    | .cond c a b => match okOpd c, cOpd c, jC n a, jC n b with
      | false, _, _, _ => .mk fun _ _ => none
      | true, .mk q, .mk f, .mk g => .mk fun t H => match q t with
        | .b l x => match l with
          | true => match x with
            | true => f t H
            | false => g t H
          | false => jJoin x t H (f t H) (g t H)
        | _ => none
    | _ => .mk fun _ _ => none
end
section
variable {P : Program} {T : Table}
def JOK (P : Program) (c : Code) (t : List AV) (H : List AB) (s : JS) : Prop := ∃ t', R s.t t' ∧ t'.length = t.length ∧ (∀ n, n ∉ s.ds → getL t' n = getL t n) ∧ Pt H s.H s.ws ∧ (allT s.nd = true → ∀ k, Reach P (.code c :: k) t H k t' s.H)
theorem mergeDs_len (b : Bool) (ta tb : Tm) : ∀ ds, (mergeDs b ta tb ds).length = ds.length
  | [] => rfl
  | d :: ds => by simp [mergeDs, mergeDs_len b ta tb ds]
theorem mergeDs_get (b : Bool) (ta tb : Tm) : ∀ (ds : List Nat) (i n : Nat), ds[i]? = some n → getL (mergeDs b ta tb ds) i = mergeA b (gt ta n) (gt tb n)
  | [], i, n, h => by simp at h
  | d :: ds, 0, n, h => by simp at h; subst h; rfl
  | d :: ds, i + 1, n, h => by simp at h; exact mergeDs_get b ta tb ds i n h
theorem join_eqv {x : Bool} {τ1 τ2 : Tm} {t t1 t2 : List AV} {ds : List Nat} (h1 : R τ1 t1) (h2 : R τ2 t2) (l1 : t1.length = t.length) (l2 : t2.length = t.length) (o1 : ∀ n, n ∉ ds → getL t1 n = getL t n) (o2 : ∀ n, n ∉ ds → getL t2 n = getL t n) :
    Eqv (if x then t1 else t2) (putDsL ds (mergeDs x τ1 τ2 ds) t) := by
  refine ⟨by cases x <;> simp [putDsL_len, l1, l2], fun σ n v r => ?_⟩
  by_cases hn : n ∈ ds
  · rcases Nat.lt_or_ge n t.length with hlt | hge
    · obtain ⟨i, hi, hgi⟩ := putDsL_in ds (mergeDs x τ1 τ2 ds) t n (mergeDs_len _ _ _ _) hn hlt
      rw [hgi, mergeDs_get _ _ _ _ _ _ hi, h1.get, h2.get]
      cases x with
      | true => exact mergeA_left r
      | false => exact mergeA_right r
    · rw [getL_none (by rw [putDsL_len]; exact hge)]
      rw [getL_none (by cases x <;> simp [l1, l2, hge])] at r
      exact r
  · rw [putDsL_out _ _ _ _ hn]
    cases x with
    | true => simp only [if_true] at r; rw [← o1 n hn]; exact r
    | false => simp only [Bool.false_eq_true, if_false] at r; rw [← o2 n hn]; exact r
theorem jJoin_sound {c : Operand} {a b : Code} {x : Bool} {τ : Tm} {t : List AV} {H : List AB} {l : Bool} {ra rb : Option JS} {s : JS} (hR : R τ t) (hok : okOpd c = true) (hv : evA t c = .b l x) (ha : ∀ s, ra = some s → JOK P a t H s) (hb : ∀ s, rb = some s → JOK P b t H s) (e : jJoin x τ H ra rb = some s) : JOK P (.cond c a b) t H s := by
  have hc := fun k => cond_reach (P := P) (x := a) (y := b) (k := k) (H := H) hok hv
  unfold jJoin at e
  split at e
  · rename_i t1 H1 ds1 ws1 nd1 t2 H2 ds2 ws2 nd2
    split at e <;> cases e
    rename_i H' hm
    obtain ⟨u1, a1, a2, a3, a4, a5⟩ := ha _ rfl
    obtain ⟨u2, b1, b2, b3, b4, b5⟩ := hb _ rfl
    dsimp only at a1 a3 a4 a5 b1 b3 b4 b5
    have o1 : ∀ n, n ∉ ds1 ++ ds2 → getL u1 n = getL t n := fun n hn => a3 n fun h => hn (List.mem_append_left _ h)
    have o2 : ∀ n, n ∉ ds1 ++ ds2 → getL u2 n = getL t n := fun n hn => b3 n fun h => hn (List.mem_append_right _ h)
    refine ⟨putDsL (ds1 ++ ds2) (mergeDs x t1 t2 (ds1 ++ ds2)) t, putDs_R _ _ hR, putDsL_len _ _ _, fun n hn => putDsL_out _ _ _ _ hn, (mergeH_spec _ _ _ _ _ _ hm).1, fun hn k => ?_⟩
    dsimp only at hn ⊢
    rw [allT_append, Bool.and_eq_true] at hn
    have he := join_eqv (x := x) a1 b1 a2 b2 o1 o2
    cases x with
    | true =>
      have := (hc k).trans (a5 (guardL_true hn.1) k)
      exact (this.weak he).post (mergeH_left (a4.mono fun p hp => List.mem_append_left _ hp) hm)
    | false =>
      have := (hc k).trans (b5 (guardL_true hn.2) k)
      exact (this.weak he).post (mergeH_right (b4.mono fun p hp => List.mem_append_right _ hp) hm)
  · rename_i t1 H1 ds1 ws1 nd1
    cases e
    obtain ⟨u1, a1, a2, a3, a4, a5⟩ := ha _ rfl
    refine ⟨u1, a1, a2, a3, a4, fun hn k => ?_⟩
    dsimp only at hn
    simp only [allT, Bool.and_eq_true] at hn
    obtain ⟨rfl, hn⟩ := hn
    exact (hc k).trans (a5 hn k)
  · rename_i t2 H2 ds2 ws2 nd2
    cases e
    obtain ⟨u1, a1, a2, a3, a4, a5⟩ := hb _ rfl
    refine ⟨u1, a1, a2, a3, a4, fun hn k => ?_⟩
    dsimp only at hn
    simp only [allT, Bool.and_eq_true] at hn
    obtain ⟨hx, hn⟩ := hn
    have : x = false := by simpa using hx
    subst this
    exact (hc k).trans (a5 hn k)
  · cases e
theorem jC_sound (hT : SoundT P T) : ∀ (n : Nat) (c : Code) (τ : Tm) (t : List AV) (H : List AB) (s : JS), R τ t → (jC P T n c).app τ H = some s → JOK P c t H s
  | 0, _, _, _, _, _, _, e => by cases e
  | n + 1, c, τ, t, H, s, hR, e => by
    unfold jC at e
    split at e
    · cases e
      exact ⟨t, hR, rfl, fun _ _ => rfl, Pt.refl _ _, fun _ k => (Reach.refl k t H).head fun _ _ _ _ => step_skip⟩
    · rename_i a b
      have ia := jC_sound hT n a
      have ib := jC_sound hT n b
      cases hf : jC P T n a with
      | mk f => cases hg : jC P T n b with
        | mk g =>
          rw [hf] at e ia; rw [hg] at e ib
          dsimp only [CF.app] at e ia ib
          split at e <;> (try (cases e; done))
          rename_i t1 H1 ds1 ws1 nd1 h1
          split at e <;> cases e
          rename_i t2 H2 ds2 ws2 nd2 h2
          obtain ⟨u1, a1, a2, a3, a4, a5⟩ := ia _ _ _ _ hR h1
          obtain ⟨u2, b1, b2, b3, b4, b5⟩ := ib _ _ _ _ a1 h2
          refine ⟨u2, b1, b2.trans a2, fun m hm => ?_, a4.trans b4, fun hn k => ?_⟩
          · simp only [List.mem_append, not_or] at hm
            rw [b3 m hm.2, a3 m hm.1]
          · dsimp only at hn
            rw [allT_append, Bool.and_eq_true] at hn
            exact ((a5 hn.2 (.code b :: k)).trans (b5 hn.1 k)).head fun _ _ _ _ => step_seq
    · rename_i id c
      obtain ⟨u1, a1, a2, a3, a4, a5⟩ := jC_sound hT n c τ t H s hR e
      refine ⟨u1, a1, a2, a3, a4, fun hn k => ?_⟩
      have h1 := a5 hn (.inBlock id :: k)
      have h2 : Reach P (.inBlock id :: k) u1 s.H k u1 s.H := (Reach.refl k u1 s.H).head fun _ _ _ _ => step_inBlock
      exact (h1.trans h2).head fun _ _ _ _ => step_block
    · rename_i id ops draw
      split at e
      case h_2 => cases e
      rename_i hs
      unfold strR at hs
      rw [Bool.and_eq_true] at hs
      have hd : draw = false ∨ (P.follows .mixedOrders && drawOK ops (qM draw ops)) = true := by
        cases draw with
        | false => exact .inl rfl
        | true => exact .inr (by simpa using hs.2)
      obtain ⟨u1, a1, a2, a3, a4, a5⟩ := jReg_sound (id := id) hT hd hR e
      exact ⟨u1, a1, a2, a3, a4, fun hn k => region_reach (a5 hn)⟩
    · rename_i c a b
      have ia := jC_sound hT n a
      have ib := jC_sound hT n b
      have hO := cOpd_eq c τ
      rw [hR.ev] at hO
      cases hok : okOpd c with
      | false => rw [hok] at e; cases e
      | true =>
        cases hq : cOpd c with
        | mk q => cases hf : jC P T n a with
          | mk f => cases hg : jC P T n b with
            | mk g =>
              rw [hok, hq, hf, hg] at e
              rw [hq] at hO; rw [hf] at ia; rw [hg] at ib
              dsimp only [CF.app] at e ia ib hO
              rw [hO] at e
              split at e <;> (try (cases e; done))
              rename_i l x hv
              have one : ∀ (z : Code), z = (if x then a else b) → JOK P z t H s → JOK P (.cond c a b) t H s := fun z hz h => by
                obtain ⟨u1, a1, a2, a3, a4, a5⟩ := h
                refine ⟨u1, a1, a2, a3, a4, fun hn k => ?_⟩
                have := cond_reach (P := P) (x := a) (y := b) (k := k) (H := H) hok hv
                rw [← hz] at this
                exact this.trans (a5 hn k)
              split at e
              · split at e
                · exact one a rfl (ia _ _ _ _ hR e)
                · exact one b rfl (ib _ _ _ _ hR e)
              · exact jJoin_sound hR hok hv (fun s h => ia _ _ _ _ hR h) (fun s h => ib _ _ _ _ hR h) e
    · cases e
end
end Go.Ax

/- Code run, straight parts joined. -/
namespace Go.Ax
open Go

def hasG (ops : Array Oper) : Bool := ops.toList.any fun o => o.guard.isSome
section
variable (P : Program) (T : Table) (stop : List Item → Bool)
noncomputable def tryReg (ops : Array Oper) (draw : Bool) (t : Tm) (H : List AB) : Option JS :=
  match hasG ops && strR P ops draw with
  | true => (jReg P T ops draw).app t H
  | false => none
noncomputable def tryCond (c : Operand) (a b : Code) (t : Tm) (H : List AB) : Option JS :=
  match strC P 50 (.cond c a b) with
  | true => (jC P T 50 (.cond c a b)).app t H
  | false => none
/-- Like 'cRun'. -/
noncomputable def jRun : Nat → List Item → Tm → List AB → List Bool → KB → (List Item → KB) → Res
  | 0, _, _, _, _, _, _ => .fail
  | n + 1, todo, t, H, nd, KE, KS =>
    match cNext stop 100 todo with
    | .done => KE t H nd
    | .stop k => KS k t H nd
    | .region _ ops draw k => match tryReg P T ops draw t H with
      | some ⟨t', H', _, _, nd'⟩ => match stop k with
        | true => KS k t' H' (nd' ++ nd)
        | false => jRun n k t' H' (nd' ++ nd) KE KS
      | none => match cRegion P T ops draw, stop k with
        | .mk f, true => f t H nd (KS k)
        | .mk f, false => f t H nd fun t H nd => jRun n k t H nd KE KS
    | .cond c a b k => match tryCond P T c a b t H with
      | some ⟨t', H', _, _, nd'⟩ => match stop k with
        | true => KS k t' H' (nd' ++ nd)
        | false => jRun n k t' H' (nd' ++ nd) KE KS
      | none => match okOpd c, cOpd c, stop (.code a :: k), stop (.code b :: k) with
        | true, .mk f, sa, sb => match f t with
          | .b l x => match l with
            | true => match x with
              | true => match sa with
                | true => KS (.code a :: k) t H nd
                | false => jRun n (.code a :: k) t H nd KE KS
              | false => match sb with
                | true => KS (.code b :: k) t H nd
                | false => jRun n (.code b :: k) t H nd KE KS
            | false => .ite x
              (match sa with
                | true => KS (.code a :: k) t H nd
                | false => jRun n (.code a :: k) t H nd KE KS)
              (match sb with
                | true => KS (.code b :: k) t H nd
                | false => jRun n (.code b :: k) t H nd KE KS)
          | _ => .fail
        | false, _, _, _ => .fail
    | .fail => .fail
end
section
variable {P : Program} {T : Table}
theorem jRun_sound {stop : List Item → Bool} (hT : SoundT P T) (KE : KB) (KS : List Item → KB) : ∀ (n : Nat) (todo : List Item) (τ : Tm) (t : List AV) (H : List AB) (nd : List Bool), R τ t → (jRun P T stop n todo τ H nd KE KS).sel = .fail ∨
    (∃ t' H' nd', (jRun P T stop n todo τ H nd KE KS).sel = (KE (ofL t') H' nd').sel ∧ (allT nd' = true → allT nd = true ∧ Ends P todo t H t' H')) ∨
    (∃ todo' t' H' nd', (jRun P T stop n todo τ H nd KE KS).sel = (KS todo' (ofL t') H' nd').sel ∧ (allT nd' = true → allT nd = true ∧ Reach P todo t H todo' t' H'))
  | 0, _, _, _, _, _, _ => .inl rfl
  | n + 1, todo, τ, t, H, nd, h => by
    have hN := cNext_ok (P := P) stop t H 100 todo
    have goon : ∀ (k : List Item) (τ1 : Tm) (t1 : List AV) (H1 : List AB) (nd1 : List Bool), R τ1 t1 →
        ((match stop k with
          | true => KS k τ1 H1 nd1
          | false => jRun P T stop n k τ1 H1 nd1 KE KS).sel = .fail ∨
        (∃ t' H' nd', (match stop k with
          | true => KS k τ1 H1 nd1
          | false => jRun P T stop n k τ1 H1 nd1 KE KS).sel = (KE (ofL t') H' nd').sel ∧ (allT nd' = true → allT nd1 = true ∧ Ends P k t1 H1 t' H')) ∨
        (∃ todo' t' H' nd', (match stop k with
          | true => KS k τ1 H1 nd1
          | false => jRun P T stop n k τ1 H1 nd1 KE KS).sel = (KS todo' (ofL t') H' nd').sel ∧ (allT nd' = true → allT nd1 = true ∧ Reach P k t1 H1 todo' t' H'))) := fun k τ1 t1 H1 nd1 h1 => by
      cases stop k with
      | true => exact .inr (.inr ⟨k, t1, H1, nd1, by rw [h1.uniq], fun hn => ⟨hn, .refl _ _ _⟩⟩)
      | false => exact jRun_sound hT KE KS n k τ1 t1 H1 nd1 h1
    have joined : ∀ (k : List Item) (s : JS) (c : Code), Reach P todo t H (.code c :: k) t H → JOK P c t H s →
        ((match stop k with
          | true => KS k s.t s.H (s.nd ++ nd)
          | false => jRun P T stop n k s.t s.H (s.nd ++ nd) KE KS).sel = .fail ∨
        (∃ t' H' nd', (match stop k with
          | true => KS k s.t s.H (s.nd ++ nd)
          | false => jRun P T stop n k s.t s.H (s.nd ++ nd) KE KS).sel = (KE (ofL t') H' nd').sel ∧ (allT nd' = true → allT nd = true ∧ Ends P todo t H t' H')) ∨
        (∃ todo' t' H' nd', (match stop k with
          | true => KS k s.t s.H (s.nd ++ nd)
          | false => jRun P T stop n k s.t s.H (s.nd ++ nd) KE KS).sel = (KS todo' (ofL t') H' nd').sel ∧ (allT nd' = true → allT nd = true ∧ Reach P todo t H todo' t' H'))) := fun k s c hto hj => by
      obtain ⟨u, a1, _, _, _, a5⟩ := hj
      rcases goon k s.t u s.H (s.nd ++ nd) a1 with h3 | ⟨t', H', nd', h3, h4⟩ | ⟨todo', t', H', nd', h3, h4⟩
      · exact .inl h3
      · refine .inr (.inl ⟨t', H', nd', h3, fun hn => ?_⟩)
        obtain ⟨h5, h6⟩ := h4 hn
        rw [allT_append, Bool.and_eq_true] at h5
        exact ⟨h5.2, (hto.trans (a5 h5.1 k)).ends h6⟩
      · refine .inr (.inr ⟨todo', t', H', nd', h3, fun hn => ?_⟩)
        obtain ⟨h5, h6⟩ := h4 hn
        rw [allT_append, Bool.and_eq_true] at h5
        exact ⟨h5.2, (hto.trans (a5 h5.1 k)).trans h6⟩
    unfold jRun
    cases hc : cNext stop 100 todo with
    | done =>
      rw [hc] at hN
      exact .inr (.inl ⟨t, H, nd, by rw [h.uniq], fun hn => ⟨hn, hN⟩⟩)
    | stop k =>
      rw [hc] at hN
      exact .inr (.inr ⟨k, t, H, nd, by rw [h.uniq], fun hn => ⟨hn, hN⟩⟩)
    | fail => exact .inl rfl
    | region id ops draw k =>
      rw [hc] at hN
      have hN : Reach P todo t H (.code (.region id ops draw) :: k) t H := hN
      dsimp only
      cases hs : tryReg P T ops draw τ H with
      | some s =>
        refine joined k s _ hN ?_
        unfold tryReg at hs
        split at hs
        case h_2 => cases hs
        rename_i hst
        rw [Bool.and_eq_true] at hst
        have hst := hst.2
        unfold strR at hst
        rw [Bool.and_eq_true] at hst
        have hd : draw = false ∨ (P.follows .mixedOrders && drawOK ops (qM draw ops)) = true := by
          cases draw with
          | false => exact .inl rfl
          | true => exact .inr (by simpa using hst.2)
        obtain ⟨u1, a1, a2, a3, a4, a5⟩ := jReg_sound (id := id) hT hd h hs
        exact ⟨u1, a1, a2, a3, a4, fun hn k => region_reach (a5 hn)⟩
      | none =>
      dsimp only
      have hR := fun K => cRegion_sound hT id ops draw k h H nd K
      cases hf : cRegion P T ops draw with
      | mk f =>
        rw [hf] at hR
        dsimp only [CF.app] at hR
        cases hs : stop k with
        | true =>
          dsimp only
          rcases hR (KS k) with h1 | ⟨t1, H1, nd1, h1, h2⟩
          · exact .inl h1
          · exact .inr (.inr ⟨k, t1, H1, nd1, h1, fun hn => ⟨(h2 hn).1, hN.trans (h2 hn).2⟩⟩)
        | false =>
          dsimp only
          rcases hR (fun t H nd => jRun P T stop n k t H nd KE KS) with h1 | ⟨t1, H1, nd1, h1, h2⟩
          · exact .inl h1
          rw [h1]
          have := goon k (ofL t1) t1 H1 nd1 (ofL_R t1)
          rw [hs] at this
          rcases this with h3 | ⟨t', H', nd', h3, h4⟩ | ⟨todo', t', H', nd', h3, h4⟩
          · exact .inl h3
          · refine .inr (.inl ⟨t', H', nd', h3, fun hn => ?_⟩)
            obtain ⟨h5, h6⟩ := h4 hn
            exact ⟨(h2 h5).1, (hN.trans (h2 h5).2).ends h6⟩
          · refine .inr (.inr ⟨todo', t', H', nd', h3, fun hn => ?_⟩)
            obtain ⟨h5, h6⟩ := h4 hn
            exact ⟨(h2 h5).1, (hN.trans (h2 h5).2).trans h6⟩
    | cond c a b k =>
      rw [hc] at hN
      have hN : Reach P todo t H (.code (.cond c a b) :: k) t H := hN
      dsimp only
      cases hs : tryCond P T c a b τ H with
      | some s =>
        refine joined k s _ hN ?_
        unfold tryCond at hs
        split at hs
        case h_2 => cases hs
        exact jC_sound hT 50 _ _ _ _ _ h hs
      | none =>
      dsimp only
      have hO := cOpd_eq c τ
      rw [h.ev] at hO
      cases hok : okOpd c with
      | false => exact .inl rfl
      | true =>
        cases hf : cOpd c with
        | mk f =>
          rw [hf] at hO
          dsimp only [CF.app] at hO ⊢
          rw [hO]
          cases hv : evA t c
          case b l v =>
            have two : ∀ z : Code, z = (if v then a else b) →
                ((match stop (.code z :: k) with
                  | true => KS (.code z :: k) τ H nd
                  | false => jRun P T stop n (.code z :: k) τ H nd KE KS).sel = .fail ∨
                (∃ t' H' nd', (match stop (.code z :: k) with
                  | true => KS (.code z :: k) τ H nd
                  | false => jRun P T stop n (.code z :: k) τ H nd KE KS).sel = (KE (ofL t') H' nd').sel ∧ (allT nd' = true → allT nd = true ∧ Ends P todo t H t' H')) ∨
                (∃ todo' t' H' nd', (match stop (.code z :: k) with
                  | true => KS (.code z :: k) τ H nd
                  | false => jRun P T stop n (.code z :: k) τ H nd KE KS).sel = (KS todo' (ofL t') H' nd').sel ∧ (allT nd' = true → allT nd = true ∧ Reach P todo t H todo' t' H'))) := fun z hz => by
              have hcr := hN.trans (cond_reach (P := P) (x := a) (y := b) (k := k) (H := H) hok hv)
              rw [← hz] at hcr
              rcases goon (.code z :: k) τ t H nd h with h3 | ⟨t', H', nd', h3, h4⟩ | ⟨todo', t', H', nd', h3, h4⟩
              · exact .inl h3
              · exact .inr (.inl ⟨t', H', nd', h3, fun hn => ⟨(h4 hn).1, hcr.ends (h4 hn).2⟩⟩)
              · exact .inr (.inr ⟨todo', t', H', nd', h3, fun hn => ⟨(h4 hn).1, hcr.trans (h4 hn).2⟩⟩)
            cases l with
            | true => cases v with
              | true => exact two _ rfl
              | false => exact two _ rfl
            | false => cases v with
              | true => exact two _ rfl
              | false => exact two _ rfl
          all_goals exact .inl rfl
end

/-! ### Calls -/
section
variable (P : Program)
noncomputable def jFun (T : Table) (n : Nat) (f : FuncId) : CF (List AV → List AB → List Bool → KF → Res) :=
  match P.funcs[f]? with
  | some fn => match fn.body with
    | some c => .mk fun args H nd K => match Nat.ble args.length fn.ntmps with
      | true => jRun P T (fun _ => false) n [.code c] (stAll (mkT fn.ntmps fn.ntmps) 0 args) H nd (retB P fn K) (fun _ _ _ _ => .fail)
      | false => .fail
    | none => .mk fun _ _ _ _ => .fail
  | none => .mk fun _ _ _ _ => .fail
/-- Like 'cdeep'. -/
noncomputable def jdeep (l : List (FuncId × Table)) (inl : List FuncId) (n : Nat) : Nat → CTab
  | 0 => fun _ => .mk fun _ _ _ _ => .fail
  | d + 1 => fun f => match lookC l f with
    | some T => .mk (T f)
    | none => match jFun P (tabOf (jdeep l inl n d)) n f with
      | .mk F => match inl.any (Nat.beq f) with
        | true => .mk F
        | false => .mk fun args H nd K => match joinR H.length (F args (roH H) [] fun v H' nd' => .ret v H' nd') with
          | some (v, nd') => K v H (nd' ++ nd)
          | none => .fail
end
section
variable {P : Program}
theorem jFun_sound {T : Table} (hT : SoundT P T) (n : Nat) : SoundT P (tabOf (jFun P T n)) := by
  intro f args H nd K
  unfold tabOf jFun
  cases hf : P.funcs[f]? with
  | none => exact .inl rfl
  | some fn =>
    dsimp only
    cases hc : fn.body with
    | none => exact .inl rfl
    | some c =>
      dsimp only [CF.app]
      cases hle : Nat.ble args.length fn.ntmps with
      | false => exact .inl rfl
      | true =>
        have hle := Nat.le_of_ble_eq_true hle
        have hR := stAll_R args _ _ 0 (mkT_R fn.ntmps fn.ntmps (Nat.le_refl _))
        rw [args_list args fn.ntmps hle] at hR
        dsimp only
        rcases jRun_sound hT (retB P fn K) (fun _ _ _ _ => .fail) n [.code c] _ _ H nd hR with h | ⟨t', H', nd', h1, h2⟩ | ⟨_, _, _, _, h1, _⟩
        · exact .inl h
        · rw [h1]
          unfold retB
          rw [resB_eq P (ofL_R t')]
          cases hr : resV P t' H' fn.results.toList with
          | none => exact .inl rfl
          | some z =>
            obtain ⟨vs, m⟩ := z
            refine .inr ⟨tupV vs, H', m ++ nd', rfl, fun hn => ?_⟩
            rw [allT_append, Bool.and_eq_true] at hn
            exact ⟨(h2 hn.2).1, call_of_ends hf hc (h2 hn.2).2 hr hn.1⟩
        · exact .inl h1
theorem jdeep_sound {l : List (FuncId × Table)} {inl : List FuncId} {n : Nat} (h : ∀ p ∈ l, SoundAt P p.1 p.2) : ∀ d, SoundT P (tabOf (jdeep P l inl n d))
  | 0 => fun _ _ _ _ _ => .inl rfl
  | d + 1 => fun f args H nd K => by
    have ih := jFun_sound (jdeep_sound (inl := inl) (n := n) h d) n
    have hq := quiet_sound ih
    unfold tabOf jdeep
    cases hl : lookC l f with
    | some T => exact h _ (lookC_some hl) args H nd K
    | none =>
      have h1 := ih f args H nd K
      have h2 := hq f args H nd K
      unfold quiet at h2
      unfold tabOf at h1 h2
      dsimp only
      cases hF : jFun P (tabOf (jdeep P l inl n d)) n f with
      | mk F =>
        have e : jFun P (fun f args H nd K => (jdeep P l inl n d f).app args H nd K) n f = .mk F := hF
        rw [e] at h1 h2
        dsimp only [CF.app] at h1 h2
        cases inl.any (Nat.beq f) with
        | true => exact h1
        | false => exact h2
/-- Like 'cupto'. -/
noncomputable def jupto (P : Program) (T : Table) (stop : List Item → Bool) (n : Nat) (todo : List Item) (t : List AV) (H : List AB) : Res :=
  jRun P T stop n todo (ofL t) H [] (fun τ H nd => .ret (.tup (listT τ)) H nd) (fun todo τ H nd => .stop todo (listT τ) H nd)
theorem jupto_reach {T : Table} {stop : List Item → Bool} {n : Nat} {todo todo' : List Item} {t t' : List AV} {H H' : List AB} {nd : List Bool} (hT : SoundT P T) (h : (jupto P T stop n todo t H).sel = .stop todo' t' H' nd) (hn : allT nd = true) : Reach P todo t H todo' t' H' := by
  rcases jRun_sound (stop := stop) hT (fun τ H nd => .ret (.tup (listT τ)) H nd) (fun todo τ H nd => .stop todo (listT τ) H nd) n todo _ t H [] (ofL_R t) with h1 | ⟨t1, H1, nd1, h1, h2⟩ | ⟨todo1, t1, H1, nd1, h1, h2⟩
  · unfold jupto at h; rw [h] at h1; cases h1
  · unfold jupto at h; rw [h] at h1; cases h1
  · unfold jupto at h; rw [h, (ofL_R t1).list] at h1; cases h1
    exact (h2 hn).2
theorem jupto_ends {T : Table} {stop : List Item → Bool} {n : Nat} {todo : List Item} {t t' : List AV} {H H' : List AB} {nd : List Bool} (hT : SoundT P T) (h : (jupto P T stop n todo t H).sel = .ret (.tup t') H' nd) (hn : allT nd = true) : Ends P todo t H t' H' := by
  rcases jRun_sound (stop := stop) hT (fun τ H nd => .ret (.tup (listT τ)) H nd) (fun todo τ H nd => .stop todo (listT τ) H nd) n todo _ t H [] (ofL_R t) with h1 | ⟨t1, H1, nd1, h1, h2⟩ | ⟨todo1, t1, H1, nd1, h1, h2⟩
  · unfold jupto at h; rw [h] at h1; cases h1
  · unfold jupto at h; rw [h, (ofL_R t1).list] at h1; cases h1
    exact (h2 hn).2
  · unfold jupto at h; rw [h] at h1; cases h1
end
end Go.Ax

/- Calls whose results lie in new blocks. -/
namespace Go.Ax
open Go Go.Proofs

/-- Blocks out of use dropped, one behind the other. -/
def dropN (k0 : Nat) : List Nat → AV → List AB → Option (AV × List AB)
  | [], v, H => some (v, H)
  | k :: ks, v, H => match Nat.ble k0 k && Nat.blt k H.length with
    | true => dropN k0 ks (renV k v) (dropB k k H)
    | false => none
section
variable {P : Program}
theorem dropN_call {f : FuncId} {args : List AV} {H0 : List AB} : ∀ {ks : List Nat} {v v' : AV} {H H' : List AB}, dropN H0.length ks v H = some (v', H') → CallOK P f args H0 v H → CallOK P f args H0 v' H'
  | [], _, _, _, _, h, k => by cases h; exact k
  | i :: ks, v, v', H, H', h, k => by
    simp only [dropN] at h
    split at h
    · rename_i hb
      rw [Bool.and_eq_true] at hb
      exact dropN_call h (k.drop i (Nat.le_of_ble_eq_true hb.1) (blt_true hb.2))
    · cases h
def leafD (k0 : Nat) (ks : List Nat) : Res → Option (AV × List AB × List Bool)
  | .ret v H nd => match dropN k0 ks v H with
    | some (v', H') => some (v', H', nd)
    | none => none
  | _ => none
theorem call_of_leaf {T : Table} {f : FuncId} {args : List AV} {H0 H' : List AB} {ks : List Nat} {dirs conds nd : List Bool} {v : AV} (hT : SoundT P T)
    (h : (condsP (T f args H0 [] fun v H nd => .ret v H nd) dirs, leafD H0.length ks ((T f args H0 [] fun v H nd => .ret v H nd).at dirs)) = (conds, some (v, H', nd))) (hc : allT conds = true) (hn : allT nd = true) : CallOK P f args H0 v H' := by
  simp only [Prod.mk.injEq] at h
  obtain ⟨h1, h2⟩ := h
  have e := sel_of_conds _ dirs (by rw [h1]; exact hc)
  generalize hl : (T f args H0 [] fun v H nd => .ret v H nd).at dirs = r at h2 e
  unfold leafD at h2
  split at h2 <;> (try (cases h2; done))
  split at h2 <;> cases h2
  rename_i hd
  exact dropN_call hd (call_of_sel hT e hn)
theorem plain_low {a : AV} (h : below 0 a = true) (n : Nat) : plainV n a = true := by
  cases a
  case p => simp [below] at h
  case sl => simp [below] at h
  all_goals exact h
theorem plain_lowL : ∀ {l : List AV}, belowL 0 l = true → ∀ n, l.all (plainV n) = true
  | [], _, _ => rfl
  | a :: l, h, n => by
    simp only [belowL, Bool.and_eq_true] at h
    simp only [List.all_cons, Bool.and_eq_true]
    exact ⟨plain_low h.1 n, plain_lowL h.2 n⟩
/-- A call without memory whose result lies in one new block. -/
theorem CallOK.fresh {f : FuncId} {args : List AV} {v : AV} {B : AB} (h : CallOK P f args [] v [B]) (hB : ∀ g, mapB g B = B) (ha : belowL 0 args = true) (H : List AB) : CallOK P f args H (mapV (pickI 0 H.length []) v) (H ++ [B]) := by
  have k := h.pick (fun i => rfl) (plain_lowL ha 0) [] rfl H (fun i hi => by simp at hi)
  rw [mapL_low _ ha] at k
  have e : (([B] : List AB).drop ([] : List AB).length).map (mapB (pickI ([] : List AB).length H.length [])) = [B] := by
    show [mapB _ B] = [B]
    rw [hB]
  rw [e] at k
  exact k
end
end Go.Ax

/- One way of an evaluation up to a place, or to the end. -/
namespace Go.Ax
open Go Go.Proofs

noncomputable def tab0 : Table := tabOf (cdeep Tryz.prog [] [] 3000 8)
theorem tab0_sound : SoundT Tryz.prog tab0 := cdeep_sound (fun p hp => by cases hp) 8
section
variable {P : Program} {T : Table}
theorem jupto_toLp (stop : List Item → Bool) (n : Nat) (L : List Item) (t : List AV) (H : List AB) : jupto P T stop n (toLp L) t H = jupto P T stop n L t H := by
  unfold toLp
  split
  · cases n with
    | zero => rfl
    | succ n =>
      unfold jupto jRun
      rw [cNext_loop stop 99]
  · rfl
theorem jupto_eq {stop : List Item → Bool} {n : Nat} {L R : List Item} (h : toLp L = toLp R) (t : List AV) (H : List AB) : jupto P T stop n L t H = jupto P T stop n R t H := by
  rw [← jupto_toLp, h, jupto_toLp]
theorem way_reach {stop : List Item → Bool} {n : Nat} {L R todo' : List Item} {p M nd : List Bool} {t0 t' : List AV} {H0 H' : List AB} (hT : SoundT P T) (hL : toLp L = toLp R) (hc : allT (condsP (jupto P T stop n R t0 H0) p) = true)
    (hl : lfM M ((jupto P T stop n R t0 H0).at p) = (true, todo', t'.map AV.bare, H', nd)) (hn : allT nd = true) : Reach P L t0 H0 todo' t' H' := by
  simp only [lfM, Prod.mk.injEq] at hl
  obtain ⟨a1, a2, a3, a4, a5⟩ := hl
  have hs := isStop_at a1 hc
  rw [← jupto_eq hL] at hs
  have hr := jupto_reach hT hs (by rw [jupto_eq hL, a5]; exact hn)
  rw [jupto_eq hL, a2, a4] at hr
  exact (hr.weak (blur_eqv M _)).weak (eqv_of_bare a3)
theorem endOfJ {stop : List Item → Bool} {n : Nat} {todo : List Item} {t0 : List AV} {H0 : List AB} {rs : List ResultVar} {r : Res} {x : Option (List AV × List Bool)} {H : List AB} {nd : List Bool} (hT : SoundT P T)
    (h : endOf P rs r = some (x, H, nd)) (hs : (jupto P T stop n todo t0 H0).sel = r.sel) (hn : allT nd = true) : ∃ t, Ends P todo t0 H0 t H ∧ resV P t H rs = x := by
  unfold endOf at h
  split at h <;> (try (cases h; done))
  split at h <;> cases h
  exact ⟨_, jupto_ends hT hs hn, rfl⟩
theorem way_ends {stop : List Item → Bool} {n : Nat} {L R : List Item} {p nd : List Bool} {t0 : List AV} {H0 H' : List AB} {rs : List ResultVar} {x : Option (List AV × List Bool)} (hT : SoundT P T) (hL : toLp L = toLp R) (hc : allT (condsP (jupto P T stop n R t0 H0) p) = true)
    (hl : endOf P rs ((jupto P T stop n R t0 H0).at p) = some (x, H', nd)) (hn : allT nd = true) : ∃ t, Ends P L t0 H0 t H' ∧ resV P t H' rs = x := by
  refine endOfJ (stop := stop) (n := n) hT hl ?_ hn
  rw [jupto_eq hL]
  exact sel_of_conds _ _ hc
end
end Go.Ax

/- A function cut at a place: where to stop, and what of memory is kept. -/
namespace Go.Ax
open Go Go.Proofs

def seqLen : Code → Nat
  | .seq _ b => seqLen b + 1
  | _ => 0
/-- Where so many statements are left. -/
def atCut (m : Nat) : List Item → Bool
  | .code c :: [] => Nat.beq (seqLen c) m
  | _ => false
def dropSeq : Nat → Code → Code
  | 0, c => c
  | n + 1, .seq _ b => dropSeq n b
  | _ + 1, c => c
def belowB (n : Nat) : AB → Bool
  | .cells _ (.lit l) => belowL n l
  | _ => true
def belowH (n : Nat) : List AB → Bool
  | [] => true
  | B :: H => belowB n B && belowH n H
theorem renI_lt {k i : Nat} (h : i < k) : renI k i = some i := by
  unfold renI
  rw [decide_eq_true h]
mutual
theorem renV_lt {n k : Nat} (hk : n ≤ k) : ∀ {a : AV}, below n a = true → renV k a = a
  | .p l id off, h => by
    have h : id < n := by simpa [below] using h
    simp only [renV, renI_lt (Nat.lt_of_lt_of_le h hk)]
  | .sl l id off len z, h => by
    have h : id < n := by simpa [below] using h
    simp only [renV, renI_lt (Nat.lt_of_lt_of_le h hk)]
  | .fn g f c, h => by
    simp only [below, Bool.and_eq_true] at h
    simp only [renV, renL_lt hk h.1, renL_lt hk h.2]
  | .ifc t v, h => by
    simp only [below] at h
    simp only [renV, renV_lt hk h]
  | .agg l, h => by
    simp only [below] at h
    simp only [renV, renL_lt hk h]
  | .tup l, h => by
    simp only [below] at h
    simp only [renV, renL_lt hk h]
  | .b _ _, _ => rfl
  | .i _ _ _, _ => rfl
  | .f _ _ _, _ => rfl
  | .c _ _ _ _, _ => rfl
  | .s _ _, _ => rfl
  | .pnil, _ => rfl
  | .slnil, _ => rfl
  | .sle, _ => rfl
  | .fnil, _ => rfl
  | .inil, _ => rfl
  | .any, _ => rfl
theorem renL_lt {n k : Nat} (hk : n ≤ k) : ∀ {l : List AV}, belowL n l = true → renL k l = l
  | [], _ => rfl
  | a :: l, h => by
    simp only [belowL, Bool.and_eq_true] at h
    simp only [renL, renV_lt hk h.1, renL_lt hk h.2]
end
theorem renB_lt {n k : Nat} (hk : n ≤ k) {B : AB} (h : belowB n B = true) : renB k B = B := by
  cases B with
  | cells r A =>
    cases A with
    | lit l => simp only [renB, renL_lt hk (show belowL n l = true from h)]
    | _ => rfl
  | _ => rfl
theorem dropB_snoc {n k0 : Nat} (hk : n ≤ k0) : ∀ {H : List AB} {B : AB}, belowH n H = true → dropB k0 H.length (H ++ [B]) = H
  | [], _, _ => rfl
  | A :: H, B, h => by
    simp only [belowH, Bool.and_eq_true] at h
    simp only [List.cons_append, List.length_cons, dropB, renB_lt hk h.1, dropB_snoc hk h.2]
theorem belowH_append {n : Nat} : ∀ {H G : List AB}, belowH n (H ++ G) = (belowH n H && belowH n G)
  | [], _ => rfl
  | B :: H, G => by simp only [List.cons_append, belowH, belowH_append (H := H), Bool.and_assoc]
section
variable {P : Program}
/-- The last block, which nothing names, is let go. -/
theorem Reach.last {todo todo' : List Item} {t t1 : List AV} {H H1 : List AB} {B : AB} (h : Reach P todo t H todo' t1 (H1 ++ [B])) (hl : H.length ≤ H1.length) (ht : belowL H1.length t1 = true) (hB : belowH H1.length H1 = true) : Reach P todo t H todo' t1 H1 := by
  have k := h.drop H1.length hl (by simp)
  rwa [renL_lt (Nat.le_refl _) ht, dropB_snoc (Nat.le_refl _) hB] at k
mutual
theorem below_mono {n m : Nat} (hnm : n ≤ m) : ∀ {a : AV}, below n a = true → below m a = true
  | .p l id off, h => by simp [below] at h ⊢; omega
  | .sl l id off len z, h => by simp [below] at h ⊢; omega
  | .fn g f c, h => by
    simp only [below, Bool.and_eq_true] at h ⊢
    exact ⟨belowL_mono hnm h.1, belowL_mono hnm h.2⟩
  | .ifc t v, h => by
    simp only [below] at h ⊢
    exact below_mono hnm h
  | .agg l, h => by
    simp only [below] at h ⊢
    exact belowL_mono hnm h
  | .tup l, h => by
    simp only [below] at h ⊢
    exact belowL_mono hnm h
  | .b _ _, _ => rfl
  | .i _ _ _, _ => rfl
  | .f _ _ _, _ => rfl
  | .c _ _ _ _, _ => rfl
  | .s _ _, _ => rfl
  | .pnil, _ => rfl
  | .slnil, _ => rfl
  | .sle, _ => rfl
  | .fnil, _ => rfl
  | .inil, _ => rfl
  | .any, _ => rfl
theorem belowL_mono {n m : Nat} (hnm : n ≤ m) : ∀ {l : List AV}, belowL n l = true → belowL m l = true
  | [], _ => rfl
  | a :: l, h => by
    simp only [belowL, Bool.and_eq_true] at h ⊢
    exact ⟨below_mono hnm h.1, belowL_mono hnm h.2⟩
end
theorem belowH_mono {n m : Nat} (hnm : n ≤ m) : ∀ {H : List AB}, belowH n H = true → belowH m H = true
  | [], _ => rfl
  | B :: H, h => by
    simp only [belowH, Bool.and_eq_true] at h ⊢
    refine ⟨?_, belowH_mono hnm h.2⟩
    cases B with
    | cells r A =>
      cases A with
      | lit l => exact belowL_mono hnm h.1
      | _ => rfl
    | _ => rfl
/-- A block out of use: whatever it holds. -/
theorem Reach.dead {todo todo' : List Item} {t t1 : List AV} {H H1 : List AB} {B : AB} {G : List AB} (h : Reach P todo t H todo' t1 (H1 ++ B :: G)) (hl : H.length ≤ H1.length) : Reach P todo t H todo' t1 (H1 ++ .dead :: G) := fun σ w a b cs s r => by
  obtain ⟨a', w', σ', e1, r1, d1, s1, f1⟩ := h σ w a b cs s r
  have hg : ∀ i, i ≠ H1.length → getB (H1 ++ .dead :: G) i = getB (H1 ++ B :: G) i := fun i hi => by
    rcases Nat.lt_or_ge i H1.length with h | h
    · rw [getB_append_left h, getB_append_left h]
    · rw [getB_append_right h, getB_append_right h]
      match hd : i - H1.length with
      | 0 => omega
      | k + 1 => rfl
  have hd : getB (H1 ++ .dead :: G) H1.length = .dead := by
    rw [getB_append_right (Nat.le_refl _), Nat.sub_self]; rfl
  refine ⟨a', w', σ', e1, r1, d1, ⟨by rw [s1.len]; simp, fun i b z hb => ?_, fun i j b z z' hi hj hr hl' => ?_⟩, ⟨f1.os, f1.tape, f1.output, f1.size, f1.old, f1.ext, f1.new, fun i hi hr => ?_⟩⟩
  · by_cases hi : i = H1.length
    · subst hi; rw [hd]; trivial
    · rw [hg i hi]; exact s1.blk i b z hb
  · by_cases hi' : i = H1.length
    · subst hi'; rw [hd] at hr; cases hr
    · by_cases hj' : j = H1.length
      · subst hj'; rw [hd] at hl'; cases hl'
      · rw [hg i hi'] at hr
        rw [hg j hj'] at hl'
        exact s1.inj i j b z z' hi hj hr hl'
  · have hl0 := s.len
    rw [hg i (by omega)] at hr
    exact f1.mono i hi hr
theorem Reach.deadAll {todo todo' : List Item} {t t1 : List AV} {H : List AB} : ∀ {G H1 : List AB}, Reach P todo t H todo' t1 (H1 ++ G) → H.length ≤ H1.length → Reach P todo t H todo' t1 (H1 ++ List.replicate G.length .dead)
  | [], _, h, _ => h
  | B :: G, H1, h, hl => by
    have h1 := h.dead hl
    have e : H1 ++ AB.dead :: G = (H1 ++ [AB.dead]) ++ G := by simp
    rw [e] at h1
    have h2 := Reach.deadAll h1 (by simp; omega)
    have e2 : H1 ++ [AB.dead] ++ List.replicate G.length AB.dead = H1 ++ List.replicate (B :: G).length AB.dead := by simp [List.replicate_succ]
    rwa [e2] at h2
theorem belowH_dead (n : Nat) : ∀ m, belowH n (List.replicate m .dead) = true
  | 0 => rfl
  | m + 1 => by simp only [List.replicate_succ, belowH, belowH_dead n m]; rfl
theorem Reach.dropAll {todo todo' : List Item} {t t1 : List AV} {H H1 : List AB} (hl : H.length ≤ H1.length) (ht : belowL H1.length t1 = true) (hB : belowH H1.length H1 = true) : ∀ {m : Nat}, Reach P todo t H todo' t1 (H1 ++ List.replicate m .dead) → Reach P todo t H todo' t1 H1
  | 0, h => by rwa [List.replicate_zero, List.append_nil] at h
  | m + 1, h => by
    rw [List.replicate_succ', ← List.append_assoc] at h
    have hm : H1.length ≤ (H1 ++ List.replicate m AB.dead).length := by simp
    exact Reach.dropAll hl ht hB (h.last (by omega) (belowL_mono hm ht) (by rw [belowH_append, belowH_mono hm hB, belowH_dead]; rfl))
/-- Only the first blocks are kept. -/
theorem Reach.keep {todo todo' : List Item} {t t1 : List AV} {H H1 G : List AB} (h : Reach P todo t H todo' t1 (H1 ++ G)) (hl : H.length ≤ H1.length) (ht : belowL H1.length t1 = true) (hB : belowH H1.length H1 = true) : Reach P todo t H todo' t1 H1 :=
  Reach.dropAll hl ht hB (h.deadAll hl)
end
end Go.Ax

/- Waves read from their values, phases, masks: what is the same for all seats. -/
namespace Go.Ax
open Go Go.Proofs

theorem feq_self {x : Nat} (h : finB x = true) : feq .f32 x x = true := by
  unfold finB fsub at h
  unfold feq Ieee.Format.order
  cases hx : (FloatKind.f32.format.read x) with
  | nan s p =>
    exfalso
    unfold Ieee.Format.sub at h
    rw [hx] at h
    have : (((Ieee.Datum.nan s p).sum (Ieee.Datum.nan s p).opposite).map FloatKind.f32.format.write).getD (qnan .f32) = qnan .f32 := rfl
    rw [this] at h
    have e : feq .f32 (qnan .f32) 0 = false := by kernel_rfl
    rw [e] at h; cases h
  | infinity s => simp [Ieee.Datum.order]
  | number s m i => simp [Ieee.Datum.order]
theorem feq_zz : feq .f32 0 0 = true := by kernel_rfl
theorem feq_plus {x : Nat} (h : finB x = true) : feq .f32 (plusF x) (plusF x) = true := by
  unfold plusF
  cases feq .f32 x 0 with
  | true => exact feq_zz
  | false => exact feq_self h
theorem wholeB_iff {z : Nat × Nat} : wholeB z = true ↔ finB z.1 = true ∧ finB z.2 = true := by
  unfold wholeB
  cases finB z.1 <;> simp

def reX (X : Nat → Nat × Nat) : Nat → Nat × Nat := fun j => ((List.range 64).map fun i => ((X i).1, (X i).2)).getD j (0, 0)
theorem reX_eq {X : Nat → Nat × Nat} {j : Nat} (h : j < 64) : reX X j = X j := by
  simp [reX, List.getD_eq_getElem?_getD, List.getElem?_range h]
theorem isWaveB_re {n : Int} {X : Nat → Nat × Nat} : isWaveB n (reX X) = isWaveB n X := by
  rw [Bool.eq_iff_iff, isWaveB_iff, isWaveB_iff]
  constructor
  · rintro ⟨h1, h2⟩
    exact ⟨h1, fun j hj => by have := h2 j hj; rwa [reX_eq hj] at this⟩
  · rintro ⟨h1, h2⟩
    exact ⟨h1, fun j hj => by rw [reX_eq hj]; exact h2 j hj⟩
def pEq (a b c d : Nat) : Bool := feq .f32 a b && feq .f32 c d
def eqX (X Y : Nat → Nat × Nat) : Nat → Nat → Bool
  | 0, _ => true
  | m + 1, j => pEq (X j).1 (Y j).1 (X j).2 (Y j).2 && eqX X Y m (Nat.succ j)
theorem eqX_self {X : Nat → Nat × Nat} (h : ∀ j, feq .f32 (X j).1 (X j).1 = true ∧ feq .f32 (X j).2 (X j).2 = true) : ∀ m j, eqX X X m j = true
  | 0, _ => rfl
  | m + 1, j => by
    simp only [eqX, pEq, h j, Bool.and_self, eqX_self h m]
def eqW (n : Int) (X : Nat → Nat × Nat) (n' : Int) (X' : Nat → Nat × Nat) : Bool := (n == n') && (eqX X X' 64 0 && true)
theorem eqW_self {n : Int} {X : Nat → Nat × Nat} (h : ∀ j, feq .f32 (X j).1 (X j).1 = true ∧ feq .f32 (X j).2 (X j).2 = true) : eqW n X n X = true := by
  simp [eqW, eqX_self h]

theorem tup2_weak {σ : List (Nat × Nat)} {l l' : List AV} {c c' : AV} {x : Value} (h : l.map AV.bare = l'.map AV.bare) (hc : c.bare = c'.bare) (r : Rel σ (.tup [.agg l, c]) x) : Rel σ (.tup [.agg l', c']) x := by
  cases r with | tup hr =>
  generalize hal : Array.toList _ = al at hr
  cases hr with | cons r1 hr => cases hr with | cons r2 hr => cases hr with | nil =>
  refine .tup ?_
  rw [hal]
  exact .cons (agg_bare h r1) (.cons (hc ▸ r2.bare).unbare .nil)

def w64 (n : Int) : Int := IntKind.i64.wrap n
theorem w64_id {a : Int} (h : -1000000 ≤ a ∧ a ≤ 1000000) : w64 a = a := wrap64_id (by omega) (by omega)
theorem plus_zero : plusF 0 = 0 := by kernel_rfl
theorem plusph_all : ((List.range 64).all fun j => Nat.beq (plusF (phXs.getD j 0)) (phXs.getD j 0) && Nat.beq (plusF (phYs.getD j 0)) (phYs.getD j 0)) = true := by kernel_rfl
theorem plus_phx (k : Int) : plusF (phX k) = phX k ∧ plusF (phY k) = phY k := by
  have hj : (k % 64).toNat < 64 := by omega
  have h := List.all_eq_true.1 plusph_all (k % 64).toNat (by simpa using hj)
  rw [Bool.and_eq_true] at h
  have e1 := Nat.eq_of_beq_eq_true h.1
  have e2 := Nat.eq_of_beq_eq_true h.2
  have hk : k % 64 = ((k % 64).toNat : Int) := by omega
  constructor
  · unfold phX
    generalize (k % 64).toNat = j at hk hj e1
    rw [hk, chain_get _ _ 63 (by omega), e1]
  · unfold phY
    generalize (k % 64).toNat = j at hk hj e2
    rw [hk, chain_get _ _ 63 (by omega), e2]
theorem ble_blt (N j : Nat) : Nat.ble N j = !(Nat.blt j N) := by
  rw [Bool.eq_iff_iff, Nat.ble_eq]
  cases h : Nat.blt j N with
  | true => have := blt_true h; simp; omega
  | false => have := blt_false h; simp; omega
def zeroV (c : Int) : AV := .tup [.agg (.i true .i64 0 :: List.replicate 64 (.c true .f32 0 0)), .i true .i64 c]
def zeroV2 (c : Int) : AV := .tup [.agg (.i true .i64 0 :: List.replicate 64 (.c true .f32 0 0)), .i false .i64 c]
def zC (z : Nat × Nat) : Bool := pEq z.1 0 z.2 0
def oC (z : Nat × Nat) : Bool := pEq z.1 1065353216 z.2 0
def maskF (X : Nat → Nat × Nat) : Nat → Nat → Bool
  | 0, _ => true
  | m + 1, j => (zC (X j) || oC (X j)) && maskF X m (j + 1)
theorem maskF_iff (X : Nat → Nat × Nat) : ∀ m j, maskF X m j = true ↔ ∀ i, i < m → zC (X (j + i)) = true ∨ oC (X (j + i)) = true
  | 0, j => by simp [maskF]
  | m + 1, j => by
    rw [maskF, Bool.and_eq_true, Bool.or_eq_true, maskF_iff X m (j + 1)]
    constructor
    · rintro ⟨h0, h⟩ i hi
      cases i with
      | zero => exact h0
      | succ i => have := h i (by omega); rwa [show j + 1 + i = j + (i + 1) by omega] at this
    · intro h
      refine ⟨h 0 (by omega), fun i hi => ?_⟩
      have := h (i + 1) (by omega)
      rwa [show j + (i + 1) = j + 1 + i by omega] at this
noncomputable def isMaskB (n : Int) (X : Nat → Nat × Nat) : Bool := maskF X 64 0 && isWaveB n X

def idxF (X : Nat → Nat × Nat) : Nat → Nat → Int
  | 0, _ => -1
  | m + 1, j => cond (cond (!zC (X j)) (!oC (X j)) false) (Int.ofNat j) (idxF X m (Nat.succ j))
theorem idxF_neg (X : Nat → Nat × Nat) : ∀ m j, (!decide (0 ≤ idxF X m j)) = maskF X m j
  | 0, j => by simp [idxF, maskF]
  | m + 1, j => by
    rw [idxF, maskF, ← idxF_neg X m (j + 1)]
    cases zC (X j) <;> cases oC (X j) <;> simp
theorem wvT_below (l : Bool) (n : Int) (X : Nat → Nat × Nat) : below 0 (wvT l n X) = true := by
  have := wv_low n X
  simpa [wv, wvT, waveL, below, belowL] using this
noncomputable def gIsMask : List AV → Option (AV × List Bool)
  | [.agg l] => match ofW l with
    | some (n, X) => some (.b false (isMaskB n X), [])
    | none => none
  | _ => none
def gNoMask : List AV → Option (AV × List Bool)
  | [.agg l] => match ofW l with
    | some (n, _) => some (.b true false, [!sideB n])
    | none => none
  | _ => none
theorem noSide_mask {n : Int} {X : Nat → Nat × Nat} (h : sideB n = false) : isMaskB n X = false ∧ isWaveB n X = false := by
  have : isWaveB n X = false := by simp [isWaveB, h]
  exact ⟨by simp [isMaskB, this], this⟩
def oneF : Nat := 1065353216
theorem plusF_zero {x : Nat} (h : feq .f32 x 0 = true) : plusF x = 0 := by unfold plusF; rw [h]; rfl
theorem wave_tail {n : Int} {X : Nat → Nat × Nat} (h : isWaveB n X = true) {j : Nat} (hj : j < 64) (hb : Nat.blt j (n.toNat * n.toNat) = false) : plusF (X j).1 = 0 ∧ plusF (X j).2 = 0 := by
  have h2 := ((isWaveB_iff.1 h).2 j hj).2 (by have := blt_false hb; omega)
  unfold zeroB at h2
  rw [Bool.and_eq_true] at h2
  exact ⟨plusF_zero h2.1, plusF_zero h2.2⟩
theorem isMaskB_re {n : Int} {X : Nat → Nat × Nat} : isMaskB n (reX X) = isMaskB n X := by
  unfold isMaskB
  rw [isWaveB_re]
  congr 1
theorem isMaskB_wave {n : Int} {X : Nat → Nat × Nat} (h : isMaskB n X = true) : isWaveB n X = true := by
  unfold isMaskB at h
  rw [Bool.and_eq_true] at h
  exact h.2
theorem side_cases {n : Int} (hs : sideB n = true) : (n.toNat * n.toNat, n) ∈ doNs := by
  rcases sideB_iff.1 hs with rfl | rfl | rfl | rfl <;> simp [doNs]
theorem zero_wave {n : Int} {X : Nat → Nat × Nat} {c : Int} (hX : ∀ j, X j = (0, 0)) (hn : n = 0) {σ : List (Nat × Nat)} {x : Value} (r : Rel σ (zeroV c) x) : Rel σ (.tup [wv n X, .i false .i64 c]) x := by
  unfold zeroV at r
  refine tup2_weak (l' := waveL n X) (c' := .i false .i64 c) ?_ ?_ r
  · have : (List.range 64).map (cx X) = List.replicate 64 (.c false .f32 0 0) := by
      have : cx X = fun _ => .c false .f32 0 0 := funext fun j => by simp [cx, hX]
      rw [this]; rfl
    simp only [waveL, this, hn]
    rfl
  · rfl
def twoW {α : Type} (g : Bool) (g' : Bool) (e : Bool) (bad mix ok : α) : α := cond (!g) bad (cond (!g') bad (cond (!e) mix ok))
def pairV (N : Nat) (n : Int) (g g' e : Bool) (Z : Nat → Nat × Nat) : AV :=
  .tup [.agg (.i false .i64 (twoW g g' e 0 0 n) :: (List.range 64).map fun j => match Nat.ble N j with
    | true => .c true .f32 0 0
    | false => .c false .f32 (plusF (twoW g g' e 0 0 (Z j).1)) (plusF (twoW g g' e 0 0 (Z j).2))), .i false .i64 (twoW g g' e 1 2 0)]
def inZ (X Y : Nat → Nat × Nat) (j : Nat) : Nat × Nat := (cond (cond (oC (X j)) (oC (Y j)) false) oneF 0, cond (cond (oC (X j)) (oC (Y j)) false) 0 0)
def pairX (n : Int) (g g' e : Bool) (Z : Nat → Nat × Nat) (j : Nat) : Nat × Nat := match (g && (g' && e)) && Nat.blt j (n.toNat * n.toNat) with
  | true => (plusF (Z j).1, plusF (Z j).2)
  | false => (0, 0)
def pairR (n : Int) (g g' e : Bool) (Z : Nat → Nat × Nat) : AV := .tup [wv (twoW g g' e 0 0 n) (pairX n g g' e Z), .i false .i64 (twoW g g' e 1 2 0)]
theorem pair_rel {n : Int} {g g' e : Bool} {Z : Nat → Nat × Nat} {σ : List (Nat × Nat)} {x : Value} (r : Rel σ (pairV (n.toNat * n.toNat) n g g' e Z) x) : Rel σ (pairR n g g' e Z) x := by
  unfold pairV at r
  refine tup2_weak (l' := waveL (twoW g g' e 0 0 n) (pairX n g g' e Z)) (c' := .i false .i64 (twoW g g' e 1 2 0)) ?_ rfl r
  simp only [waveL, List.map_cons, List.map_map, AV.bare]
  congr 1
  apply List.map_congr_left
  intro j _
  simp only [Function.comp, cx, pairX]
  rw [ble_blt]
  cases hb : Nat.blt j (n.toNat * n.toNat) with
  | false => simp [AV.bare]
  | true => cases g <;> cases g' <;> cases e <;> simp [AV.bare, twoW, plus_zero]
theorem pair_zero {n : Int} {g' e : Bool} {Z : Nat → Nat × Nat} {σ : List (Nat × Nat)} {x : Value} (r : Rel σ (zeroV 1) x) : Rel σ (pairR n false g' e Z) x :=
  zero_wave (n := 0) (fun j => by simp [pairX]) rfl r
theorem nd_ok {c : Cd} (hc : goodB c = true) {l : List Bool} {m : Nat} (h : l = List.replicate m (okB c c.off c.len)) : allT l = true := by
  have hk : okB c c.off c.len = true := by simp [okB, hc]
  rw [h, hk]; exact allT_rep m
theorem tup_bare {l l' : List AV} (h : l.map AV.bare = l'.map AV.bare) {σ : List (Nat × Nat)} {v : Value} (r : Rel σ (.tup l) v) : Rel σ (.tup l') v := by
  cases r with | tup r => exact .tup (RelL.unbare (h ▸ r.bare))
end Go.Ax

/- What the law of gratings draws. -/
namespace Go.Ax
open Go Go.Proofs

def inlG : List FuncId := inlS ++ [6, 11, 15, 18, 21, 24, 27, 30, 65, 95, 73]
noncomputable def tabG (mx : Int) : Table := tabOf (cdeep Tryz.prog (rows11 mx) inlG 2000 6)
theorem tabG_sound (mx : Int) : SoundT Tryz.prog (tabG mx) := cdeep_sound (allAt_mem (rows11_at mx)) 6
def formI2 : Form (Int × Int) where
  get := fun
    | .tup [a, b] => match formI.get a, formI.get b with
      | some x, some y => some (x, y)
      | _, _ => none
    | _ => none
  val := fun x => .tup [.i false .i64 x.1, .i false .i64 x.2]
  rel := fun {v x} h σ y r => by
    split at h <;> (try (cases h; done))
    split at h <;> cases h
    rename_i a b x1 x2 h1 h2
    cases r with | tup hr =>
    generalize hal : Array.toList _ = al at hr
    cases hr with | cons r1 hr => cases hr with | cons r2 hr => cases hr with | nil =>
    refine .tup ?_
    rw [hal]
    exact .cons (formI.rel h1 σ _ r1) (.cons (formI.rel h2 σ _ r2) .nil)
  low := fun _ => rfl
def formI4 : Form (Int × Int × Int × Int) where
  get := fun
    | .tup [a, b, c, d] => match formI.get a, formI.get b, formI.get c, formI.get d with
      | some x, some y, some z, some t => some (x, y, z, t)
      | _, _, _, _ => none
    | _ => none
  val := fun x => .tup [.i false .i64 x.1, .i false .i64 x.2.1, .i false .i64 x.2.2.1, .i false .i64 x.2.2.2]
  rel := fun {v x} h σ y r => by
    split at h <;> (try (cases h; done))
    split at h <;> cases h
    rename_i a b c d x1 x2 x3 x4 h1 h2 h3 h4
    cases r with | tup hr =>
    generalize hal : Array.toList _ = al at hr
    cases hr with | cons r1 hr => cases hr with | cons r2 hr => cases hr with | cons r3 hr => cases hr with | cons r4 hr => cases hr with | nil =>
    refine .tup ?_
    rw [hal]
    exact .cons (formI.rel h1 σ _ r1) (.cons (formI.rel h2 σ _ r2) (.cons (formI.rel h3 σ _ r3) (.cons (formI.rel h4 σ _ r4) .nil)))
  low := fun _ => rfl
theorem drawSlit_nd (c : Cd) : ((drawEx formI3 (tabG 7 6 [.sl false 0 c.off c.len 0] [codeB c false] [] fun v H nd => .ret v H nd)).map fun r => r.2) = some (List.replicate 55 (okB c c.off c.len)) := by kernel_rfl
theorem drawSlit_ok {c : Cd} (hc : goodB c = true) : ∃ x : Int × Int × Int, DrawOK Tryz.prog 6 c (formI3.val x) := drawOK_some (F := formI3) (tabG_sound 7) hc (drawSlit_nd c)
theorem drawDisc_nd (c : Cd) : ((drawEx formI4 (tabG 7 11 [.sl false 0 c.off c.len 0] [codeB c false] [] fun v H nd => .ret v H nd)).map fun r => r.2) = some (List.replicate 999 (okB c c.off c.len)) := by kernel_rfl
theorem drawDisc_ok {c : Cd} (hc : goodB c = true) : ∃ x : Int × Int × Int × Int, DrawOK Tryz.prog 11 c (formI4.val x) := drawOK_some (F := formI4) (tabG_sound 7) hc (drawDisc_nd c)
theorem drawGrating_nd (c : Cd) : ((drawEx formI3 (tabG 7 15 [.sl false 0 c.off c.len 0] [codeB c false] [] fun v H nd => .ret v H nd)).map fun r => r.2) = some (List.replicate 55 (okB c c.off c.len)) := by kernel_rfl
theorem drawGrating_ok {c : Cd} (hc : goodB c = true) : ∃ x : Int × Int × Int, DrawOK Tryz.prog 15 c (formI3.val x) := drawOK_some (F := formI3) (tabG_sound 7) hc (drawGrating_nd c)
theorem drawCheck_nd (c : Cd) : ((drawEx formI2 (tabG 7 18 [.sl false 0 c.off c.len 0] [codeB c false] [] fun v H nd => .ret v H nd)).map fun r => r.2) = some (List.replicate 44 (okB c c.off c.len)) := by kernel_rfl
theorem drawCheck_ok {c : Cd} (hc : goodB c = true) : ∃ x : Int × Int, DrawOK Tryz.prog 18 c (formI2.val x) := drawOK_some (F := formI2) (tabG_sound 7) hc (drawCheck_nd c)
theorem drawZone_nd (c : Cd) : ((drawEx formI4 (tabG 7 21 [.sl false 0 c.off c.len 0] [codeB c false] [] fun v H nd => .ret v H nd)).map fun r => r.2) = some (List.replicate 999 (okB c c.off c.len)) := by kernel_rfl
theorem drawZone_ok {c : Cd} (hc : goodB c = true) : ∃ x : Int × Int × Int × Int, DrawOK Tryz.prog 21 c (formI4.val x) := drawOK_some (F := formI4) (tabG_sound 7) hc (drawZone_nd c)
theorem drawBlazed_nd (c : Cd) : ((drawEx formI3 (tabG 7 24 [.sl false 0 c.off c.len 0] [codeB c false] [] fun v H nd => .ret v H nd)).map fun r => r.2) = some (List.replicate 264 (okB c c.off c.len)) := by kernel_rfl
theorem drawBlazed_ok {c : Cd} (hc : goodB c = true) : ∃ x : Int × Int × Int, DrawOK Tryz.prog 24 c (formI3.val x) := drawOK_some (F := formI3) (tabG_sound 7) hc (drawBlazed_nd c)
theorem drawLens_nd (c : Cd) : ((drawEx formI4 (tabG 7 27 [.sl false 0 c.off c.len 0] [codeB c false] [] fun v H nd => .ret v H nd)).map fun r => r.2) = some (List.replicate 1295 (okB c c.off c.len)) := by kernel_rfl
theorem drawLens_ok {c : Cd} (hc : goodB c = true) : ∃ x : Int × Int × Int × Int, DrawOK Tryz.prog 27 c (formI4.val x) := drawOK_some (F := formI4) (tabG_sound 7) hc (drawLens_nd c)
theorem drawTurn_nd (c : Cd) : ((drawEx formW (tabG 7 30 [.sl false 0 c.off c.len 0] [codeB c false] [] fun v H nd => .ret v H nd)).map fun r => r.2) = some (List.replicate 2 (okB c c.off c.len)) := by kernel_rfl
theorem drawTurn_ok {c : Cd} (hc : goodB c = true) : ∃ x : Int × (Nat → Nat × Nat), DrawOK Tryz.prog 30 c (formW.val x) := drawOK_some (F := formW) (tabG_sound 7) hc (drawTurn_nd c)
end Go.Ax

/- What a drawing function gives, as a row. -/
namespace Go.Ax
open Go Go.Proofs

noncomputable def drawV {α : Type} [Inhabited α] (F : Form α) (f : FuncId) (c : Cd) : α := open Classical in if hx : ∃ x, DrawOK Tryz.prog f c (F.val x) then hx.choose else default
theorem drawV_ok {α : Type} [Inhabited α] {F : Form α} {f : FuncId} {c : Cd} (h : ∃ x, DrawOK Tryz.prog f c (F.val x)) : DrawOK Tryz.prog f c (F.val (drawV F f c)) := by
  unfold drawV
  rw [dif_pos h]
  exact h.choose_spec
noncomputable def drawT {α : Type} [Inhabited α] (F : Form α) : Table := fun f args H nd K =>
  match args, H with
  | [s], B :: _ => match readSl s, readCode B with
    | some (o, n), some (o', b) => K (F.val (drawV F f ⟨b, o', n⟩)) H (okB ⟨b, o', n⟩ o n :: nd)
    | _, _ => .fail
  | _, _ => .fail
theorem drawT_at {α : Type} [Inhabited α] {F : Form α} {f : FuncId} (h : ∀ c, goodB c = true → ∃ x, DrawOK Tryz.prog f c (F.val x)) : SoundAt Tryz.prog f (drawT F) := fun args H nd K => by
  unfold drawT
  split
  case h_2 => exact .inl rfl
  rename_i s B Hr
  split
  case h_2 => exact .inl rfl
  rename_i o n o' b hs hb
  refine .inr ⟨_, _, _, rfl, fun hn => ?_⟩
  simp only [allT, Bool.and_eq_true, okB] at hn
  obtain ⟨⟨⟨hg, ho⟩, _⟩, hnd⟩ := hn
  have ho : o = o' := of_decide_eq_true ho
  subst ho
  refine ⟨hnd, ?_⟩
  obtain ⟨l, rfl⟩ := readSl_spec hs
  have hB := readCode_spec hb
  subst hB
  exact (drawV_ok (h _ hg) Hr).bare (args' := [.sl l 0 o n 0]) rfl
end Go.Ax
