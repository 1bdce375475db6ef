/- Blocks that are out of use dropped. -/
import Derived.Test.YtdcjjibekhcplaaEad
import Derived.Test.YtdcjjibekhcplaaProg
import Derived.KernelRfl
namespace Go.Ax
open Go

def renI (k i : Nat) : Option Nat := match decide (i < k) with
  | true => some i
  | false => match decide (i = k) with
    | true => none
    | false => some (i - 1)
mutual
def renV (k : Nat) : AV → AV
  | .p l id off => match renI k id with
    | some j => .p l j off
    | none => .any
  | .sl l id off len z => match renI k id with
    | some j => .sl l j off len z
    | none => .any
  | .fn g f c => .fn g (renL k f) (renL k c)
  | .ifc t v => .ifc t (renV k v)
  | .agg l => .agg (renL k l)
  | .tup l => .tup (renL k l)
  | v => v
def renL (k : Nat) : List AV → List AV
  | [] => []
  | a :: l => renV k a :: renL k l
end
def renB (k : Nat) : AB → AB
  | .cells r (.lit l) => .cells r (.lit (renL k l))
  | b => b
def dropB (k0 : Nat) : Nat → List AB → List AB
  | _, [] => []
  | 0, _ :: l => l.map (renB k0)
  | k + 1, a :: l => renB k0 a :: dropB k0 k l
def dropS : Nat → List (Nat × Nat) → List (Nat × Nat)
  | _, [] => []
  | 0, _ :: l => l
  | k + 1, a :: l => a :: dropS k l

theorem dropS_get : ∀ (k i : Nat) (l : List (Nat × Nat)), (dropS k l)[i]? = if i < k then l[i]? else l[i + 1]?
  | k, i, [] => by cases k <;> simp [dropS]
  | 0, i, a :: l => by simp [dropS]
  | k + 1, 0, a :: l => by simp [dropS]
  | k + 1, i + 1, a :: l => by simp only [dropS, List.getElem?_cons_succ, dropS_get k i l, Nat.add_lt_add_iff_right]
theorem dropB_get (k0 : Nat) : ∀ (k i : Nat) (l : List AB), getB (dropB k0 k l) i = renB k0 (getB l (if i < k then i else i + 1))
  | k, i, [] => by cases k <;> simp [dropB, getB, renB]
  | 0, i, a :: l => by
    have : ∀ (l : List AB) (i : Nat), getB (l.map (renB k0)) i = renB k0 (getB l i) := by
      intro l
      induction l with
      | nil => intro i; rfl
      | cons a l ih => intro i; cases i with
        | zero => rfl
        | succ i => exact ih i
    simp only [dropB, Nat.not_lt_zero, if_false, getB]
    exact this l i
  | k + 1, 0, a :: l => by simp [dropB, getB]
  | k + 1, i + 1, a :: l => by
    simp only [dropB, getB, Nat.add_lt_add_iff_right]
    rw [dropB_get k0 k i l]
    split <;> rfl
theorem dropS_length : ∀ (k : Nat) (l : List (Nat × Nat)), k < l.length → (dropS k l).length + 1 = l.length
  | _, [], h => by simp at h
  | 0, _ :: l, _ => rfl
  | k + 1, _ :: l, h => by simp only [dropS, List.length_cons]; rw [dropS_length k l (by simpa using h)]
theorem dropB_length (k0 : Nat) : ∀ (k : Nat) (l : List AB), k < l.length → (dropB k0 k l).length + 1 = l.length
  | _, [], h => by simp at h
  | 0, _ :: l, _ => by simp [dropB]
  | k + 1, _ :: l, h => by simp only [dropB, List.length_cons]; rw [dropB_length k0 k l (by simpa using h)]

theorem renI_get {k i j : Nat} {σ : List (Nat × Nat)} {b : Nat × Nat} (h : renI k i = some j) (hb : σ[i]? = some b) : (dropS k σ)[j]? = some b := by
  unfold renI at h
  split at h
  · cases h
    rename_i hlt
    rw [dropS_get, if_pos (by simpa using hlt)]; exact hb
  · rename_i h1
    have h1 : ¬ i < k := of_decide_eq_false h1
    split at h
    · cases h
    · rename_i h2
      have h2 : ¬ i = k := of_decide_eq_false h2
      cases h
      rw [dropS_get, if_neg (by omega), show i - 1 + 1 = i by omega]; exact hb
mutual
theorem renV_rel {k : Nat} {σ : List (Nat × Nat)} : ∀ {a : AV} {v : Value}, Rel σ a v → Rel (dropS k σ) (renV k a) v
  | _, _, .b x => .b x
  | _, _, .i k n => .i k n
  | _, _, .f h => .f h
  | _, _, .c h h' => .c h h'
  | _, _, .s l => .s l
  | _, _, .p (id := id) h => by
    simp only [renV]
    split
    · rename_i j hj; exact .p (renI_get hj h)
    · exact .any
  | _, _, .pnil => .pnil
  | _, _, .sl (id := id) h hc hz => by
    simp only [renV]
    split
    · rename_i j hj; exact .sl (renI_get hj h) hc hz
    · exact .any
  | _, _, .slz (id := id) => by
    simp only [renV]
    split
    · exact .slz
    · exact .any
  | _, _, .slnil => .slnil
  | _, _, .sle => .sle
  | _, _, .fn h h' => .fn (renL_rel h) (renL_rel h')
  | _, _, .fnil => .fnil
  | _, _, .ifc h => .ifc (renV_rel h)
  | _, _, .inil => .inil
  | _, _, .agg h => .agg (renL_rel h)
  | _, _, .tup h => .tup (renL_rel h)
  | _, _, .any => .any
theorem renL_rel {k : Nat} {σ : List (Nat × Nat)} : ∀ {a : List AV} {v : List Value}, RelL σ a v → RelL (dropS k σ) (renL k a) v
  | _, _, .nil => .nil
  | _, _, .cons h hs => .cons (renV_rel h) (renL_rel hs)
end
theorem renL_map (k : Nat) : ∀ (l : List AV), renL k l = l.map (renV k)
  | [] => rfl
  | a :: l => by simp [renL, renL_map k l]
theorem renB_rw (k : Nat) (B : AB) : (renB k B).rw = B.rw ∧ (renB k B).live = B.live := by
  cases B with
  | dead => exact ⟨rfl, rfl⟩
  | cells r A => cases A <;> exact ⟨rfl, rfl⟩
  | code _ _ => exact ⟨rfl, rfl⟩
theorem renB_blk {k : Nat} {σ : List (Nat × Nat)} {z : Nat} {B : AB} {o : Option Obj} (h : BlkRel σ z B o) : BlkRel (dropS k σ) z (renB k B) o := by
  cases B with
  | dead => trivial
  | code _ _ => exact h
  | cells r A =>
    obtain ⟨c, e, fr, h1, h2, h3⟩ := h
    have scal : ∀ {x : AV}, (∀ (y : Value), Rel σ x y → Rel (dropS k σ) x y) → ∀ (y : Value), Rel σ x y → Rel (dropS k σ) x y := fun h => h
    cases A with
    | lit l =>
      refine ⟨c, e, fr, h1, fun j a ha => ?_, h3⟩
      simp only [Cells.toL, renL_map, List.getElem?_map, Option.map_eq_some_iff] at ha
      obtain ⟨a0, ha0, rfl⟩ := ha
      obtain ⟨v, hv, hr⟩ := h2 j a0 ha0
      exact ⟨v, hv, renV_rel hr⟩
    | _ =>
      refine ⟨c, e, fr, h1, fun j a ha => ?_, h3⟩
      obtain ⟨v, hv, hr⟩ := h2 j a ha
      refine ⟨v, hv, ?_⟩
      simp only [Cells.toL, List.getElem?_map, Option.map_eq_some_iff] at ha
      obtain ⟨y, _, rfl⟩ := ha
      have := renV_rel (k := k) hr
      exact this

section
variable {P : Program}
theorem drop_sim {σ σ1 : List (Nat × Nat)} {H H1 : List AB} {w w' : World} (hσ : σ.length = H.length) (s1 : Sim σ1 H1 w') (f1 : Fr σ H w σ1 H1 w') (k : Nat) (hk : H.length ≤ k) (hk1 : k < H1.length) :
    Sim (dropS k σ1) (dropB k k H1) w' ∧ Fr σ H w (dropS k σ1) (dropB k k H1) w' := by
  have hk2 : k < σ1.length := by rw [s1.len]; exact hk1
  have hkσ : σ.length ≤ k := by rw [hσ]; exact hk
  refine ⟨⟨?_, fun i b z hb => ?_, fun i j b z z' hi hj hr hl => ?_⟩, ?_⟩
  · have h1 := dropS_length k σ1 hk2
    have h2 := dropB_length k k H1 hk1
    have h3 := s1.len
    omega
  · rw [dropB_get]
    rw [dropS_get] at hb
    by_cases hik : i < k
    · rw [if_pos hik] at hb ⊢; exact renB_blk (s1.blk i b z hb)
    · rw [if_neg hik] at hb ⊢; exact renB_blk (s1.blk (i + 1) b z hb)
  · rw [dropB_get, (renB_rw _ _).1] at hr
    rw [dropB_get, (renB_rw _ _).2] at hl
    rw [dropS_get] at hi hj
    have hi' : σ1[if i < k then i else i + 1]? = some (b, z) := by split <;> simp_all
    have hj' : σ1[if j < k then j else j + 1]? = some (b, z') := by split <;> simp_all
    have := s1.inj _ _ b z z' hi' hj' hr hl
    split at this <;> split at this <;> omega
  · refine ⟨f1.os, f1.tape, f1.output, f1.size, f1.old, fun i x hx => ?_, fun i b z hb hn => ?_, fun i hi hr => ?_⟩
    · have hlt := isSome_lt hx
      rw [dropS_get, if_pos (by omega)]
      exact f1.ext i x hx
    · rw [dropS_get] at hb
      have hlt : σ.length ≤ i := by
        rcases Nat.lt_or_ge i σ.length with h' | h'
        · rw [List.getElem?_eq_getElem h'] at hn; cases hn
        · exact h'
      split at hb
      · exact f1.new i b z hb hn
      · exact f1.new (i + 1) b z hb (List.getElem?_eq_none (by omega))
    · rw [dropB_get, if_pos (by omega), (renB_rw _ _).1] at hr
      exact f1.mono i hi hr
/-- A block made on the way is dropped, and what names it. -/
theorem Reach.drop {todo todo' : List Item} {t t1 : List AV} {H H1 : List AB} (h : Reach P todo t H todo' t1 H1) (k : Nat) (hk : H.length ≤ k) (hk1 : k < H1.length) :
    Reach P todo t H todo' (renL k t1) (dropB k k H1) := fun σ w a b cs s r => by
  obtain ⟨a', w', σ1, e1, r1, d1, s1, f1⟩ := h σ w a b cs s r
  obtain ⟨s2, f2⟩ := drop_sim s.len s1 f1 k hk hk1
  exact ⟨a', w', dropS k σ1, e1, renL_rel r1, d1, s2, f2⟩
theorem CallOK.drop {f : FuncId} {args : List AV} {v : AV} {H H1 : List AB} (h : CallOK P f args H v H1) (k : Nat) (hk : H.length ≤ k) (hk1 : k < H1.length) : CallOK P f args H (renV k v) (dropB k k H1) := fun σ w rargs s hra => by
  refine (h σ w rargs s hra).mono ?_
  rintro e w' ⟨rv, rfl, σ1, r1, s1, f1⟩
  obtain ⟨s2, f2⟩ := drop_sim s.len s1 f1 k hk hk1
  exact ⟨rv, rfl, dropS k σ1, renV_rel r1, s2, f2⟩

/-- Places whose value is of no further use. -/
def blur : List Bool → List AV → List AV
  | m :: ms, a :: l => (match m with
    | true => .any
    | false => a) :: blur ms l
  | _, l => l
theorem blur_length : ∀ (m : List Bool) (l : List AV), (blur m l).length = l.length
  | [], l => by cases l <;> rfl
  | _ :: _, [] => rfl
  | _ :: ms, _ :: l => by simp [blur, blur_length ms l]
theorem blur_eqv : ∀ (m : List Bool) (l : List AV), Eqv l (blur m l)
  | [], l => by cases l <;> exact Eqv.refl _
  | _ :: _, [] => Eqv.refl _
  | m :: ms, a :: l => by
    refine ⟨by rw [blur_length], fun σ n v r => ?_⟩
    cases n with
    | zero =>
      simp only [blur, getL] at r ⊢
      cases m
      · exact r
      · exact .any
    | succ n =>
      simp only [blur, getL] at r ⊢
      exact (blur_eqv ms l).2 σ n v r
end
end Go.Ax

/- Memories that say the same. -/
namespace Go.Ax
open Go

/-! ### Memories that say the same -/
def HEq (H G : List AB) : Prop := H.length = G.length ∧ ∀ i, (getB H i).rw = (getB G i).rw ∧ (getB H i).live = (getB G i).live ∧ ∀ σ z o, BlkRel σ z (getB H i) o → BlkRel σ z (getB G i) o
theorem HEq.sim {σ : List (Nat × Nat)} {H G : List AB} {w : World} (e : HEq H G) (s : Sim σ H w) : Sim σ G w :=
  ⟨by rw [s.len, e.1], fun i b z hb => (e.2 i).2.2 _ _ _ (s.blk i b z hb), fun i j b z z' hi hj hr hl => s.inj i j b z z' hi hj (by rw [(e.2 i).1]; exact hr) (by rw [(e.2 j).2.1]; exact hl)⟩
theorem HEq.refl (H : List AB) : HEq H H := ⟨rfl, fun _ => ⟨rfl, rfl, fun _ _ _ h => h⟩⟩
theorem HEq.cons {A B : AB} {H G : List AB} (h : A.rw = B.rw ∧ A.live = B.live ∧ ∀ σ z o, BlkRel σ z A o → BlkRel σ z B o) (k : HEq H G) : HEq (A :: H) (B :: G) :=
  ⟨by simp [k.1], fun i => by cases i with
    | zero => exact h
    | succ i => exact k.2 i⟩
theorem HEq.fr {σ σ' : List (Nat × Nat)} {H G H' : List AB} {w w' : World} (e : HEq G H') (F : Fr σ H w σ' G w') : Fr σ H w σ' H' w' :=
  ⟨F.os, F.tape, F.output, F.size, F.old, F.ext, F.new, fun i hi hr => F.mono i hi (by rw [(e.2 i).1]; exact hr)⟩
theorem Reach.post {P : Program} {todo todo' : List Item} {t t' : List AV} {H G H' : List AB} (h : Reach P todo t H todo' t' G) (e : HEq G H') : Reach P todo t H todo' t' H' := fun σ w a b cs s r =>
  let ⟨a', w', σ', h1, h2, h3, h4, h5⟩ := h σ w a b cs s r; ⟨a', w', σ', h1, h2, h3, e.sim h4, e.fr h5⟩
theorem relA_bare {σ : List (Nat × Nat)} {A B : List AV} {c : Array Value} (h : A.map AV.bare = B.map AV.bare) (r : RelA σ A c) : RelA σ B c := fun j a ha => by
  have hj := congrArg (·[j]?) h
  simp only [List.getElem?_map, ha, Option.map_some] at hj
  cases hA : A[j]? with
  | none => rw [hA] at hj; cases hj
  | some x =>
    rw [hA] at hj
    obtain ⟨v, hv, hr⟩ := r j x hA
    simp only [Option.map_some, Option.some.injEq] at hj
    exact ⟨v, hv, Rel.unbare (hj ▸ hr.bare)⟩
theorem blk_bare {rw : Bool} {A B : List AV} (h : A.map AV.bare = B.map AV.bare) : (AB.cells rw (.lit A)).rw = (AB.cells rw (.lit B)).rw ∧ (AB.cells rw (.lit A)).live = (AB.cells rw (.lit B)).live ∧ ∀ σ z o, BlkRel σ z (AB.cells rw (.lit A)) o → BlkRel σ z (AB.cells rw (.lit B)) o :=
  ⟨rfl, rfl, fun _ _ _ ⟨c, e, fr, h1, h2, h3⟩ => ⟨c, e, fr, h1, relA_bare h h2, h3⟩⟩
/-- Cells of complex numbers. -/
def cx (X : Nat → Nat × Nat) (j : Nat) : AV := .c false .f32 (X j).1 (X j).2
theorem asC64_bare : ∀ {l : List AV} {xs : List (Nat × Nat)}, asC64 l = some xs → l.map AV.bare = xs.map fun z => .c false .f32 z.1 z.2
  | [], xs, h => by cases h; rfl
  | a :: l, xs, h => by
    unfold asC64 at h
    split at h <;> (try (cases h; done))
    · rename_i e; cases e
    · rename_i x y l' e
      cases e
      split at h <;> cases h
      rename_i r hr
      simp [AV.bare, asC64_bare hr]
theorem map_range_getD {α β : Type} (f : α → β) (d : α) (xs : List α) (n : Nat) (h : xs.length = n) : xs.map f = (List.range n).map fun j => f (xs.getD j d) := by
  subst h
  apply List.ext_getElem?
  intro j
  simp only [List.getElem?_map]
  by_cases hj : j < xs.length
  · simp [hj]
  · simp [hj]
end Go.Ax

/- What all ways of an evaluation come to. -/
namespace Go.Ax
open Go

structure Leaf where
  todo : List Item
  t : List AV
  H : List AB
  nd : List Bool
/-- All ways, where each comes to a place. -/
def Res.stops : Res → List Leaf
  | .stop todo t H nd => [⟨todo, t, H, nd⟩]
  | .ite _ x y => x.stops ++ y.stops
  | .ret _ _ _ => []
  | .fail => []
def Res.allStop : Res → Bool
  | .stop _ _ _ _ => true
  | .ite _ x y => x.allStop && y.allStop
  | .ret _ _ _ => false
  | .fail => false
theorem Res.stops_sel : ∀ {r : Res}, r.allStop = true → ∃ x ∈ r.stops, r.sel = .stop x.todo x.t x.H x.nd
  | .stop todo t H nd, _ => ⟨⟨todo, t, H, nd⟩, by simp [Res.stops], rfl⟩
  | .ite b x y, h => by
    simp only [Res.allStop, Bool.and_eq_true] at h
    cases b with
    | true =>
      obtain ⟨z, h1, h2⟩ := Res.stops_sel h.1
      exact ⟨z, by simp [Res.stops, h1], h2⟩
    | false =>
      obtain ⟨z, h1, h2⟩ := Res.stops_sel h.2
      exact ⟨z, by simp [Res.stops, h1], h2⟩
  | .ret _ _ _, h => by cases h
  | .fail, h => by cases h
/-- What the places have in common: where, what the temporaries hold, and what is to be shown (all of it one Bool). -/
def bareBlur (M : List Bool) (t : List AV) : List AV := (blur M t).map AV.bare
theorem cNext_loop (stop : List Item → Bool) (n : Nat) (c : Code) (k : List Item) : cNext stop (n + 1) (.code (.loop c) :: k) = cNext stop (n + 1) (.inLoop c :: k) := rfl
theorem cupto_loop (P : Program) (T : Table) (stop : List Item → Bool) (n : Nat) (c : Code) (k : List Item) (t : List AV) (H : List AB) : cupto P T stop n (.code (.loop c) :: k) t H = cupto P T stop n (.inLoop c :: k) t H := by
  cases n with
  | zero => rfl
  | succ n =>
    unfold cupto cRun
    rw [cNext_loop stop 99 c k]

def toLp : List Item → List Item
  | .code (.loop c) :: k => .inLoop c :: k
  | l => l
theorem cupto_toLp (P : Program) (T : Table) (stop : List Item → Bool) (n : Nat) (L : List Item) (t : List AV) (H : List AB) : cupto P T stop n (toLp L) t H = cupto P T stop n L t H := by
  unfold toLp
  split
  · exact (cupto_loop P T stop n _ _ t H).symm
  · rfl
/-- The kernel's part of a step from places to places: all ways stop, in memories that can be read. -/
def leafOf {β : Type} (M : List Bool) (fix : List AB → β) (x : Leaf) : List Item × List AV × β := (x.todo, bareBlur M x.t, fix x.H)
def Res.sound1 {α : Type} (r : Res) (get : List AB → Option α) : Bool := r.allStop && r.stops.all fun x => (get x.H).isSome
def Res.nds : Res → List Bool
  | .stop _ _ _ nd => nd
  | .ite _ x y => x.nds ++ y.nds
  | .ret _ _ nd => nd
  | .fail => []
theorem Res.nds_mem : ∀ {r : Res} {x : Leaf}, x ∈ r.stops → ∀ b ∈ x.nd, b ∈ r.nds
  | .stop todo t H nd, x, hx, b, hb => by
    simp only [Res.stops, List.mem_singleton] at hx
    subst hx
    exact hb
  | .ite _ y z, x, hx, b, hb => by
    simp only [Res.stops, List.mem_append] at hx
    simp only [Res.nds, List.mem_append]
    rcases hx with hx | hx
    · exact .inl (Res.nds_mem hx b hb)
    · exact .inr (Res.nds_mem hx b hb)
  | .ret _ _ _, x, hx, _, _ => by cases hx
  | .fail, x, hx, _, _ => by cases hx
theorem allT_of : ∀ {l : List Bool}, (∀ b ∈ l, b = true) → allT l = true
  | [], _ => rfl
  | b :: l, h => by
    rw [allT, Bool.and_eq_true]
    exact ⟨h b (by simp), allT_of fun x hx => h x (by simp [hx])⟩
noncomputable def Res.pack {α β : Type} (r : Res) (M : List Bool) (get : List AB → Option α) (fix : List AB → β) : Bool × List (List Item × List AV × β) × List Bool := (r.sound1 get, r.stops.map (leafOf M fix), r.nds)
def packed {β : Type} (L : List Item) (t : List AV) (fv : β) (m q : Nat) (ok : Bool) : Bool × List (List Item × List AV × β) × List Bool := (true, List.replicate m (L, t, fv), List.replicate q ok)
structure Steps1 {α β : Type} (r : Res) (L : List Item) (M : List Bool) (t : List AV) (get : List AB → Option α) (fix : List AB → β) (fv : β) (m q : Nat) (ok : Bool) : Prop where
  all : r.sound1 get = true
  eqs : r.stops.map (leafOf M fix) = List.replicate m (L, t, fv)
  nds : r.nds = List.replicate q ok
theorem Steps1.of {α β : Type} {r : Res} {L : List Item} {M : List Bool} {t : List AV} {get : List AB → Option α} {fix : List AB → β} {fv : β} {m q : Nat} {ok : Bool} (h : r.pack M get fix = packed L t fv m q ok) : Steps1 r L M t get fix fv m q ok := by
  simp only [Res.pack, packed, Prod.mk.injEq] at h
  exact ⟨h.1, h.2.1, h.2.2⟩
theorem map_mem {α β : Type} {f g : α → β} {l : List α} (h : l.map f = l.map g) {x : α} (hx : x ∈ l) : f x = g x := by
  induction l with
  | nil => cases hx
  | cons a l ih =>
    simp only [List.map_cons, List.cons.injEq] at h
    rcases List.mem_cons.1 hx with rfl | hx
    · exact h.1
    · exact ih h.2 hx
theorem Steps1.reach_sel {α β : Type} {P : Program} {T : Table} {stop : List Item → Bool} {n : Nat} {todo : List Item} {t0 : List AV} {H0 : List AB} {L : List Item} {M : List Bool} {t t' : List AV} {get : List AB → Option α} {fix : List AB → β} {fv : β} {m q : Nat} {ok : Bool} {r : Res} (hT : SoundT P T)
    (h : Steps1 r L M t get fix fv m q ok) (hs : (cupto P T stop n todo t0 H0).sel = r.sel) (hok : ok = true) (ht : t = t'.map AV.bare) : ∃ H x, get H = some x ∧ fix H = fv ∧ Reach P todo t0 H0 L t' H := by
  have hall := h.all
  unfold Res.sound1 at hall
  rw [Bool.and_eq_true] at hall
  obtain ⟨z, h1, h2⟩ := Res.stops_sel hall.1
  rw [← hs] at h2
  have hmem : leafOf M fix z ∈ List.replicate m (L, t, fv) := by
    rw [← h.eqs]
    exact List.mem_map.2 ⟨z, h1, rfl⟩
  have e := List.eq_of_mem_replicate hmem
  simp only [leafOf, Prod.mk.injEq] at e
  obtain ⟨e1, e2, e5⟩ := e
  have e4 : allT z.nd = true := allT_of fun b hb => by
    have := Res.nds_mem h1 b hb
    rw [h.nds, hok] at this
    exact List.eq_of_mem_replicate this
  have e3 := List.all_eq_true.1 hall.2 z h1
  cases hg : get z.H with
  | none => rw [hg] at e3; cases e3
  | some x =>
    refine ⟨z.H, x, hg, e5, ?_⟩
    rw [e1] at h2
    refine ((cupto_reach hT h2 e4).weak (blur_eqv M z.t)).weak (eqv_of_bare ?_)
    rw [← ht, ← e2]; rfl
theorem Steps1.reach {α β : Type} {P : Program} {T : Table} {n : Nat} {todo : List Item} {t0 : List AV} {H0 : List AB} {L : List Item} {M : List Bool} {t t' : List AV} {get : List AB → Option α} {fix : List AB → β} {fv : β} {m q : Nat} {ok : Bool} (hT : SoundT P T)
    (h : Steps1 (cupto P T atLoop n todo t0 H0) L M t get fix fv m q ok) (hok : ok = true) (ht : t = t'.map AV.bare) : ∃ H x, get H = some x ∧ fix H = fv ∧ Reach P todo t0 H0 L t' H := h.reach_sel hT rfl hok ht
/-- The end of a call: results and memory. -/
noncomputable def endOf (P : Program) (rs : List ResultVar) (r : Res) : Option (Option (List AV × List Bool) × List AB × List Bool) :=
  match r with
  | .ret v H nd => match v with
    | .tup t => some (resV P t H rs, H, nd)
    | _ => none
  | _ => none
theorem endOf_ends {P : Program} {T : Table} {stop : List Item → Bool} {n : Nat} {todo : List Item} {t0 : List AV} {H0 : List AB} {rs : List ResultVar} {r : Res} {x : Option (List AV × List Bool)} {H : List AB} {nd : List Bool} (hT : SoundT P T)
    (h : endOf P rs r = some (x, H, nd)) (hs : (cupto P T stop n todo t0 H0).sel = r.sel) (hn : allT nd = true) : ∃ t, Ends P todo t0 H0 t H ∧ resV P t H rs = x := by
  unfold endOf at h
  split at h <;> (try (cases h; done))
  split at h <;> cases h
  exact ⟨_, cupto_ends hT hs hn, rfl⟩

/-! ### One way -/
def Res.isStop : Res → Bool
  | .stop _ _ _ _ => true
  | _ => false
def Res.tOf : Res → List AV
  | .stop _ t _ _ => t
  | _ => []
def Res.HOf : Res → List AB
  | .stop _ _ H _ => H
  | _ => []
theorem Res.isStop_eq : ∀ {r : Res}, r.isStop = true → r = .stop r.todo r.tOf r.HOf r.nds
  | .stop _ _ _ _, _ => rfl
  | .ite _ _ _, h => by cases h
  | .ret _ _ _, h => by cases h
  | .fail, h => by cases h
def atReg (n : Nat) : List Item → Bool
  | .code (.region id _ _) :: _ => Nat.beq id n
  | _ => false
theorem one_reach {P : Program} {T : Table} {stop : List Item → Bool} {n : Nat} {todo : List Item} {t0 : List AV} {H0 : List AB} {r : Res} (hT : SoundT P T) (hr : (cupto P T stop n todo t0 H0).sel = r.sel) (hs : r.isStop = true) (hn : allT r.nds = true) : Reach P todo t0 H0 r.todo r.tOf r.HOf := by
  have e := Res.isStop_eq hs
  have h1 : (cupto P T stop n todo t0 H0).sel = .stop r.todo r.tOf r.HOf r.nds := by
    rw [hr]
    conv => lhs; rw [e]
    rfl
  exact cupto_reach hT h1 hn
end Go.Ax

/- A call's answer along one way through its tests. -/
namespace Go.Ax
open Go

/-- Finite. -/
noncomputable def finB (x : Nat) : Bool := feq .f32 (fsub .f32 x x) 0
def plusF (x : Nat) : Nat := bif feq .f32 x 0 then 0 else x
/-- What must hold along a way. -/
def condsP : Res → List Bool → List Bool
  | .ite b x y, d :: l => match d with
    | true => b :: condsP x l
    | false => (!b) :: condsP y l
  | _, _ => []
theorem sel_of_conds : ∀ (r : Res) (l : List Bool), allT (condsP r l) = true → r.sel = (r.at l).sel
  | .ite b x y, d :: l, h => by
    cases d with
    | true =>
      simp only [condsP, allT, Bool.and_eq_true] at h
      simp only [Res.sel, Res.at, h.1, if_true]
      exact sel_of_conds x l h.2
    | false =>
      simp only [condsP, allT, Bool.and_eq_true, Bool.not_eq_true'] at h
      simp only [Res.sel, Res.at, h.1]
      exact sel_of_conds y l h.2
  | .ite _ _ _, [], _ => rfl
  | .ret _ _ _, _, _ => by simp [Res.at]
  | .stop _ _ _ _, _, _ => by simp [Res.at]
  | .fail, _, _ => by simp [Res.at]
noncomputable def lfM (M : List Bool) (r : Res) : Bool × List Item × List AV × List AB × List Bool := (r.isStop, r.todo, bareBlur M r.tOf, r.HOf, r.nds)
theorem isStop_at {r : Res} {L : List Bool} (h : (r.at L).isStop = true) (hc : allT (condsP r L) = true) : r.sel = .stop (r.at L).todo (r.at L).tOf (r.at L).HOf (r.at L).nds := by
  rw [sel_of_conds r L hc]
  conv => lhs; rw [Res.isStop_eq h]
  rfl
end Go.Ax

/- What is known of a call in a small memory holds in every memory that begins with it. -/
namespace Go.Ax
open Go

mutual
/-- Names from k on are moved up by r. -/
def upV (k r : Nat) : AV → AV
  | .p l id off => .p l (match decide (id < k) with
    | true => id
    | false => id + r) off
  | .sl l id off len z => .sl l (match decide (id < k) with
    | true => id
    | false => id + r) off len z
  | .fn g f c => .fn g (upL k r f) (upL k r c)
  | .ifc t v => .ifc t (upV k r v)
  | .agg l => .agg (upL k r l)
  | .tup l => .tup (upL k r l)
  | v => v
def upL (k r : Nat) : List AV → List AV
  | [] => []
  | a :: l => upV k r a :: upL k r l
end
def upB (k r : Nat) : AB → AB
  | .cells rw (.lit l) => .cells rw (.lit (upL k r l))
  | b => b
def upH (k r : Nat) : List AB → List AB
  | [] => []
  | b :: l => upB k r b :: upH k r l
theorem upL_map (k r : Nat) : ∀ (l : List AV), upL k r l = l.map (upV k r)
  | [] => rfl
  | a :: l => by simp [upL, upL_map k r l]
theorem upH_get (k r : Nat) : ∀ (l : List AB) (i : Nat), getB (upH k r l) i = upB k r (getB l i)
  | [], _ => rfl
  | _ :: _, 0 => rfl
  | _ :: l, i + 1 => upH_get k r l i
theorem upH_length (k r : Nat) : ∀ (l : List AB), (upH k r l).length = l.length
  | [] => rfl
  | _ :: l => by simp [upH, upH_length k r l]
theorem upB_rw (k r : Nat) (B : AB) : (upB k r B).rw = B.rw ∧ (upB k r B).live = B.live := by
  cases B with
  | dead => exact ⟨rfl, rfl⟩
  | cells r A => cases A <;> exact ⟨rfl, rfl⟩
  | code _ _ => exact ⟨rfl, rfl⟩

section
variable {σ τ : List (Nat × Nat)} {k r : Nat}
def Up (k r : Nat) (σ τ : List (Nat × Nat)) : Prop := ∀ (i : Nat) (b : Nat × Nat), σ[i]? = some b → τ[if i < k then i else i + r]? = some b
theorem up_get (u : Up k r σ τ) {i : Nat} {b : Nat × Nat} (h : σ[i]? = some b) : τ[match decide (i < k) with
    | true => i
    | false => i + r]? = some b := by
  have := u i b h
  by_cases hi : i < k
  · simp only [hi, decide_true, if_true] at this ⊢; exact this
  · simp only [hi, decide_false, if_false] at this ⊢; exact this
mutual
theorem upV_rel (u : Up k r σ τ) : ∀ {a : AV} {v : Value}, Rel σ a v → Rel τ (upV k r a) v
  | _, _, .b x => .b x
  | _, _, .i k n => .i k n
  | _, _, .f h => .f h
  | _, _, .c h h' => .c h h'
  | _, _, .s l => .s l
  | _, _, .p h => .p (up_get u h)
  | _, _, .pnil => .pnil
  | _, _, .sl h hc hz => .sl (up_get u h) hc hz
  | _, _, .slz => .slz
  | _, _, .slnil => .slnil
  | _, _, .sle => .sle
  | _, _, .fn h h' => .fn (upL_rel u h) (upL_rel u h')
  | _, _, .fnil => .fnil
  | _, _, .ifc h => .ifc (upV_rel u h)
  | _, _, .inil => .inil
  | _, _, .agg h => .agg (upL_rel u h)
  | _, _, .tup h => .tup (upL_rel u h)
  | _, _, .any => .any
theorem upL_rel (u : Up k r σ τ) : ∀ {a : List AV} {v : List Value}, RelL σ a v → RelL τ (upL k r a) v
  | _, _, .nil => .nil
  | _, _, .cons h hs => .cons (upV_rel u h) (upL_rel u hs)
end
theorem upB_blk (u : Up k r σ τ) {z : Nat} {B : AB} {o : Option Obj} (h : BlkRel σ z B o) : BlkRel τ z (upB k r B) o := by
  cases B with
  | dead => trivial
  | code _ _ => exact h
  | cells rw A =>
    obtain ⟨c, e, fr, h1, h2, h3⟩ := h
    cases A with
    | lit l =>
      refine ⟨c, e, fr, h1, fun j a ha => ?_, h3⟩
      simp only [Cells.toL, upL_map, List.getElem?_map, Option.map_eq_some_iff] at ha
      obtain ⟨a0, ha0, rfl⟩ := ha
      obtain ⟨v, hv, hr⟩ := h2 j a0 ha0
      exact ⟨v, hv, upV_rel u hr⟩
    | _ =>
      refine ⟨c, e, fr, h1, fun j a ha => ?_, h3⟩
      obtain ⟨v, hv, hr⟩ := h2 j a ha
      refine ⟨v, hv, ?_⟩
      simp only [Cells.toL, List.getElem?_map, Option.map_eq_some_iff] at ha
      obtain ⟨y, _, rfl⟩ := ha
      have := upV_rel u hr
      exact this
end

def allLive : List AB → Bool
  | [] => true
  | b :: l => b.live && allLive l
theorem allLive_get : ∀ {l : List AB}, allLive l = true → ∀ i, i < l.length → (getB l i).live = true
  | [], _, i, h => by simp at h
  | b :: l, hl, 0, _ => by simp only [allLive, Bool.and_eq_true] at hl; exact hl.1
  | b :: l, hl, i + 1, h => by
    simp only [allLive, Bool.and_eq_true] at hl
    exact allLive_get hl.2 i (by simpa using h)

def lowB (n : Nat) : AB → Bool
  | .cells _ (.lit l) => belowL n l
  | _ => true
def lowH (n : Nat) : List AB → Bool
  | [] => true
  | b :: l => lowB n b && lowH n l
theorem lowH_get {n : Nat} : ∀ {l : List AB}, lowH n l = true → ∀ i, lowB n (getB l i) = true
  | [], _, i => rfl
  | b :: l, hl, 0 => by simp only [lowH, Bool.and_eq_true] at hl; exact hl.1
  | b :: l, hl, i + 1 => by
    simp only [lowH, Bool.and_eq_true] at hl
    exact lowH_get hl.2 i
theorem belowL_get {n : Nat} : ∀ {l : List AV}, belowL n l = true → ∀ (j : Nat) (a : AV), l[j]? = some a → below n a = true
  | [], _, j, a, h => by simp at h
  | x :: l, hl, 0, a, h => by
    simp only [belowL, Bool.and_eq_true] at hl
    simp at h; subst h; exact hl.1
  | x :: l, hl, j + 1, a, h => by
    simp only [belowL, Bool.and_eq_true] at hl
    exact belowL_get hl.2 j a (by simpa using h)
theorem low_blk {σ τ : List (Nat × Nat)} {n z : Nat} (e : Ext σ τ) (hn : σ.length = n) {B : AB} {o : Option Obj} (hb : lowB n B = true) (h : BlkRel τ z B o) : BlkRel σ z B o := by
  cases B with
  | dead => trivial
  | code _ _ => exact h
  | cells rw A =>
    obtain ⟨c, t, fr, h1, h2, h3⟩ := h
    refine ⟨c, t, fr, h1, fun j a ha => ?_, h3⟩
    obtain ⟨v, hv, hr⟩ := h2 j a ha
    refine ⟨v, hv, below_rel e hn ?_ hr⟩
    cases A with
    | lit l => exact belowL_get hb j a ha
    | _ =>
      simp only [Cells.toL, List.getElem?_map, Option.map_eq_some_iff] at ha
      obtain ⟨y, _, rfl⟩ := ha
      rfl

/-- The memory behind a call: the old part, what was besides it, and what is new. -/
def frameH (H0 Hr H1 : List AB) : List AB := upH H0.length Hr.length (H1.take H0.length) ++ (Hr ++ upH H0.length Hr.length (H1.drop H0.length))

theorem getB_take : ∀ (l : List AB) (k i : Nat), i < k → getB (l.take k) i = getB l i
  | [], k, i, _ => by simp
  | _ :: _, 0, _, h => by omega
  | _ :: _, k + 1, 0, _ => rfl
  | _ :: l, k + 1, i + 1, h => getB_take l k i (by omega)
theorem getB_drop : ∀ (l : List AB) (k i : Nat), getB (l.drop k) i = getB l (k + i)
  | [], k, i => by simp [getB]
  | _ :: _, 0, i => by simp
  | _ :: l, k + 1, i => by
    rw [List.drop_succ_cons, getB_drop l k i, show k + 1 + i = (k + i) + 1 by omega]; rfl

variable {P : Program}
theorem CallOK.frame {f : FuncId} {args : List AV} {v : AV} {H0 H1 : List AB} (h : CallOK P f args H0 v H1) (ha : belowL H0.length args = true) (hl : allLive H0 = true) (hlow : lowH H0.length H0 = true) (Hr : List AB) :
    CallOK P f args (H0 ++ Hr) (upV H0.length Hr.length v) (frameH H0 Hr H1) := fun σ w rargs s hra => by
  have hσl : σ.length = H0.length + Hr.length := by rw [s.len]; simp
  have hσ0 : (σ.take H0.length).length = H0.length := by simp; omega
  have t0 : ∀ i, i < H0.length → (σ.take H0.length)[i]? = σ[i]? := fun i hi => List.getElem?_take_of_lt hi
  have l0 : ∀ {i : Nat} {b : Nat × Nat}, (σ.take H0.length)[i]? = some b → i < H0.length := fun hb => by have := isSome_lt hb; omega
  have e0 : Ext (σ.take H0.length) σ := fun i b hb => by rw [← t0 i (l0 hb)]; exact hb
  have g0 : ∀ i, i < H0.length → getB (H0 ++ Hr) i = getB H0 i := fun i hi => getB_append_left hi
  have gr : ∀ i, H0.length ≤ i → getB (H0 ++ Hr) i = getB Hr (i - H0.length) := fun i hi => getB_append_right hi
  have s0 : Sim (σ.take H0.length) H0 w := by
    refine ⟨hσ0, fun i b z hb => ?_, fun i j b z z' hi hj hr hl' => ?_⟩
    · have hbl := s.blk i b z (e0 i _ hb)
      rw [g0 i (l0 hb)] at hbl
      exact low_blk e0 hσ0 (lowH_get hlow i) hbl
    · exact s.inj i j b z z' (e0 i _ hi) (e0 j _ hj) (by rw [g0 i (l0 hi)]; exact hr) (by rw [g0 j (l0 hj)]; exact hl')
  refine (h (σ.take H0.length) w rargs s0 (belowL_rel e0 hσ0 ha hra)).mono ?_
  rintro e w' ⟨rv, rfl, σ1, r1, s1, F⟩
  have hk1 : H0.length ≤ σ1.length := by have := F.ext.length; omega
  have hH1 : H0.length ≤ H1.length := by rw [← s1.len]; exact hk1
  have x1 : ∀ i, i < H0.length → σ1[i]? = σ[i]? := fun i hi => by
    have hi' : i < (σ.take H0.length).length := by omega
    rw [F.ext i _ (List.getElem?_eq_getElem hi'), ← t0 i hi, List.getElem?_eq_getElem hi']
  -- the new naming
  have tl : ∀ i, i < σ.length → (σ ++ σ1.drop H0.length)[i]? = σ[i]? := fun i hi => List.getElem?_append_left hi
  have tr : ∀ i, H0.length ≤ i → (σ ++ σ1.drop H0.length)[i + Hr.length]? = σ1[i]? := fun i hi => by
    rw [List.getElem?_append_right (by omega), List.getElem?_drop]
    congr 1; omega
  have u : Up H0.length Hr.length σ1 (σ ++ σ1.drop H0.length) := fun i b hb => by
    by_cases hi : i < H0.length
    · rw [if_pos hi, tl i (by omega), ← x1 i hi]; exact hb
    · rw [if_neg hi, tr i (by omega)]; exact hb
  have hlenT : (H1.take H0.length).length = H0.length := by simp; omega
  have q0 : ∀ i, i < H0.length → getB (frameH H0 Hr H1) i = upB H0.length Hr.length (getB H1 i) := fun i hi => by
    unfold frameH
    rw [getB_append_left (by rw [upH_length, hlenT]; exact hi), upH_get, getB_take _ _ _ hi]
  have qr : ∀ i, H0.length ≤ i → i < H0.length + Hr.length → getB (frameH H0 Hr H1) i = getB Hr (i - H0.length) := fun i h1 h2 => by
    unfold frameH
    rw [getB_append_right (by rw [upH_length, hlenT]; exact h1), upH_length, hlenT, getB_append_left (by omega)]
  have qn : ∀ i, H0.length ≤ i → getB (frameH H0 Hr H1) (i + Hr.length) = upB H0.length Hr.length (getB H1 i) := fun i h1 => by
    unfold frameH
    rw [getB_append_right (by rw [upH_length, hlenT]; omega), upH_length, hlenT, getB_append_right (by omega), upH_get, getB_drop]
    congr 2; omega
  have hold : ∀ b, b < w.heap.size → (∀ i z, (getB H0 i).rw = true → σ[i]? ≠ some (b, z)) → w'.heap[b]? = w.heap[b]? := fun b hb hno => F.old b hb fun i z hr hi => by
    exact hno i z hr (e0 i _ hi)
  -- a block besides: it stands apart from what was written
  have apart : ∀ i b z, H0.length ≤ i → σ[i]? = some (b, z) → (getB Hr (i - H0.length)).live = true → b < w.heap.size ∧ (∀ j z', (getB H0 j).rw = true → σ[j]? ≠ some (b, z')) := fun i b z hi hb hlv => by
    have hlv' : (getB (H0 ++ Hr) i).live = true := by rw [gr i hi]; exact hlv
    refine ⟨s.lt hb hlv', fun j z' hr hj => ?_⟩
    have hjl : j < H0.length := by
      rcases Nat.lt_or_ge j H0.length with h' | h'
      · exact h'
      · rw [getB_none h'] at hr; cases hr
    have := s.inj j i b z' z hj hb (by rw [g0 j hjl]; exact hr) hlv'
    omega
  have low1 : ∀ i b z, σ1[i]? = some (b, z) → H0.length ≤ i → w.heap.size ≤ b ∨ ∃ j z', j < H0.length ∧ (getB H0 j).rw = true ∧ σ[j]? = some (b, z') := fun i b z hb hi => by
    rcases F.new i b z hb (List.getElem?_eq_none (by omega)) with h' | ⟨j, z', hj, hj'⟩
    · exact .inl h'
    · exact .inr ⟨j, z', l0 hj', hj, e0 j _ hj'⟩
  -- a place in the new naming comes from a place of the call's or from one besides
  have place : ∀ i b z, (σ ++ σ1.drop H0.length)[i]? = some (b, z) → (∃ i1, (i = if i1 < H0.length then i1 else i1 + Hr.length) ∧ σ1[i1]? = some (b, z) ∧ getB (frameH H0 Hr H1) i = upB H0.length Hr.length (getB H1 i1)) ∨
      (H0.length ≤ i ∧ i < H0.length + Hr.length ∧ σ[i]? = some (b, z) ∧ getB (frameH H0 Hr H1) i = getB Hr (i - H0.length)) := fun i b z hb => by
    rcases Nat.lt_or_ge i H0.length with h1 | h1
    · exact .inl ⟨i, by rw [if_pos h1], by rw [x1 i h1, ← tl i (by omega)]; exact hb, q0 i h1⟩
    · rcases Nat.lt_or_ge i (H0.length + Hr.length) with h2 | h2
      · exact .inr ⟨h1, h2, by rw [← tl i (by omega)]; exact hb, qr i h1 h2⟩
      · have hi : i = (i - Hr.length) + Hr.length := by omega
        refine .inl ⟨i - Hr.length, by rw [if_neg (by omega)]; exact hi, ?_, ?_⟩
        · rw [← tr _ (by omega), ← hi]; exact hb
        · rw [hi, qn _ (by omega), ← hi]
  refine ⟨rv, rfl, σ ++ σ1.drop H0.length, upV_rel u r1, ⟨?_, fun i b z hb => ?_, fun i j b z z' hi hj hr hlv => ?_⟩, ⟨F.os, F.tape, F.output, F.size, fun b hb hno => ?_, Ext.append _ _, fun i b z hb hn => ?_, fun i hi hr => ?_⟩⟩
  · simp only [frameH, List.length_append, upH_length, List.length_drop, hlenT, hσl, s1.len]; omega
  · rcases place i b z hb with ⟨i1, _, h1, h2⟩ | ⟨h1, h2, h3, h4⟩
    · rw [h2]; exact upB_blk u (s1.blk i1 b z h1)
    · rw [h4]
      have hbl := s.blk i b z h3
      rw [gr i h1] at hbl
      cases hg : getB Hr (i - H0.length) with
      | dead => trivial
      | cells r A =>
        rw [hg] at hbl
        obtain ⟨p1, p2⟩ := apart i b z h1 h3 (by rw [hg]; rfl)
        rw [hold b p1 p2]
        exact hbl.mono (Ext.append _ _)
      | code o0 xs0 =>
        rw [hg] at hbl
        obtain ⟨p1, p2⟩ := apart i b z h1 h3 (by rw [hg]; rfl)
        rw [hold b p1 p2]
        exact hbl.mono (Ext.append _ _)
  · rcases place i b z hi with ⟨i1, a1, a2, a3⟩ | ⟨a1, a2, a3, a4⟩ <;> rcases place j b z' hj with ⟨j1, b1, b2, b3⟩ | ⟨b1, b2, b3, b4⟩
    · rw [a3, (upB_rw _ _ _).1] at hr
      rw [b3, (upB_rw _ _ _).2] at hlv
      have := s1.inj i1 j1 b z z' a2 b2 hr hlv
      rw [a1, b1, this]
    · exfalso
      rw [b4] at hlv
      obtain ⟨p1, p2⟩ := apart j b z' b1 b3 hlv
      rw [a3, (upB_rw _ _ _).1] at hr
      rcases Nat.lt_or_ge i1 H0.length with hi1 | hi1
      · have := F.mono i1 (by omega) hr
        exact p2 i1 z this (by rw [← x1 i1 hi1]; exact a2)
      · rcases low1 i1 b z a2 hi1 with h' | ⟨j', z2, _, h1, h2⟩
        · omega
        · exact p2 j' z2 h1 h2
    · exfalso
      rw [a4] at hr
      obtain ⟨p1, p2⟩ := apart i b z a1 a3 (rw_live hr)
      have hri : (getB (H0 ++ Hr) i).rw = true := by rw [gr i a1]; exact hr
      rcases Nat.lt_or_ge j1 H0.length with hj1 | hj1
      · have hlj : (getB H0 j1).live = true := allLive_get hl j1 hj1
        have := s.inj i j1 b z z' a3 (by rw [← x1 j1 hj1]; exact b2) hri (by rw [g0 j1 hj1]; exact hlj)
        omega
      · rcases low1 j1 b z' b2 hj1 with h' | ⟨j', z2, _, h1, h2⟩
        · omega
        · exact p2 j' z2 h1 h2
    · rw [a4] at hr
      rw [b4] at hlv
      exact s.inj i j b z z' a3 b3 (by rw [gr i a1]; exact hr) (by rw [gr j b1]; exact hlv)
  · exact hold b hb fun i z hr hi => by
      have hil : i < H0.length := by
        rcases Nat.lt_or_ge i H0.length with h' | h'
        · exact h'
        · rw [getB_none h'] at hr; cases hr
      exact hno i z (by rw [g0 i hil]; exact hr) hi
  · have hge : σ.length ≤ i := by
      rcases Nat.lt_or_ge i σ.length with h' | h'
      · rw [List.getElem?_eq_getElem h'] at hn; cases hn
      · exact h'
    rcases place i b z hb with ⟨i1, a1, a2, _⟩ | ⟨a1, a2, _, _⟩
    · have hi1 : H0.length ≤ i1 := by
        rcases Nat.lt_or_ge i1 H0.length with h' | h'
        · rw [if_pos h'] at a1; omega
        · exact h'
      rcases low1 i1 b z a2 hi1 with h' | ⟨j, z2, hj0, h1, h2⟩
      · exact .inl h'
      · exact .inr ⟨j, z2, by rw [g0 j hj0]; exact h1, h2⟩
    · omega
  · rcases Nat.lt_or_ge i H0.length with h1 | h1
    · rw [q0 i h1, (upB_rw _ _ _).1] at hr
      rw [g0 i h1]
      exact F.mono i (by omega) hr
    · rw [qr i h1 (by omega)] at hr
      rw [gr i h1]; exact hr
end Go.Ax

/- What is known of a call that reads some blocks holds in every memory that has these blocks somewhere. -/
namespace Go.Ax
open Go

mutual
/-- Names turned. -/
def mapV (g : Nat → Nat) : AV → AV
  | .p l id off => .p l (g id) off
  | .sl l id off len z => .sl l (g id) off len z
  | .fn h f c => .fn h (mapL g f) (mapL g c)
  | .ifc t v => .ifc t (mapV g v)
  | .agg l => .agg (mapL g l)
  | .tup l => .tup (mapL g l)
  | v => v
def mapL (g : Nat → Nat) : List AV → List AV
  | [] => []
  | a :: l => mapV g a :: mapL g l
end
def mapB (g : Nat → Nat) : AB → AB
  | .cells rw (.lit l) => .cells rw (.lit (mapL g l))
  | b => b
theorem mapL_map (g : Nat → Nat) : ∀ (l : List AV), mapL g l = l.map (mapV g)
  | [] => rfl
  | a :: l => by simp [mapL, mapL_map g l]
theorem mapB_rw (g : Nat → Nat) (B : AB) : (mapB g B).rw = B.rw ∧ (mapB g B).live = B.live := by
  cases B with
  | dead => exact ⟨rfl, rfl⟩
  | cells r A => cases A <;> exact ⟨rfl, rfl⟩
  | code _ _ => exact ⟨rfl, rfl⟩
section
variable {σ τ : List (Nat × Nat)} {g : Nat → Nat}
def Via (g : Nat → Nat) (σ τ : List (Nat × Nat)) : Prop := ∀ (i : Nat) (b : Nat × Nat), σ[i]? = some b → τ[g i]? = some b
mutual
theorem mapV_rel (u : Via g σ τ) : ∀ {a : AV} {v : Value}, Rel σ a v → Rel τ (mapV g a) v
  | _, _, .b x => .b x
  | _, _, .i k n => .i k n
  | _, _, .f h => .f h
  | _, _, .c h h' => .c h h'
  | _, _, .s l => .s l
  | _, _, .p h => .p (u _ _ h)
  | _, _, .pnil => .pnil
  | _, _, .sl h hc hz => .sl (u _ _ h) hc hz
  | _, _, .slz => .slz
  | _, _, .slnil => .slnil
  | _, _, .sle => .sle
  | _, _, .fn h h' => .fn (mapL_rel u h) (mapL_rel u h')
  | _, _, .fnil => .fnil
  | _, _, .ifc h => .ifc (mapV_rel u h)
  | _, _, .inil => .inil
  | _, _, .agg h => .agg (mapL_rel u h)
  | _, _, .tup h => .tup (mapL_rel u h)
  | _, _, .any => .any
theorem mapL_rel (u : Via g σ τ) : ∀ {a : List AV} {v : List Value}, RelL σ a v → RelL τ (mapL g a) v
  | _, _, .nil => .nil
  | _, _, .cons h hs => .cons (mapV_rel u h) (mapL_rel u hs)
end
/-- Values that name no block, pointers and slices: read back. -/
def plainV (n : Nat) : AV → Bool
  | .p _ id _ => decide (id < n)
  | .sl _ id _ _ _ => decide (id < n)
  | a => below 0 a
theorem below_free {σ τ : List (Nat × Nat)} {a : AV} {v : Value} (h : below 0 a = true) (r : Rel τ a v) : Rel σ a v := (below_rel (σ := []) (n := 0) (τ := τ) (fun i b hb => by simp at hb) rfl h r).mono fun i b hb => by simp at hb
mutual
theorem mapV_low (g : Nat → Nat) : ∀ {a : AV}, below 0 a = true → mapV g a = a
  | .b _ _, _ => rfl
  | .i _ _ _, _ => rfl
  | .f _ _ _, _ => rfl
  | .c _ _ _ _, _ => rfl
  | .s _ _, _ => rfl
  | .p _ id _, h => by simp [below] at h
  | .pnil, _ => rfl
  | .sl _ id _ _ _, h => by simp [below] at h
  | .slnil, _ => rfl
  | .sle, _ => rfl
  | .fn _ f c, h => by
    simp only [below, Bool.and_eq_true] at h
    simp only [mapV, mapL_low g h.1, mapL_low g h.2]
  | .fnil, _ => rfl
  | .ifc _ v, h => by
    simp only [below] at h
    simp only [mapV, mapV_low g h]
  | .inil, _ => rfl
  | .agg l, h => by
    simp only [below] at h
    simp only [mapV, mapL_low g h]
  | .tup l, h => by
    simp only [below] at h
    simp only [mapV, mapL_low g h]
  | .any, _ => rfl
theorem mapL_low (g : Nat → Nat) : ∀ {l : List AV}, belowL 0 l = true → mapL g l = l
  | [], _ => rfl
  | a :: l, h => by
    simp only [belowL, Bool.and_eq_true] at h
    simp only [mapL, mapV_low g h.1, mapL_low g h.2]
end
theorem mapV_back {n : Nat} (u : ∀ i, i < n → σ[i]? = τ[g i]?) {a : AV} {v : Value} (h : plainV n a = true) (r : Rel τ (mapV g a) v) : Rel σ a v := by
  cases a
  case p l id off =>
    simp only [plainV, decide_eq_true_eq] at h
    cases r with | p hr => exact .p (by rw [u id h]; exact hr)
  case sl l id off len z =>
    simp only [plainV, decide_eq_true_eq] at h
    cases r with
    | sl hr hc hz => exact .sl (by rw [u id h]; exact hr) hc hz
    | slz => exact .slz
  all_goals
    rw [mapV_low g h] at r
    exact below_free h r
theorem mapL_back {n : Nat} (u : ∀ i, i < n → σ[i]? = τ[g i]?) : ∀ {a : List AV} {v : List Value}, a.all (plainV n) = true → RelL τ (mapL g a) v → RelL σ a v
  | [], _, _, r => by cases r; exact .nil
  | a :: l, _, h, r => by
    simp only [List.all_cons, Bool.and_eq_true] at h
    simp only [mapL] at r
    cases r with | cons h1 h2 => exact .cons (mapV_back u h.1 h1) (mapL_back u h.2 h2)
theorem mapB_blk (u : Via g σ τ) {z : Nat} {B : AB} {o : Option Obj} (h : BlkRel σ z B o) : BlkRel τ z (mapB g B) o := by
  cases B with
  | dead => trivial
  | code _ _ => exact h
  | cells r A =>
    obtain ⟨c, e, fr, h1, h2, h3⟩ := h
    have key : RelA τ (match A with | .lit l => mapL g l | A => A.toL) c := by
      cases A
      case lit l =>
        intro j a ha
        dsimp only at ha
        rw [mapL_map, List.getElem?_map, Option.map_eq_some_iff] at ha
        obtain ⟨x, hx, rfl⟩ := ha
        obtain ⟨v, hv, hr⟩ := h2 j x hx
        exact ⟨v, hv, mapV_rel u hr⟩
      all_goals
        intro j a ha
        obtain ⟨v, hv, hr⟩ := h2 j a ha
        refine ⟨v, hv, below_free ?_ hr⟩
        simp only [Cells.toL, List.getElem?_map, Option.map_eq_some_iff] at ha
        obtain ⟨y, _, rfl⟩ := ha
        rfl
    cases A <;> exact ⟨c, e, fr, h1, key, h3⟩
end
/-- The name of a block among others: the ones that are read, and new ones. -/
def pickI (k r : Nat) (ids : List Nat) (i : Nat) : Nat :=
  match decide (i < k) with
  | true => ids.getD i 0
  | false => i - k + r
theorem pickI_lt {k r i : Nat} {ids : List Nat} (h : i < k) : pickI k r ids i = ids.getD i 0 := by simp [pickI, h]
theorem pickI_ge {k r i : Nat} {ids : List Nat} (h : k ≤ i) : pickI k r ids i = i - k + r := by simp [pickI, Nat.not_lt.2 h]
theorem getB_map (f : AB → AB) (hf : f .dead = .dead) : ∀ (l : List AB) (i : Nat), getB (l.map f) i = f (getB l i)
  | [], _ => hf.symm
  | _ :: _, 0 => rfl
  | _ :: l, i + 1 => getB_map f hf l i
variable {P : Program}
theorem CallOK.pick {f : FuncId} {args : List AV} {v : AV} {H0 H1 : List AB} (h : CallOK P f args H0 v H1) (hro : ∀ i, (getB H0 i).rw = false) (ha : args.all (plainV H0.length) = true) (ids : List Nat) (hid : ids.length = H0.length) (H : List AB)
    (hb : ∀ i, i < H0.length → ids.getD i 0 < H.length ∧ ∀ (σ τ : List (Nat × Nat)) (z : Nat) (o : Option Obj), BlkRel σ z (getB H (ids.getD i 0)) o → BlkRel τ z (getB H0 i) o) :
    CallOK P f (mapL (pickI H0.length H.length ids) args) H (mapV (pickI H0.length H.length ids) v) (H ++ (H1.drop H0.length).map (mapB (pickI H0.length H.length ids))) := fun σ w rargs s hra => by
  have hσl := s.len
  let σ0 := ids.map fun j => σ.getD j (0, 0)
  have hσ0 : σ0.length = H0.length := by simp [σ0, hid]
  have u0 : ∀ i, i < H0.length → σ0[i]? = σ[pickI H0.length H.length ids i]? := fun i hi => by
    rw [pickI_lt hi]
    have hlt := (hb i hi).1
    have hi' : i < ids.length := by omega
    simp only [σ0, List.getElem?_map, List.getElem?_eq_getElem hi', Option.map_some, List.getD_eq_getElem?_getD, Option.getD_some]
    rw [List.getD_eq_getElem?_getD, List.getElem?_eq_getElem hi', Option.getD_some] at hlt
    rw [List.getElem?_eq_getElem (by omega), Option.getD_some]
  have s0 : Sim σ0 H0 w := by
    refine ⟨hσ0, fun i b z hbz => ?_, fun i j b z z' hi hj hr _ => by rw [hro] at hr; cases hr⟩
    have hi : i < H0.length := by have := isSome_lt hbz; omega
    rw [u0 i hi, pickI_lt hi] at hbz
    exact (hb i hi).2 _ _ _ _ (s.blk _ _ _ hbz)
  refine (h σ0 w rargs s0 (mapL_back u0 ha hra)).mono ?_
  rintro e w' ⟨rv, rfl, σ1, r1, s1, F⟩
  have hold : ∀ b, b < w.heap.size → w'.heap[b]? = w.heap[b]? := fun b hb => F.old b hb fun i z hr => by rw [hro] at hr; cases hr
  have hk1 : H0.length ≤ σ1.length := by have := F.ext.length; omega
  have hl1 := s1.len
  have x1 : ∀ i, i < H0.length → σ1[i]? = σ0[i]? := fun i hi => by
    have hi' : i < σ0.length := by omega
    rw [F.ext i _ (List.getElem?_eq_getElem hi'), List.getElem?_eq_getElem hi']
  have tl : ∀ i, i < σ.length → (σ ++ σ1.drop H0.length)[i]? = σ[i]? := fun i hi => List.getElem?_append_left hi
  have tr : ∀ i, σ.length ≤ i → (σ ++ σ1.drop H0.length)[i]? = σ1[H0.length + (i - σ.length)]? := fun i hi => by
    rw [List.getElem?_append_right hi, List.getElem?_drop]
  have u : Via (pickI H0.length H.length ids) σ1 (σ ++ σ1.drop H0.length) := fun i b hbz => by
    by_cases hi : i < H0.length
    · have hlt := (hb i hi).1
      have e1 := u0 i hi
      rw [pickI_lt hi] at e1 ⊢
      rw [tl _ (by omega), ← e1, ← x1 i hi]; exact hbz
    · rw [pickI_ge (by omega), tr _ (by omega)]
      have : H0.length + (i - H0.length + H.length - σ.length) = i := by omega
      rw [this]; exact hbz
  have ge : ∀ i b z, H0.length ≤ i → σ1[i]? = some (b, z) → w.heap.size ≤ b := fun i b z hi hbz => by
    rcases F.new i b z hbz (List.getElem?_eq_none (by omega)) with h' | ⟨j, z', hj, _⟩
    · exact h'
    · rw [hro] at hj; cases hj
  have gl : ∀ i, i < H.length → getB (H ++ (H1.drop H0.length).map (mapB (pickI H0.length H.length ids))) i = getB H i := fun i hi => getB_append_left hi
  have gr : ∀ i, H.length ≤ i → getB (H ++ (H1.drop H0.length).map (mapB (pickI H0.length H.length ids))) i = mapB (pickI H0.length H.length ids) (getB H1 (H0.length + (i - σ.length))) := fun i hi => by
    rw [getB_append_right hi, getB_map _ rfl, getB_drop, hσl]
  refine ⟨_, rfl, σ ++ σ1.drop H0.length, mapV_rel u r1, ⟨?_, fun i b z hbz => ?_, fun i j b z z' hi hj hri hlj => ?_⟩, ⟨F.os, F.tape, F.output, F.size, fun b hlt _ => hold b hlt, Ext.append _ _, fun i b z hbz hn => ?_, fun i hi hr => ?_⟩⟩
  · simp; omega
  · by_cases hi : i < σ.length
    · rw [tl i hi] at hbz
      rw [gl i (by omega)]
      have hbl := (s.blk i b z hbz).mono (Ext.append σ (σ1.drop H0.length))
      cases hg : getB H i with
      | dead => trivial
      | cells r A =>
        rw [hold b (s.lt hbz (by rw [hg]; rfl)), ← hg]; exact hbl
      | code o xs =>
        rw [hold b (s.lt hbz (by rw [hg]; rfl)), ← hg]; exact hbl
    · rw [tr i (by omega)] at hbz
      rw [gr i (by omega)]
      exact mapB_blk u (s1.blk _ b z hbz)
  · by_cases hi' : i < σ.length
    · rw [tl i hi'] at hi
      rw [gl i (by omega)] at hri
      by_cases hj' : j < σ.length
      · rw [tl j hj'] at hj
        rw [gl j (by omega)] at hlj
        exact s.inj i j b z z' hi hj hri hlj
      · rw [tr j (by omega)] at hj
        have h1 := s.lt hi (rw_live hri)
        have h2 := ge _ _ _ (by omega) hj
        omega
    · rw [tr i (by omega)] at hi
      by_cases hj' : j < σ.length
      · rw [tl j hj'] at hj
        rw [gl j (by omega)] at hlj
        have h1 := s.lt hj hlj
        have h2 := ge _ _ _ (by omega) hi
        omega
      · rw [tr j (by omega)] at hj
        rw [gr i (by omega), (mapB_rw _ _).1] at hri
        rw [gr j (by omega), (mapB_rw _ _).2] at hlj
        have := s1.inj _ _ b z z' hi hj hri hlj
        omega
  · have hi : ¬ i < σ.length := fun hi => by
      rw [List.getElem?_eq_getElem hi] at hn; cases hn
    rw [tr i (by omega)] at hbz
    exact .inl (ge _ _ _ (by omega) hbz)
  · rwa [gl i (by omega)] at hr
end Go.Ax

/- Ways of straight code joined into one state. -/
namespace Go.Ax
open Go

/-! ### Values -/
def mergeA (b : Bool) (x y : AV) : AV :=
  match mergeV b x y with
  | some z => z
  | none => .any
theorem mergeA_left {σ : List (Nat × Nat)} {x y : AV} {v : Value} (r : Rel σ x v) : Rel σ (mergeA true x y) v := by
  unfold mergeA
  split
  · rename_i z hz; exact mergeV_left hz r
  · exact .any
theorem mergeA_right {σ : List (Nat × Nat)} {x y : AV} {v : Value} (r : Rel σ y v) : Rel σ (mergeA false x y) v := by
  unfold mergeA
  split
  · rename_i z hz; exact mergeV_right hz r
  · exact .any
def mergeAs (b : Bool) : List AV → List AV → List AV
  | x :: xs, y :: ys => mergeA b x y :: mergeAs b xs ys
  | _, _ => []
theorem mergeAs_len (b : Bool) : ∀ (xs ys : List AV), (mergeAs b xs ys).length ≤ xs.length ∧ (mergeAs b xs ys).length ≤ ys.length
  | [], _ => by simp [mergeAs]
  | _ :: _, [] => by simp [mergeAs]
  | x :: xs, y :: ys => by
    have := mergeAs_len b xs ys
    simp [mergeAs]; omega
theorem mergeAs_get (b : Bool) : ∀ (xs ys : List AV) (n : Nat), n < (mergeAs b xs ys).length → getL (mergeAs b xs ys) n = mergeA b (getL xs n) (getL ys n)
  | [], _, n, h => by simp [mergeAs] at h
  | _ :: _, [], n, h => by simp [mergeAs] at h
  | x :: xs, y :: ys, 0, _ => rfl
  | x :: xs, y :: ys, n + 1, h => by
    simp only [mergeAs, List.length_cons] at h
    exact mergeAs_get b xs ys n (by omega)
/-- The values that all ways of operations come to. -/
def joinD : Res → Option (List AV × List Bool)
  | .ret v _ nd => match v with
    | .tup vs => some (vs, nd)
    | _ => none
  | .ite b x y => match joinD x, joinD y with
    | some (vs, nd), some (vs', nd') => some (mergeAs b vs vs', guardL b nd ++ guardL (!b) nd')
    | some (vs, nd), none => some (vs, b :: nd)
    | none, some (vs, nd) => some (vs, (!b) :: nd)
    | none, none => none
  | .stop _ _ _ _ => none
  | .fail => none
theorem joinD_spec : ∀ {r : Res} {vs : List AV} {nd : List Bool}, joinD r = some (vs, nd) → allT nd = true →
    ∃ vs' H' nd', r.sel = .ret (.tup vs') H' nd' ∧ allT nd' = true ∧ vs.length ≤ vs'.length ∧ ∀ (n : Nat), n < vs.length → ∀ (σ : List (Nat × Nat)) (v : Value), Rel σ (getL vs' n) v → Rel σ (getL vs n) v
  | .ret v H0 nd0, vs, nd, h, hn => by
    simp only [joinD] at h
    split at h <;> cases h
    exact ⟨_, H0, _, rfl, hn, Nat.le_refl _, fun _ _ _ _ r => r⟩
  | .stop _ _ _ _, vs, nd, h, hn => by cases h
  | .fail, vs, nd, h, hn => by cases h
  | .ite b x y, vs, nd, h, hn => by
    simp only [joinD] at h
    split at h
    · rename_i v1 nd1 v2 nd2 h1 h2
      cases h
      rw [allT_append, Bool.and_eq_true] at hn
      have hl := mergeAs_len b v1 v2
      cases b with
      | true =>
        obtain ⟨vs', H', nd', e1, e2, e3, e4⟩ := joinD_spec h1 (guardL_true hn.1)
        exact ⟨vs', H', nd', e1, e2, by omega, fun n hlt σ v r => by rw [mergeAs_get _ _ _ _ hlt]; exact mergeA_left (e4 n (by omega) σ v r)⟩
      | false =>
        obtain ⟨vs', H', nd', e1, e2, e3, e4⟩ := joinD_spec h2 (guardL_true hn.2)
        exact ⟨vs', H', nd', e1, e2, by omega, fun n hlt σ v r => by rw [mergeAs_get _ _ _ _ hlt]; exact mergeA_right (e4 n (by omega) σ v r)⟩
    · rename_i v1 nd1 h1 h2
      cases h
      simp only [allT, Bool.and_eq_true] at hn
      obtain ⟨rfl, hn⟩ := hn
      exact joinD_spec (r := x) h1 hn
    · rename_i v1 nd1 h1 h2
      cases h
      simp only [allT, Bool.and_eq_true] at hn
      obtain ⟨hb, hn⟩ := hn
      have : b = false := by simpa using hb
      subst this
      exact joinD_spec (r := y) h2 hn
    · cases h

/-! ### Temporaries written -/
noncomputable def putDs : List Nat → List AV → Tm → Tm
  | d :: ds, v :: vs, t => putDs ds vs (st t d v)
  | [], _, t => t
  | _ :: _, [], t => t
def putDsL : List Nat → List AV → List AV → List AV
  | d :: ds, v :: vs, t => putDsL ds vs (setL t d v)
  | [], _, t => t
  | _ :: _, [], t => t
theorem putDs_R : ∀ (ds : List Nat) (vs : List AV) {τ : Tm} {t : List AV}, R τ t → R (putDs ds vs τ) (putDsL ds vs t)
  | [], _, _, _, h => h
  | _ :: _, [], _, _, h => h
  | d :: ds, v :: vs, _, _, h => putDs_R ds vs (h.set d v)
theorem putDsL_len : ∀ (ds : List Nat) (vs t : List AV), (putDsL ds vs t).length = t.length
  | [], _, _ => rfl
  | _ :: _, [], _ => rfl
  | d :: ds, v :: vs, t => by rw [putDsL, putDsL_len ds vs, setL_length]
theorem putDsL_out : ∀ (ds : List Nat) (vs t : List AV) (n : Nat), n ∉ ds → getL (putDsL ds vs t) n = getL t n
  | [], _, _, _, _ => rfl
  | _ :: _, [], _, _, _ => rfl
  | d :: ds, v :: vs, t, n, h => by
    simp only [List.mem_cons, not_or] at h
    rw [putDsL, putDsL_out ds vs _ n h.2, getL_setL_ne (Ne.symm h.1)]
theorem putDsL_in : ∀ (ds : List Nat) (vs t : List AV) (n : Nat), vs.length = ds.length → n ∈ ds → n < t.length → ∃ i, ds[i]? = some n ∧ getL (putDsL ds vs t) n = getL vs i
  | [], _, _, _, _, h, _ => by cases h
  | _ :: _, [], _, _, h, _, _ => by cases h
  | d :: ds, v :: vs, t, n, hl, h, ht => by
    by_cases hn : n ∈ ds
    · obtain ⟨i, h1, h2⟩ := putDsL_in ds vs (setL t d v) n (by simpa using hl) hn (by rw [setL_length]; exact ht)
      exact ⟨i + 1, by simpa using h1, h2⟩
    · have : n = d := by
        rcases List.mem_cons.1 h with h | h
        · exact h
        · exact absurd h hn
      subst this
      refine ⟨0, rfl, ?_⟩
      rw [putDsL, putDsL_out ds vs _ n hn, getL_setL_same ht]; rfl

/-! ### Memory -/
/-- G is H but for cells named in W. -/
def Pt (H G : List AB) (W : List (Nat × Nat)) : Prop := H.length = G.length ∧ ∀ i, (∃ C D, getB H i = .cells true C ∧ getB G i = .cells true D ∧ D.toL.length = C.toL.length ∧ ∀ j, (i, j) ∉ W → D.toL[j]? = C.toL[j]?) ∨ ((∀ C, getB H i ≠ .cells true C) ∧ getB G i = getB H i)
theorem Pt.refl (H : List AB) (W : List (Nat × Nat)) : Pt H H W := ⟨rfl, fun i => by
  by_cases h : ∃ C, getB H i = .cells true C
  · obtain ⟨C, h⟩ := h
    exact .inl ⟨C, C, h, h, rfl, fun _ _ => rfl⟩
  · exact .inr ⟨fun C hc => h ⟨C, hc⟩, rfl⟩⟩
theorem Pt.trans {H G K : List AB} {W V : List (Nat × Nat)} (h : Pt H G W) (k : Pt G K V) : Pt H K (W ++ V) := ⟨h.1.trans k.1, fun i => by
  rcases h.2 i with ⟨C, D, h1, h2, h3, h4⟩ | ⟨h1, h2⟩
  · rcases k.2 i with ⟨C', D', k1, k2, k3, k4⟩ | ⟨k1, k2⟩
    · rw [h2] at k1; cases k1
      refine .inl ⟨C, D', h1, k2, k3.trans h3, fun j hj => ?_⟩
      simp only [List.mem_append, not_or] at hj
      rw [k4 j hj.2, h4 j hj.1]
    · exact absurd h2 (k1 D)
  · rcases k.2 i with ⟨C', D', k1, k2, k3, k4⟩ | ⟨k1, k2⟩
    · rw [h2] at k1; exact absurd k1 (h1 C')
    · exact .inr ⟨h1, k2.trans h2⟩⟩
theorem Pt.mono {H G : List AB} {W V : List (Nat × Nat)} (h : Pt H G W) (hs : ∀ p ∈ W, p ∈ V) : Pt H G V := ⟨h.1, fun i => by
  rcases h.2 i with ⟨C, D, h1, h2, h3, h4⟩ | h
  · exact .inl ⟨C, D, h1, h2, h3, fun j hj => h4 j fun hw => hj (hs _ hw)⟩
  · exact .inr h⟩
theorem Pt.set {H : List AB} {id off : Nat} {A B : Cells} {v : AV} (hg : getB H id = .cells true A) (hs : A.set off v = some B) : Pt H (setB H id (.cells true B)) [(id, off)] := by
  have hlt : id < H.length := by
    rcases Nat.lt_or_ge id H.length with h | h
    · exact h
    · rw [getB_none h] at hg; cases hg
  refine ⟨(setB_length _ _ _).symm, fun i => ?_⟩
  by_cases hi : id = i
  · subst hi
    rw [getB_setB_same hlt]
    have hb := Cells.set_toL hs
    refine .inl ⟨A, B, hg, rfl, ?_, fun j hj => ?_⟩
    · rcases hb with h | h <;> rw [h, List.length_set]
    · have hne : off ≠ j := fun e => hj (by subst e; simp)
      rcases hb with h | h <;> rw [h, List.getElem?_set_ne hne]
  · rw [getB_setB_ne hi]
    by_cases h : ∃ C, getB H i = .cells true C
    · obtain ⟨C, h⟩ := h
      exact .inl ⟨C, C, h, h, rfl, fun _ _ => rfl⟩
    · exact .inr ⟨fun C hc => h ⟨C, hc⟩, rfl⟩

/-- The cells that were written on one way or the other, joined. -/
def mergeH (b : Bool) (Ha Hb : List AB) : List (Nat × Nat) → List AB → Option (List AB)
  | [], H => some H
  | (id, off) :: ws, H => match getB Ha id with
    | .cells true A => match getB Hb id with
      | .cells true B => match getB H id with
        | .cells true C => match mergeV b (A.get off) (B.get off) with
          | some z => match C.set off z with
            | some D => mergeH b Ha Hb ws (setB H id (.cells true D))
            | none => none
          | none => none
        | _ => none
      | _ => none
    | _ => none
/-- What a joined cell holds. -/
def Met (b : Bool) (Ha Hb G : List AB) (i j : Nat) : Prop := ∃ A B D z, getB Ha i = .cells true A ∧ getB Hb i = .cells true B ∧ getB G i = .cells true D ∧ mergeV b (A.get j) (B.get j) = some z ∧ (j < D.toL.length → D.toL[j]? = some z ∨ D.toL[j]? = some z.bare)
theorem mergeH_spec (b : Bool) (Ha Hb : List AB) : ∀ (ws : List (Nat × Nat)) (H G : List AB), mergeH b Ha Hb ws H = some G → Pt H G ws ∧ ∀ i j, (i, j) ∈ ws → Met b Ha Hb G i j
  | [], H, G, h => by
    cases h
    exact ⟨Pt.refl _ _, fun i j hj => by cases hj⟩
  | (id, off) :: ws, H, G, h => by
    simp only [mergeH] at h
    split at h <;> (try (cases h; done))
    rename_i A hA
    split at h <;> (try (cases h; done))
    rename_i B hB
    split at h <;> (try (cases h; done))
    rename_i C hC
    split at h <;> (try (cases h; done))
    rename_i z hz
    split at h <;> (try (cases h; done))
    rename_i D hD
    obtain ⟨p, m⟩ := mergeH_spec b Ha Hb ws _ G h
    have p0 := Pt.set hC hD
    have hlt : id < H.length := by
      rcases Nat.lt_or_ge id H.length with h | h
      · exact h
      · rw [getB_none h] at hC; cases hC
    refine ⟨p0.trans p, fun i j hj => ?_⟩
    by_cases hm : (i, j) ∈ ws
    · exact m i j hm
    · have e : (i, j) = (id, off) := by
        rcases List.mem_cons.1 hj with h | h
        · exact h
        · exact absurd h hm
      cases e
      rcases p.2 id with ⟨C', D', k1, k2, k3, k4⟩ | ⟨k1, k2⟩
      · rw [getB_setB_same hlt] at k1
        cases k1
        refine ⟨A, B, D', z, hA, hB, k2, hz, fun hl => ?_⟩
        rw [k4 off hm]
        rw [k3] at hl
        rcases Cells.set_toL hD with h | h
        · left; rw [h, List.length_set] at hl; rw [h, List.getElem?_set_self hl]
        · right; rw [h, List.length_set] at hl; rw [h, List.getElem?_set_self hl]
      · rw [getB_setB_same hlt] at k1
        exact absurd rfl (k1 D)
theorem mergeH_left {H Ha Hb G : List AB} {W : List (Nat × Nat)} (ha : Pt H Ha W) (h : mergeH true Ha Hb W H = some G) : HEq Ha G := by
  obtain ⟨p, m⟩ := mergeH_spec true Ha Hb W H G h
  refine ⟨ha.1.symm.trans p.1, fun i => ?_⟩
  rcases ha.2 i with ⟨C, A, a1, a2, a3, a4⟩ | ⟨a1, a2⟩
  · rcases p.2 i with ⟨C', D, p1, p2, p3, p4⟩ | ⟨p1, p2⟩
    · rw [a1] at p1; cases p1
      rw [a2, p2]
      refine ⟨rfl, rfl, fun σ z o hb => ?_⟩
      obtain ⟨c, e, fr, h1, h2, h3⟩ := hb
      refine ⟨c, e, fr, h1, fun j a hj => ?_, h3⟩
      by_cases hw : (i, j) ∈ W
      · obtain ⟨A', B', D', z', m1, m2, m3, m4, m5⟩ := m i j hw
        rw [a2] at m1; cases m1
        rw [p2] at m3; cases m3
        have hjl : j < D.toL.length := (List.getElem?_eq_some_iff.1 hj).1
        have hA : A.toL[j]? = some (A.get j) := Cells.get_some (by rw [← Cells.len_eq, a3, ← p3]; exact hjl)
        obtain ⟨v, hv, hr⟩ := h2 j _ hA
        have hr := mergeV_left m4 hr
        rcases m5 hjl with h | h <;> rw [h] at hj <;> cases hj
        · exact ⟨v, hv, hr⟩
        · exact ⟨v, hv, hr.bare⟩
      · rw [p4 j hw, ← a4 j hw] at hj
        exact h2 j a hj
    · exact absurd a1 (p1 C)
  · rcases p.2 i with ⟨C', D, p1, p2, p3, p4⟩ | ⟨p1, p2⟩
    · exact absurd p1 (a1 C')
    · rw [a2, p2]; exact ⟨rfl, rfl, fun _ _ _ h => h⟩
theorem mergeH_right {H Ha Hb G : List AB} {W : List (Nat × Nat)} (hb : Pt H Hb W) (h : mergeH false Ha Hb W H = some G) : HEq Hb G := by
  obtain ⟨p, m⟩ := mergeH_spec false Ha Hb W H G h
  refine ⟨hb.1.symm.trans p.1, fun i => ?_⟩
  rcases hb.2 i with ⟨C, A, a1, a2, a3, a4⟩ | ⟨a1, a2⟩
  · rcases p.2 i with ⟨C', D, p1, p2, p3, p4⟩ | ⟨p1, p2⟩
    · rw [a1] at p1; cases p1
      rw [a2, p2]
      refine ⟨rfl, rfl, fun σ z o hb => ?_⟩
      obtain ⟨c, e, fr, h1, h2, h3⟩ := hb
      refine ⟨c, e, fr, h1, fun j a hj => ?_, h3⟩
      by_cases hw : (i, j) ∈ W
      · obtain ⟨A', B', D', z', m1, m2, m3, m4, m5⟩ := m i j hw
        rw [a2] at m2; cases m2
        rw [p2] at m3; cases m3
        have hjl : j < D.toL.length := (List.getElem?_eq_some_iff.1 hj).1
        have hA : A.toL[j]? = some (A.get j) := Cells.get_some (by rw [← Cells.len_eq, a3, ← p3]; exact hjl)
        obtain ⟨v, hv, hr⟩ := h2 j _ hA
        have hr := mergeV_right m4 hr
        rcases m5 hjl with h | h <;> rw [h] at hj <;> cases hj
        · exact ⟨v, hv, hr⟩
        · exact ⟨v, hv, hr.bare⟩
      · rw [p4 j hw, ← a4 j hw] at hj
        exact h2 j a hj
    · exact absurd a1 (p1 C)
  · rcases p.2 i with ⟨C', D, p1, p2, p3, p4⟩ | ⟨p1, p2⟩
    · exact absurd p1 (a1 C')
    · rw [a2, p2]; exact ⟨rfl, rfl, fun _ _ _ h => h⟩
end Go.Ax

/- Regions and straight code: all ways joined. -/
namespace Go.Ax
open Go

structure JS where
  t : Tm
  H : List AB
  ds : List Nat
  ws : List (Nat × Nat)
  nd : List Bool
def dsts (l : List Oper) : List Nat := l.filterMap (·.dst)
theorem mem_dsts {l : List Oper} {o : Oper} {d : Nat} (ho : o ∈ l) (hd : o.dst = some d) : d ∈ dsts l := List.mem_filterMap.2 ⟨o, ho, hd⟩
/-- Operations that may come behind the first one that writes. -/
def tailOK (o : Oper) : Bool :=
  match o.guard with
  | some _ => false
  | none => match o.op with
    | .alloc _ => false
    | .box _ _ => false
    | .buildSlice _ _ _ => false
    | .makeSlice _ _ _ => false
    | .call c => match c.callee with
      | .builtin .append => false
      | .builtin _ => true
      | _ => false
    | _ => true

section
variable (P : Program) (T : Table)
noncomputable def tRun : List Oper → Tm → List AB → List Bool → Option (Tm × List AB × List (Nat × Nat) × List Bool)
  | [], t, H, nd => some (t, H, [], nd)
  | o :: rest, t, H, nd => match o.guard with
    | some _ => none
    | none => match o.op.operands.all okOpd with
      | false => none
      | true => match o.op with
        | .store ty a x => match evB t a with
          | .p l id off => match l && okCell (evB t x) with
            | true => match aStore P ty (.p true id off) (evB t x) H with
              | some (v, H', n) => match tRun rest (putB t o.dst v) H' (n ++ nd) with
                | some (t', H', ws, nd) => some (t', H', (id, off) :: ws, nd)
                | none => none
              | none => none
            | false => none
          | _ => none
        | op => match aop P op (evB t) H with
          | some (v, n) => tRun rest (putB t o.dst v) H (n ++ nd)
          | none => none
noncomputable def jReg (ops : Array Oper) (draw : Bool) : CF (Tm → List AB → Option JS) :=
  match cOpsQ P T ops (ops.toList.take (qM draw ops)) with
  | .mk f => .mk fun t H => match joinD (f t H [] fun t nd => .ret (.tup ((dsts (ops.toList.take (qM draw ops))).map (gt t))) [] nd) with
    | some (vs, nd) => match Nat.beq vs.length (dsts (ops.toList.take (qM draw ops))).length with
      | true => match tRun P (ops.toList.drop (qM draw ops)) (putDs (dsts (ops.toList.take (qM draw ops))) vs t) H nd with
        | some (t', H', ws, nd) => some ⟨t', H', dsts (ops.toList.take (qM draw ops)) ++ dsts (ops.toList.drop (qM draw ops)), ws, nd⟩
        | none => none
      | false => none
    | none => none
end

section
variable {P : Program} {T : Table} {ops : Array Oper}
theorem pt_store {ty : TypeId} {id off : Nat} {x v : AV} {H H' : List AB} {n : List Bool} (hx : okCell x = true) (h : aStore P ty (.p true id off) x H = some (v, H', n)) : Pt H H' [(id, off)] := by
  unfold aStore at h
  simp only [Bool.true_or] at h
  split at h <;> (try (cases h; done))
  rename_i A hg
  split at h <;> (try (cases h; done))
  split at h <;> (try (cases h; done))
  rename_i B hB
  split at h <;> (try (cases h; done))
  unfold consN at h
  split at h <;> cases h
  rw [okCell_cells hx] at hB
  exact Pt.set hg hB
theorem wants_none {o : Oper} {t : List AV} (hg : o.guard = none) : Wants ops o t true := fun σ tm _ => by simp [Region.wanted, hg]
theorem tRun_sound : ∀ (l : List Oper) (k : Nat) (τ : Tm) (t : List AV) (H : List AB) (nd : List Bool) {τ' : Tm} {H' : List AB} {ws : List (Nat × Nat)} {nd' : List Bool}, l = ops.toList.drop k → k ≤ ops.size → R τ t → tRun P l τ H nd = some (τ', H', ws, nd') →
    ∃ t', R τ' t' ∧ t'.length = t.length ∧ (∀ n, n ∉ dsts l → getL t' n = getL t n) ∧ Pt H H' ws ∧ (allT nd' = true → allT nd = true ∧ Chain P ops k t H ops.size t' H')
  | [], k, τ, t, H, nd, τ', H', ws, nd', hl, hk, hR, h => by
    have : ops.size ≤ k := by
      have := congrArg List.length hl
      simp at this; omega
    have : k = ops.size := by omega
    subst this
    simp only [tRun, Option.some.injEq, Prod.mk.injEq] at h
    obtain ⟨rfl, rfl, rfl, rfl⟩ := h
    exact ⟨t, hR, rfl, fun _ _ => rfl, Pt.refl _ _, fun h => ⟨h, .nil⟩⟩
  | o :: rest, k, τ, t, H, nd, τ', H', ws, nd', hl, hk, hR, h => by
    obtain ⟨ho, hrest⟩ := drop_cons hl
    have ho' : ops[k]? = some o := by simpa using ho
    have hks : k < ops.size := (Array.getElem?_eq_some_iff.1 ho').1
    rw [tRun] at h
    split at h <;> (try (cases h; done))
    rename_i hg
    split at h <;> (try (cases h; done))
    rename_i hok
    have shape : ∀ {v : AV} {t' : List AV}, (∀ n, n ∉ dsts rest → getL t' n = getL (putT t o.dst v) n) → ∀ n, n ∉ dsts (o :: rest) → getL t' n = getL t n := fun {v t'} hs n hn => by
      have h1 : n ∉ dsts rest := fun h => hn (by
        obtain ⟨x, hx, hd⟩ := List.mem_filterMap.1 h
        exact mem_dsts (List.mem_cons_of_mem _ hx) hd)
      have h2 : o.dst ≠ some n := fun h => hn (mem_dsts List.mem_cons_self h)
      rw [hs n h1, getL_putT_ne h2]
    split at h
    · rename_i ty a x hop
      split at h <;> (try (cases h; done))
      rename_i l id off ha
      split at h <;> (try (cases h; done))
      rename_i hlx
      rw [Bool.and_eq_true] at hlx
      obtain ⟨rfl, hx⟩ := hlx
      split at h <;> (try (cases h; done))
      rename_i v H1 n1 hst
      split at h <;> cases h
      rename_i τ2 H2 ws2 nd2 hr
      obtain ⟨t', r1, r2, r3, r4, r5⟩ := tRun_sound rest (k + 1) _ (putT t o.dst v) H1 (n1 ++ nd) hrest hks (hR.put o.dst v) hr
      refine ⟨t', r1, by rw [r2, putT_length], shape r3, (pt_store hx hst).trans r4, fun hn => ?_⟩
      obtain ⟨r6, r7⟩ := r5 hn
      rw [allT_append, Bool.and_eq_true] at r6
      refine ⟨r6.2, .cons ?_ r7⟩
      intro σ w a0 Q next s r q
      simp only [wpOp, ho', wants_none hg σ a0.tmps (relL_looks (ops := ops) r o), if_true]
      refine .inl ?_
      rw [hR.ev] at ha hst
      have he : eop P o.op (evA t) H = some (v, H1, n1) := by
        rw [hop]; show aStore P ty (evA t a) (evA t x) H = _
        rw [ha]; exact hst
      obtain ⟨rv, w', e1, σ', e2, e3, e4⟩ := eop_out (ρ := a0.eval) he r6.1 s (opds_ok hok r)
      show o.upon P a0 next Q ((execOp a0.eval o).run P w)
      rcases e1 with e1 | ⟨e1, rfl⟩
      · rw [e1]
        exact q _ _ σ' (RelL.put (RelL.mono e4.ext r) e2) (put_defers _ _ _) e3 e4
      · rw [e1]
        exact q _ _ σ' (RelL.put (RelL.mono e4.ext r) e2) (put_defers _ _ _) e3 e4
    · split at h <;> (try (cases h; done))
      rename_i v n1 hao
      obtain ⟨t', r1, r2, r3, r4, r5⟩ := tRun_sound rest (k + 1) _ (putT t o.dst v) H (n1 ++ nd) hrest hks (hR.put o.dst v) h
      refine ⟨t', r1, by rw [r2, putT_length], shape r3, r4, fun hn => ?_⟩
      obtain ⟨r6, r7⟩ := r5 hn
      rw [allT_append, Bool.and_eq_true] at r6
      refine ⟨r6.2, .cons ?_ r7⟩
      intro σ w a0 Q next s r q
      simp only [wpOp, ho', wants_none hg σ a0.tmps (relL_looks (ops := ops) r o), if_true]
      refine .inl ?_
      rw [hR.ev] at hao
      obtain ⟨rv, w', e1, e2, e3⟩ := aop_gives (ρ := a0.eval) hao r6.1 s (opds_ok hok r)
      show o.upon P a0 next Q ((execOp a0.eval o).run P w)
      rw [e1]
      exact q _ _ σ (r.put e2) (put_defers _ _ _) (e3.sim s) e3.fr
theorem QChain.toChain {k m j : Nat} {t t1 t' : List AV} {H H' : List AB} (c : QChain P ops H k t m t1) : Chain P ops m t1 H j t' H' → Chain P ops k t H j t' H' := by
  induction c with
  | nil => exact fun h => h
  | @cons k m t t1 v h c ih =>
    intro d
    refine .cons ?_ (ih d)
    obtain ⟨o, ho, hq⟩ := h
    intro σ w a Q next s r q
    refine hq σ w a Q next s (fun n _ => r.getD n) (by have := r.length; simpa using this.symm) fun rv w' hr s' f' => ?_
    have hgd : gDst ops k = o.dst := by simp [gDst, ho]
    exact q _ _ σ (by rw [hgd]; exact r.put hr) (put_defers _ _ _) s' f'
/-- A region out of its two parts. -/
theorem region_of {id : Nat} {draw : Bool} {t t1 t' : List AV} {H H' : List AB} (hd : draw = false ∨ (P.follows .mixedOrders && drawOK ops (qM draw ops)) = true) (qc : QChain P ops H 0 t (qM draw ops) t1) (c : Chain P ops (qM draw ops) t1 H ops.size t' H') : RegionOK P id ops draw t H t' H' := by
  intro σ w a Q s r q
  by_cases hdr : draw = false
  · subst hdr
    refine wp_region ?_
    have := (qc.toChain c).wpOps s r q
    rwa [Nat.sub_zero, ← List.range_eq_range'] at this
  · have hdt : draw = true := by simpa using hdr
    subst hdt
    rcases hd with hd | hd
    · cases hd
    rw [Bool.and_eq_true] at hd
    obtain ⟨hf, hok⟩ := hd
    have hm : qM true ops ≤ ops.size := qM_le true ops
    obtain ⟨val, _, hst, hv⟩ := qc.vals
    have c3 := c
    rw [hst, Nat.sub_zero] at c3
    refine wp_region_any hf ?_
    have hnl : ∀ i, ¬ Ls (Array.replicate ops.size false) i := fun i => by
      unfold Ls
      rw [Array.getD_eq_getD_getElem?]
      by_cases hi : i < ops.size
      · simp [hi]
      · simp [hi]
    have hsm : Same w { w with drawn := w.drawn + 1 } := Same.drew w
    refine any_pre hok hm (fun i hi => hv i (Nat.zero_le _) hi) c3 ops.size _ a _ (by simp) (fun i o _ hl => absurd hl (hnl i)) ?_ (fun i _ => hnl i) (hsm.sim s) ?_ (fun x => ⟨fun i _ hl => absurd hl (hnl i), fun _ => r.getD x⟩)
      fun a' w' σ' r' d' s' f' => q a' w' σ' r' d' s' (hsm.fr.trans f')
    · have := List.length_filter_le (fun i => !(Array.replicate ops.size false).getD i false) (List.range ops.size)
      simp only [List.length_range] at this
      exact this
    · have := r.length; simpa using this.symm
theorem RegionOK.weak {id : Nat} {draw : Bool} {t t1 t' : List AV} {H H' : List AB} (h : RegionOK P id ops draw t H t1 H') (e : Eqv t1 t') : RegionOK P id ops draw t H t' H' := fun σ w a Q s r q =>
  h σ w a Q s r fun a' w' σ' r' => q a' w' σ' (e.relL r')
theorem getL_map_gt {τ : Tm} {t : List AV} (h : R τ t) (ds : List Nat) : ds.map (gt τ) = ds.map (getL t) := List.map_congr_left fun n _ => h.get n
theorem jReg_sound (hT : SoundT P T) {id : Nat} {draw : Bool} (hd : draw = false ∨ (P.follows .mixedOrders && drawOK ops (qM draw ops)) = true) {τ : Tm} {t : List AV} {H : List AB} {s : JS} (h : R τ t) (e : (jReg P T ops draw).app τ H = some s) :
    ∃ t', R s.t t' ∧ t'.length = t.length ∧ (∀ n, n ∉ s.ds → getL t' n = getL t n) ∧ Pt H s.H s.ws ∧ (allT s.nd = true → RegionOK P id ops draw t H t' s.H) := by
  unfold jReg at e
  have hq := cOpsQ_eq (P := P) (T := T) ops (ops.toList.take (qM draw ops))
  cases hf : cOpsQ P T ops (ops.toList.take (qM draw ops)) with
  | mk f =>
    rw [hf] at e hq
    dsimp only [CF.app] at e hq
    generalize hm : qM draw ops = m at *
    have hms : m ≤ ops.size := by have := qM_le draw ops; rw [hm] at this; exact this
    split at e <;> (try (cases e; done))
    rename_i vs nd hj
    split at e <;> (try (cases e; done))
    rename_i hlen
    have hlen := Nat.eq_of_beq_eq_true hlen
    split at e <;> cases e
    rename_i τ2 H2 ws nd2 hr
    generalize hds : dsts (ops.toList.take m) = ds at *
    obtain ⟨t', r1, r2, r3, r4, r5⟩ := tRun_sound (P := P) (ops := ops) (ops.toList.drop m) m _ (putDsL ds vs t) H nd rfl hms (putDs_R ds vs h) hr
    refine ⟨t', r1, by rw [r2, putDsL_len], fun n hn => ?_, r4, fun hnd => ?_⟩
    · simp only [List.mem_append, not_or] at hn
      rw [r3 n hn.2, putDsL_out _ _ _ _ hn.1]
    · obtain ⟨hnd1, c⟩ := r5 hnd
      obtain ⟨vs', H', nd', e1, e2, e3, e4⟩ := joinD_spec hj hnd1
      rw [hq, bRunQ_eq (K' := fun t nd => .ret (.tup (ds.map (getL t))) [] nd) (fun τ t nd hR => by rw [getL_map_gt hR]) _ _ t H [] h] at e1
      rcases runQ_sound (P := P) (H := H) hT (fun t nd => .ret (.tup (ds.map (getL t))) [] nd) hms (ops.toList.take m) 0 t [] (by simp) (Nat.zero_le _) with hfail | ⟨t0, nd0, h1, h2⟩
      · rw [hfail] at e1; cases e1
      rw [h1] at e1
      cases e1
      obtain ⟨_, t'', qc, eq1⟩ := h2 e2
      have hlen2 : t''.length = t.length := by
        obtain ⟨val, _, hst, _⟩ := qc.vals
        rw [hst, stAt_length]
      have hout : ∀ n, n ∉ ds → getL t'' n = getL t n := fun n hn => by
        obtain ⟨val, _, hst, _⟩ := qc.vals
        rw [hst]
        refine stAt_untouched ops val _ 0 t fun i _ hi hg => hn ?_
        rw [← hds]
        unfold gDst at hg
        cases ho : ops[i]? with
        | none => rw [ho] at hg; cases hg
        | some o =>
          rw [ho] at hg
          refine mem_dsts (o := o) ?_ hg
          rw [List.mem_take_iff_getElem]
          have hi' : i < m := by omega
          refine ⟨i, by simp; omega, ?_⟩
          have := (Array.getElem?_eq_some_iff.1 ho).2
          simpa using this
      have hE : Eqv t'' (putDsL ds vs t) := by
        refine ⟨by rw [putDsL_len, hlen2], fun σ n v hr => ?_⟩
        by_cases hn : n ∈ ds
        · rcases Nat.lt_or_ge n t.length with hlt | hge
          · obtain ⟨i, hi, hgi⟩ := putDsL_in ds vs t n hlen hn hlt
            rw [hgi]
            have hil : i < ds.length := (List.getElem?_eq_some_iff.1 hi).1
            refine e4 i (by omega) σ v ?_
            have hgm : getL (ds.map (getL t0)) i = getL t0 n := by
              rw [getL_eq, List.getD_eq_getElem?_getD, List.getElem?_map, hi]; rfl
            rw [hgm]
            exact eq1.2 σ n v hr
          · rw [getL_none (by rw [hlen2]; exact hge)] at hr
            rw [getL_none (by rw [putDsL_len]; exact hge)]; exact hr
        · rw [putDsL_out _ _ _ _ hn, ← hout n hn]; exact hr
      obtain ⟨t3, c3, e3'⟩ := c.conv hE
      subst hm
      exact (region_of hd qc c3).weak e3'
end

/-! ### Straight code -/
def strR (P : Program) (ops : Array Oper) (draw : Bool) : Bool := (ops.toList.drop (qM draw ops)).all tailOK && (!draw || (P.follows .mixedOrders && drawOK ops (qM draw ops)))
/-- Code that falls through. -/
def strC (P : Program) : Nat → Code → Bool
  | 0, _ => false
  | n + 1, c => match c with
    | .skip => true
    | .seq a b => strC P n a && strC P n b
    | .block _ c => strC P n c
    | .region _ ops draw => strR P ops draw
    | .cond _ a b => strC P n a && strC P n b
    | _ => false
section
variable (P : Program) (T : Table)
noncomputable def mergeDs (b : Bool) (ta tb : Tm) : List Nat → List AV
  | [] => []
  | d :: ds => mergeA b (gt ta d) (gt tb d) :: mergeDs b ta tb ds
noncomputable def jJoin (x : Bool) (t : Tm) (H : List AB) : Option JS → Option JS → Option JS
  | some ⟨t1, H1, ds1, ws1, nd1⟩, some ⟨t2, H2, ds2, ws2, nd2⟩ => match mergeH x H1 H2 (ws1 ++ ws2) H with
    | some H' => some ⟨putDs (ds1 ++ ds2) (mergeDs x t1 t2 (ds1 ++ ds2)) t, H', ds1 ++ ds2, ws1 ++ ws2, guardL x nd1 ++ guardL (!x) nd2⟩
    | none => none
  | some ⟨t1, H1, ds1, ws1, nd1⟩, none => some ⟨t1, H1, ds1, ws1, x :: nd1⟩
  | none, some ⟨t2, H2, ds2, ws2, nd2⟩ => some ⟨t2, H2, ds2, ws2, (!x) :: nd2⟩
  | none, none => none
noncomputable def jC : Nat → Code → CF (Tm → List AB → Option JS)
  | 0, _ => .mk fun _ _ => none
  | n + 1, c => match c with
    | .skip => .mk fun t H => some ⟨t, H, [], [], []⟩
    | .seq a b => match jC n a, jC n b with
      | .mk f, .mk g => .mk fun t H => match f t H with
        | some ⟨t1, H1, ds1, ws1, nd1⟩ => match g t1 H1 with
          | some ⟨t2, H2, ds2, ws2, nd2⟩ => some ⟨t2, H2, ds1 ++ ds2, ws1 ++ ws2, nd2 ++ nd1⟩
          | none => none
        | none => none
    | .block _ c => jC n c
    | .region _ ops draw => match strR P ops draw with
      | true => jReg P T ops draw
      | false => .mk fun _ _ => none
    | .cond c a b => match okOpd c, cOpd c, jC n a, jC n b with
      | false, _, _, _ => .mk fun _ _ => none
      | true, .mk q, .mk f, .mk g => .mk fun t H => match q t with
        | .b l x => match l with
          | true => match x with
            | true => f t H
            | false => g t H
          | false => jJoin x t H (f t H) (g t H)
        | _ => none
    | _ => .mk fun _ _ => none
end
section
variable {P : Program} {T : Table}
def JOK (P : Program) (c : Code) (t : List AV) (H : List AB) (s : JS) : Prop := ∃ t', R s.t t' ∧ t'.length = t.length ∧ (∀ n, n ∉ s.ds → getL t' n = getL t n) ∧ Pt H s.H s.ws ∧ (allT s.nd = true → ∀ k, Reach P (.code c :: k) t H k t' s.H)
theorem mergeDs_len (b : Bool) (ta tb : Tm) : ∀ ds, (mergeDs b ta tb ds).length = ds.length
  | [] => rfl
  | d :: ds => by simp [mergeDs, mergeDs_len b ta tb ds]
theorem mergeDs_get (b : Bool) (ta tb : Tm) : ∀ (ds : List Nat) (i n : Nat), ds[i]? = some n → getL (mergeDs b ta tb ds) i = mergeA b (gt ta n) (gt tb n)
  | [], i, n, h => by simp at h
  | d :: ds, 0, n, h => by simp at h; subst h; rfl
  | d :: ds, i + 1, n, h => by simp at h; exact mergeDs_get b ta tb ds i n h
theorem join_eqv {x : Bool} {τ1 τ2 : Tm} {t t1 t2 : List AV} {ds : List Nat} (h1 : R τ1 t1) (h2 : R τ2 t2) (l1 : t1.length = t.length) (l2 : t2.length = t.length) (o1 : ∀ n, n ∉ ds → getL t1 n = getL t n) (o2 : ∀ n, n ∉ ds → getL t2 n = getL t n) :
    Eqv (if x then t1 else t2) (putDsL ds (mergeDs x τ1 τ2 ds) t) := by
  refine ⟨by cases x <;> simp [putDsL_len, l1, l2], fun σ n v r => ?_⟩
  by_cases hn : n ∈ ds
  · rcases Nat.lt_or_ge n t.length with hlt | hge
    · obtain ⟨i, hi, hgi⟩ := putDsL_in ds (mergeDs x τ1 τ2 ds) t n (mergeDs_len _ _ _ _) hn hlt
      rw [hgi, mergeDs_get _ _ _ _ _ _ hi, h1.get, h2.get]
      cases x with
      | true => exact mergeA_left r
      | false => exact mergeA_right r
    · rw [getL_none (by rw [putDsL_len]; exact hge)]
      rw [getL_none (by cases x <;> simp [l1, l2, hge])] at r
      exact r
  · rw [putDsL_out _ _ _ _ hn]
    cases x with
    | true => simp only [if_true] at r; rw [← o1 n hn]; exact r
    | false => simp only [Bool.false_eq_true, if_false] at r; rw [← o2 n hn]; exact r
theorem jJoin_sound {c : Operand} {a b : Code} {x : Bool} {τ : Tm} {t : List AV} {H : List AB} {l : Bool} {ra rb : Option JS} {s : JS} (hR : R τ t) (hok : okOpd c = true) (hv : evA t c = .b l x) (ha : ∀ s, ra = some s → JOK P a t H s) (hb : ∀ s, rb = some s → JOK P b t H s) (e : jJoin x τ H ra rb = some s) : JOK P (.cond c a b) t H s := by
  have hc := fun k => cond_reach (P := P) (x := a) (y := b) (k := k) (H := H) hok hv
  unfold jJoin at e
  split at e
  · rename_i t1 H1 ds1 ws1 nd1 t2 H2 ds2 ws2 nd2
    split at e <;> cases e
    rename_i H' hm
    obtain ⟨u1, a1, a2, a3, a4, a5⟩ := ha _ rfl
    obtain ⟨u2, b1, b2, b3, b4, b5⟩ := hb _ rfl
    dsimp only at a1 a3 a4 a5 b1 b3 b4 b5
    have o1 : ∀ n, n ∉ ds1 ++ ds2 → getL u1 n = getL t n := fun n hn => a3 n fun h => hn (List.mem_append_left _ h)
    have o2 : ∀ n, n ∉ ds1 ++ ds2 → getL u2 n = getL t n := fun n hn => b3 n fun h => hn (List.mem_append_right _ h)
    refine ⟨putDsL (ds1 ++ ds2) (mergeDs x t1 t2 (ds1 ++ ds2)) t, putDs_R _ _ hR, putDsL_len _ _ _, fun n hn => putDsL_out _ _ _ _ hn, (mergeH_spec _ _ _ _ _ _ hm).1, fun hn k => ?_⟩
    dsimp only at hn ⊢
    rw [allT_append, Bool.and_eq_true] at hn
    have he := join_eqv (x := x) a1 b1 a2 b2 o1 o2
    cases x with
    | true =>
      have := (hc k).trans (a5 (guardL_true hn.1) k)
      exact (this.weak he).post (mergeH_left (a4.mono fun p hp => List.mem_append_left _ hp) hm)
    | false =>
      have := (hc k).trans (b5 (guardL_true hn.2) k)
      exact (this.weak he).post (mergeH_right (b4.mono fun p hp => List.mem_append_right _ hp) hm)
  · rename_i t1 H1 ds1 ws1 nd1
    cases e
    obtain ⟨u1, a1, a2, a3, a4, a5⟩ := ha _ rfl
    refine ⟨u1, a1, a2, a3, a4, fun hn k => ?_⟩
    dsimp only at hn
    simp only [allT, Bool.and_eq_true] at hn
    obtain ⟨rfl, hn⟩ := hn
    exact (hc k).trans (a5 hn k)
  · rename_i t2 H2 ds2 ws2 nd2
    cases e
    obtain ⟨u1, a1, a2, a3, a4, a5⟩ := hb _ rfl
    refine ⟨u1, a1, a2, a3, a4, fun hn k => ?_⟩
    dsimp only at hn
    simp only [allT, Bool.and_eq_true] at hn
    obtain ⟨hx, hn⟩ := hn
    have : x = false := by simpa using hx
    subst this
    exact (hc k).trans (a5 hn k)
  · cases e
theorem jC_sound (hT : SoundT P T) : ∀ (n : Nat) (c : Code) (τ : Tm) (t : List AV) (H : List AB) (s : JS), R τ t → (jC P T n c).app τ H = some s → JOK P c t H s
  | 0, _, _, _, _, _, _, e => by cases e
  | n + 1, c, τ, t, H, s, hR, e => by
    unfold jC at e
    split at e
    · cases e
      exact ⟨t, hR, rfl, fun _ _ => rfl, Pt.refl _ _, fun _ k => (Reach.refl k t H).head fun _ _ _ _ => step_skip⟩
    · rename_i a b
      have ia := jC_sound hT n a
      have ib := jC_sound hT n b
      cases hf : jC P T n a with
      | mk f => cases hg : jC P T n b with
        | mk g =>
          rw [hf] at e ia; rw [hg] at e ib
          dsimp only [CF.app] at e ia ib
          split at e <;> (try (cases e; done))
          rename_i t1 H1 ds1 ws1 nd1 h1
          split at e <;> cases e
          rename_i t2 H2 ds2 ws2 nd2 h2
          obtain ⟨u1, a1, a2, a3, a4, a5⟩ := ia _ _ _ _ hR h1
          obtain ⟨u2, b1, b2, b3, b4, b5⟩ := ib _ _ _ _ a1 h2
          refine ⟨u2, b1, b2.trans a2, fun m hm => ?_, a4.trans b4, fun hn k => ?_⟩
          · simp only [List.mem_append, not_or] at hm
            rw [b3 m hm.2, a3 m hm.1]
          · dsimp only at hn
            rw [allT_append, Bool.and_eq_true] at hn
            exact ((a5 hn.2 (.code b :: k)).trans (b5 hn.1 k)).head fun _ _ _ _ => step_seq
    · rename_i id c
      obtain ⟨u1, a1, a2, a3, a4, a5⟩ := jC_sound hT n c τ t H s hR e
      refine ⟨u1, a1, a2, a3, a4, fun hn k => ?_⟩
      have h1 := a5 hn (.inBlock id :: k)
      have h2 : Reach P (.inBlock id :: k) u1 s.H k u1 s.H := (Reach.refl k u1 s.H).head fun _ _ _ _ => step_inBlock
      exact (h1.trans h2).head fun _ _ _ _ => step_block
    · rename_i id ops draw
      split at e
      case h_2 => cases e
      rename_i hs
      unfold strR at hs
      rw [Bool.and_eq_true] at hs
      have hd : draw = false ∨ (P.follows .mixedOrders && drawOK ops (qM draw ops)) = true := by
        cases draw with
        | false => exact .inl rfl
        | true => exact .inr (by simpa using hs.2)
      obtain ⟨u1, a1, a2, a3, a4, a5⟩ := jReg_sound (id := id) hT hd hR e
      exact ⟨u1, a1, a2, a3, a4, fun hn k => region_reach (a5 hn)⟩
    · rename_i c a b
      have ia := jC_sound hT n a
      have ib := jC_sound hT n b
      have hO := cOpd_eq c τ
      rw [hR.ev] at hO
      cases hok : okOpd c with
      | false => rw [hok] at e; cases e
      | true =>
        cases hq : cOpd c with
        | mk q => cases hf : jC P T n a with
          | mk f => cases hg : jC P T n b with
            | mk g =>
              rw [hok, hq, hf, hg] at e
              rw [hq] at hO; rw [hf] at ia; rw [hg] at ib
              dsimp only [CF.app] at e ia ib hO
              rw [hO] at e
              split at e <;> (try (cases e; done))
              rename_i l x hv
              have one : ∀ (z : Code), z = (if x then a else b) → JOK P z t H s → JOK P (.cond c a b) t H s := fun z hz h => by
                obtain ⟨u1, a1, a2, a3, a4, a5⟩ := h
                refine ⟨u1, a1, a2, a3, a4, fun hn k => ?_⟩
                have := cond_reach (P := P) (x := a) (y := b) (k := k) (H := H) hok hv
                rw [← hz] at this
                exact this.trans (a5 hn k)
              split at e
              · split at e
                · exact one a rfl (ia _ _ _ _ hR e)
                · exact one b rfl (ib _ _ _ _ hR e)
              · exact jJoin_sound hR hok hv (fun s h => ia _ _ _ _ hR h) (fun s h => ib _ _ _ _ hR h) e
    · cases e
end
end Go.Ax

/- Code run, straight parts joined. -/
namespace Go.Ax
open Go

def hasG (ops : Array Oper) : Bool := ops.toList.any fun o => o.guard.isSome
section
variable (P : Program) (T : Table) (stop : List Item → Bool)
noncomputable def tryReg (ops : Array Oper) (draw : Bool) (t : Tm) (H : List AB) : Option JS :=
  match hasG ops && strR P ops draw with
  | true => (jReg P T ops draw).app t H
  | false => none
noncomputable def tryCond (c : Operand) (a b : Code) (t : Tm) (H : List AB) : Option JS :=
  match strC P 50 (.cond c a b) with
  | true => (jC P T 50 (.cond c a b)).app t H
  | false => none
/-- Like 'cRun'. -/
noncomputable def jRun : Nat → List Item → Tm → List AB → List Bool → KB → (List Item → KB) → Res
  | 0, _, _, _, _, _, _ => .fail
  | n + 1, todo, t, H, nd, KE, KS =>
    match cNext stop 100 todo with
    | .done => KE t H nd
    | .stop k => KS k t H nd
    | .region _ ops draw k => match tryReg P T ops draw t H with
      | some ⟨t', H', _, _, nd'⟩ => match stop k with
        | true => KS k t' H' (nd' ++ nd)
        | false => jRun n k t' H' (nd' ++ nd) KE KS
      | none => match cRegion P T ops draw, stop k with
        | .mk f, true => f t H nd (KS k)
        | .mk f, false => f t H nd fun t H nd => jRun n k t H nd KE KS
    | .cond c a b k => match tryCond P T c a b t H with
      | some ⟨t', H', _, _, nd'⟩ => match stop k with
        | true => KS k t' H' (nd' ++ nd)
        | false => jRun n k t' H' (nd' ++ nd) KE KS
      | none => match okOpd c, cOpd c, stop (.code a :: k), stop (.code b :: k) with
        | true, .mk f, sa, sb => match f t with
          | .b l x => match l with
            | true => match x with
              | true => match sa with
                | true => KS (.code a :: k) t H nd
                | false => jRun n (.code a :: k) t H nd KE KS
              | false => match sb with
                | true => KS (.code b :: k) t H nd
                | false => jRun n (.code b :: k) t H nd KE KS
            | false => .ite x
              (match sa with
                | true => KS (.code a :: k) t H nd
                | false => jRun n (.code a :: k) t H nd KE KS)
              (match sb with
                | true => KS (.code b :: k) t H nd
                | false => jRun n (.code b :: k) t H nd KE KS)
          | _ => .fail
        | false, _, _, _ => .fail
    | .fail => .fail
end
section
variable {P : Program} {T : Table}
theorem jRun_sound {stop : List Item → Bool} (hT : SoundT P T) (KE : KB) (KS : List Item → KB) : ∀ (n : Nat) (todo : List Item) (τ : Tm) (t : List AV) (H : List AB) (nd : List Bool), R τ t → (jRun P T stop n todo τ H nd KE KS).sel = .fail ∨
    (∃ t' H' nd', (jRun P T stop n todo τ H nd KE KS).sel = (KE (ofL t') H' nd').sel ∧ (allT nd' = true → allT nd = true ∧ Ends P todo t H t' H')) ∨
    (∃ todo' t' H' nd', (jRun P T stop n todo τ H nd KE KS).sel = (KS todo' (ofL t') H' nd').sel ∧ (allT nd' = true → allT nd = true ∧ Reach P todo t H todo' t' H'))
  | 0, _, _, _, _, _, _ => .inl rfl
  | n + 1, todo, τ, t, H, nd, h => by
    have hN := cNext_ok (P := P) stop t H 100 todo
    have goon : ∀ (k : List Item) (τ1 : Tm) (t1 : List AV) (H1 : List AB) (nd1 : List Bool), R τ1 t1 →
        ((match stop k with
          | true => KS k τ1 H1 nd1
          | false => jRun P T stop n k τ1 H1 nd1 KE KS).sel = .fail ∨
        (∃ t' H' nd', (match stop k with
          | true => KS k τ1 H1 nd1
          | false => jRun P T stop n k τ1 H1 nd1 KE KS).sel = (KE (ofL t') H' nd').sel ∧ (allT nd' = true → allT nd1 = true ∧ Ends P k t1 H1 t' H')) ∨
        (∃ todo' t' H' nd', (match stop k with
          | true => KS k τ1 H1 nd1
          | false => jRun P T stop n k τ1 H1 nd1 KE KS).sel = (KS todo' (ofL t') H' nd').sel ∧ (allT nd' = true → allT nd1 = true ∧ Reach P k t1 H1 todo' t' H'))) := fun k τ1 t1 H1 nd1 h1 => by
      cases stop k with
      | true => exact .inr (.inr ⟨k, t1, H1, nd1, by rw [h1.uniq], fun hn => ⟨hn, .refl _ _ _⟩⟩)
      | false => exact jRun_sound hT KE KS n k τ1 t1 H1 nd1 h1
    have joined : ∀ (k : List Item) (s : JS) (c : Code), Reach P todo t H (.code c :: k) t H → JOK P c t H s →
        ((match stop k with
          | true => KS k s.t s.H (s.nd ++ nd)
          | false => jRun P T stop n k s.t s.H (s.nd ++ nd) KE KS).sel = .fail ∨
        (∃ t' H' nd', (match stop k with
          | true => KS k s.t s.H (s.nd ++ nd)
          | false => jRun P T stop n k s.t s.H (s.nd ++ nd) KE KS).sel = (KE (ofL t') H' nd').sel ∧ (allT nd' = true → allT nd = true ∧ Ends P todo t H t' H')) ∨
        (∃ todo' t' H' nd', (match stop k with
          | true => KS k s.t s.H (s.nd ++ nd)
          | false => jRun P T stop n k s.t s.H (s.nd ++ nd) KE KS).sel = (KS todo' (ofL t') H' nd').sel ∧ (allT nd' = true → allT nd = true ∧ Reach P todo t H todo' t' H'))) := fun k s c hto hj => by
      obtain ⟨u, a1, _, _, _, a5⟩ := hj
      rcases goon k s.t u s.H (s.nd ++ nd) a1 with h3 | ⟨t', H', nd', h3, h4⟩ | ⟨todo', t', H', nd', h3, h4⟩
      · exact .inl h3
      · refine .inr (.inl ⟨t', H', nd', h3, fun hn => ?_⟩)
        obtain ⟨h5, h6⟩ := h4 hn
        rw [allT_append, Bool.and_eq_true] at h5
        exact ⟨h5.2, (hto.trans (a5 h5.1 k)).ends h6⟩
      · refine .inr (.inr ⟨todo', t', H', nd', h3, fun hn => ?_⟩)
        obtain ⟨h5, h6⟩ := h4 hn
        rw [allT_append, Bool.and_eq_true] at h5
        exact ⟨h5.2, (hto.trans (a5 h5.1 k)).trans h6⟩
    unfold jRun
    cases hc : cNext stop 100 todo with
    | done =>
      rw [hc] at hN
      exact .inr (.inl ⟨t, H, nd, by rw [h.uniq], fun hn => ⟨hn, hN⟩⟩)
    | stop k =>
      rw [hc] at hN
      exact .inr (.inr ⟨k, t, H, nd, by rw [h.uniq], fun hn => ⟨hn, hN⟩⟩)
    | fail => exact .inl rfl
    | region id ops draw k =>
      rw [hc] at hN
      have hN : Reach P todo t H (.code (.region id ops draw) :: k) t H := hN
      dsimp only
      cases hs : tryReg P T ops draw τ H with
      | some s =>
        refine joined k s _ hN ?_
        unfold tryReg at hs
        split at hs
        case h_2 => cases hs
        rename_i hst
        rw [Bool.and_eq_true] at hst
        have hst := hst.2
        unfold strR at hst
        rw [Bool.and_eq_true] at hst
        have hd : draw = false ∨ (P.follows .mixedOrders && drawOK ops (qM draw ops)) = true := by
          cases draw with
          | false => exact .inl rfl
          | true => exact .inr (by simpa using hst.2)
        obtain ⟨u1, a1, a2, a3, a4, a5⟩ := jReg_sound (id := id) hT hd h hs
        exact ⟨u1, a1, a2, a3, a4, fun hn k => region_reach (a5 hn)⟩
      | none =>
      dsimp only
      have hR := fun K => cRegion_sound hT id ops draw k h H nd K
      cases hf : cRegion P T ops draw with
      | mk f =>
        rw [hf] at hR
        dsimp only [CF.app] at hR
        cases hs : stop k with
        | true =>
          dsimp only
          rcases hR (KS k) with h1 | ⟨t1, H1, nd1, h1, h2⟩
          · exact .inl h1
          · exact .inr (.inr ⟨k, t1, H1, nd1, h1, fun hn => ⟨(h2 hn).1, hN.trans (h2 hn).2⟩⟩)
        | false =>
          dsimp only
          rcases hR (fun t H nd => jRun P T stop n k t H nd KE KS) with h1 | ⟨t1, H1, nd1, h1, h2⟩
          · exact .inl h1
          rw [h1]
          have := goon k (ofL t1) t1 H1 nd1 (ofL_R t1)
          rw [hs] at this
          rcases this with h3 | ⟨t', H', nd', h3, h4⟩ | ⟨todo', t', H', nd', h3, h4⟩
          · exact .inl h3
          · refine .inr (.inl ⟨t', H', nd', h3, fun hn => ?_⟩)
            obtain ⟨h5, h6⟩ := h4 hn
            exact ⟨(h2 h5).1, (hN.trans (h2 h5).2).ends h6⟩
          · refine .inr (.inr ⟨todo', t', H', nd', h3, fun hn => ?_⟩)
            obtain ⟨h5, h6⟩ := h4 hn
            exact ⟨(h2 h5).1, (hN.trans (h2 h5).2).trans h6⟩
    | cond c a b k =>
      rw [hc] at hN
      have hN : Reach P todo t H (.code (.cond c a b) :: k) t H := hN
      dsimp only
      cases hs : tryCond P T c a b τ H with
      | some s =>
        refine joined k s _ hN ?_
        unfold tryCond at hs
        split at hs
        case h_2 => cases hs
        exact jC_sound hT 50 _ _ _ _ _ h hs
      | none =>
      dsimp only
      have hO := cOpd_eq c τ
      rw [h.ev] at hO
      cases hok : okOpd c with
      | false => exact .inl rfl
      | true =>
        cases hf : cOpd c with
        | mk f =>
          rw [hf] at hO
          dsimp only [CF.app] at hO ⊢
          rw [hO]
          cases hv : evA t c
          case b l v =>
            have two : ∀ z : Code, z = (if v then a else b) →
                ((match stop (.code z :: k) with
                  | true => KS (.code z :: k) τ H nd
                  | false => jRun P T stop n (.code z :: k) τ H nd KE KS).sel = .fail ∨
                (∃ t' H' nd', (match stop (.code z :: k) with
                  | true => KS (.code z :: k) τ H nd
                  | false => jRun P T stop n (.code z :: k) τ H nd KE KS).sel = (KE (ofL t') H' nd').sel ∧ (allT nd' = true → allT nd = true ∧ Ends P todo t H t' H')) ∨
                (∃ todo' t' H' nd', (match stop (.code z :: k) with
                  | true => KS (.code z :: k) τ H nd
                  | false => jRun P T stop n (.code z :: k) τ H nd KE KS).sel = (KS todo' (ofL t') H' nd').sel ∧ (allT nd' = true → allT nd = true ∧ Reach P todo t H todo' t' H'))) := fun z hz => by
              have hcr := hN.trans (cond_reach (P := P) (x := a) (y := b) (k := k) (H := H) hok hv)
              rw [← hz] at hcr
              rcases goon (.code z :: k) τ t H nd h with h3 | ⟨t', H', nd', h3, h4⟩ | ⟨todo', t', H', nd', h3, h4⟩
              · exact .inl h3
              · exact .inr (.inl ⟨t', H', nd', h3, fun hn => ⟨(h4 hn).1, hcr.ends (h4 hn).2⟩⟩)
              · exact .inr (.inr ⟨todo', t', H', nd', h3, fun hn => ⟨(h4 hn).1, hcr.trans (h4 hn).2⟩⟩)
            cases l with
            | true => cases v with
              | true => exact two _ rfl
              | false => exact two _ rfl
            | false => cases v with
              | true => exact two _ rfl
              | false => exact two _ rfl
          all_goals exact .inl rfl
end

/-! ### Calls -/
section
variable (P : Program)
noncomputable def jFun (T : Table) (n : Nat) (f : FuncId) : CF (List AV → List AB → List Bool → KF → Res) :=
  match P.funcs[f]? with
  | some fn => match fn.body with
    | some c => .mk fun args H nd K => match Nat.ble args.length fn.ntmps with
      | true => jRun P T (fun _ => false) n [.code c] (stAll (mkT fn.ntmps fn.ntmps) 0 args) H nd (retB P fn K) (fun _ _ _ _ => .fail)
      | false => .fail
    | none => .mk fun _ _ _ _ => .fail
  | none => .mk fun _ _ _ _ => .fail
/-- Like 'cdeep'. -/
noncomputable def jdeep (l : List (FuncId × Table)) (inl : List FuncId) (n : Nat) : Nat → CTab
  | 0 => fun _ => .mk fun _ _ _ _ => .fail
  | d + 1 => fun f => match lookC l f with
    | some T => .mk (T f)
    | none => match jFun P (tabOf (jdeep l inl n d)) n f with
      | .mk F => match inl.any (Nat.beq f) with
        | true => .mk F
        | false => .mk fun args H nd K => match joinR H.length (F args (roH H) [] fun v H' nd' => .ret v H' nd') with
          | some (v, nd') => K v H (nd' ++ nd)
          | none => .fail
end
section
variable {P : Program}
theorem jFun_sound {T : Table} (hT : SoundT P T) (n : Nat) : SoundT P (tabOf (jFun P T n)) := by
  intro f args H nd K
  unfold tabOf jFun
  cases hf : P.funcs[f]? with
  | none => exact .inl rfl
  | some fn =>
    dsimp only
    cases hc : fn.body with
    | none => exact .inl rfl
    | some c =>
      dsimp only [CF.app]
      cases hle : Nat.ble args.length fn.ntmps with
      | false => exact .inl rfl
      | true =>
        have hle := Nat.le_of_ble_eq_true hle
        have hR := stAll_R args _ _ 0 (mkT_R fn.ntmps fn.ntmps (Nat.le_refl _))
        rw [args_list args fn.ntmps hle] at hR
        dsimp only
        rcases jRun_sound hT (retB P fn K) (fun _ _ _ _ => .fail) n [.code c] _ _ H nd hR with h | ⟨t', H', nd', h1, h2⟩ | ⟨_, _, _, _, h1, _⟩
        · exact .inl h
        · rw [h1]
          unfold retB
          rw [resB_eq P (ofL_R t')]
          cases hr : resV P t' H' fn.results.toList with
          | none => exact .inl rfl
          | some z =>
            obtain ⟨vs, m⟩ := z
            refine .inr ⟨tupV vs, H', m ++ nd', rfl, fun hn => ?_⟩
            rw [allT_append, Bool.and_eq_true] at hn
            exact ⟨(h2 hn.2).1, call_of_ends hf hc (h2 hn.2).2 hr hn.1⟩
        · exact .inl h1
theorem jdeep_sound {l : List (FuncId × Table)} {inl : List FuncId} {n : Nat} (h : ∀ p ∈ l, SoundAt P p.1 p.2) : ∀ d, SoundT P (tabOf (jdeep P l inl n d))
  | 0 => fun _ _ _ _ _ => .inl rfl
  | d + 1 => fun f args H nd K => by
    have ih := jFun_sound (jdeep_sound (inl := inl) (n := n) h d) n
    have hq := quiet_sound ih
    unfold tabOf jdeep
    cases hl : lookC l f with
    | some T => exact h _ (lookC_some hl) args H nd K
    | none =>
      have h1 := ih f args H nd K
      have h2 := hq f args H nd K
      unfold quiet at h2
      unfold tabOf at h1 h2
      dsimp only
      cases hF : jFun P (tabOf (jdeep P l inl n d)) n f with
      | mk F =>
        have e : jFun P (fun f args H nd K => (jdeep P l inl n d f).app args H nd K) n f = .mk F := hF
        rw [e] at h1 h2
        dsimp only [CF.app] at h1 h2
        cases inl.any (Nat.beq f) with
        | true => exact h1
        | false => exact h2
/-- Like 'cupto'. -/
noncomputable def jupto (P : Program) (T : Table) (stop : List Item → Bool) (n : Nat) (todo : List Item) (t : List AV) (H : List AB) : Res :=
  jRun P T stop n todo (ofL t) H [] (fun τ H nd => .ret (.tup (listT τ)) H nd) (fun todo τ H nd => .stop todo (listT τ) H nd)
theorem jupto_reach {T : Table} {stop : List Item → Bool} {n : Nat} {todo todo' : List Item} {t t' : List AV} {H H' : List AB} {nd : List Bool} (hT : SoundT P T) (h : (jupto P T stop n todo t H).sel = .stop todo' t' H' nd) (hn : allT nd = true) : Reach P todo t H todo' t' H' := by
  rcases jRun_sound (stop := stop) hT (fun τ H nd => .ret (.tup (listT τ)) H nd) (fun todo τ H nd => .stop todo (listT τ) H nd) n todo _ t H [] (ofL_R t) with h1 | ⟨t1, H1, nd1, h1, h2⟩ | ⟨todo1, t1, H1, nd1, h1, h2⟩
  · unfold jupto at h; rw [h] at h1; cases h1
  · unfold jupto at h; rw [h] at h1; cases h1
  · unfold jupto at h; rw [h, (ofL_R t1).list] at h1; cases h1
    exact (h2 hn).2
theorem jupto_ends {T : Table} {stop : List Item → Bool} {n : Nat} {todo : List Item} {t t' : List AV} {H H' : List AB} {nd : List Bool} (hT : SoundT P T) (h : (jupto P T stop n todo t H).sel = .ret (.tup t') H' nd) (hn : allT nd = true) : Ends P todo t H t' H' := by
  rcases jRun_sound (stop := stop) hT (fun τ H nd => .ret (.tup (listT τ)) H nd) (fun todo τ H nd => .stop todo (listT τ) H nd) n todo _ t H [] (ofL_R t) with h1 | ⟨t1, H1, nd1, h1, h2⟩ | ⟨todo1, t1, H1, nd1, h1, h2⟩
  · unfold jupto at h; rw [h] at h1; cases h1
  · unfold jupto at h; rw [h, (ofL_R t1).list] at h1; cases h1
    exact (h2 hn).2
  · unfold jupto at h; rw [h] at h1; cases h1
end
end Go.Ax

/- spec.l01Next: the next number of a source. -/
namespace Go.Ax
open Go Go.Proofs

noncomputable def nxH (h : Int) : Int := IntKind.u64.wrap (IntKind.u64.wrap (h * 6364136223846793005) + 1442695040888963407)
noncomputable def nxX (h : Int) : Int := IntKind.i64.wrap (IntKind.u64.wrap (↑(BitVec.ofInt IntKind.u64.bits ((nxH h).fdiv (2 ^ min (Int.toNat 33) IntKind.u64.bits)) &&& BitVec.ofInt IntKind.u64.bits 2147483647).toNat))
noncomputable def nxB (c : Cd) (a : Nat) : Int := IntKind.i64.wrap (c.bytes.getD (c.off + (Int.ofNat a).toNat * 1 - c.off) 0)
/-- The number. -/
noncomputable def nxV (c : Cd) (a : Nat) (h n : Int) : Int :=
  if n < 1 then 0 else if Int.ofNat a < ↑c.len then (IntKind.i64.wrap (nxX h + nxB c a)).tmod n else (nxX h).tmod n
noncomputable def nxA (c : Cd) (a : Nat) (n : Int) : Nat := if n < 1 then a else if a < c.len then a + 1 else a
noncomputable def nxS (h n : Int) : Int := if n < 1 then h else nxH h

theorem nxX_bound (h : Int) : 0 ≤ nxX h ∧ nxX h < 2147483648 := by
  unfold nxX
  generalize BitVec.ofInt IntKind.u64.bits ((nxH h).fdiv (2 ^ min (Int.toNat 33) IntKind.u64.bits)) = x
  have h1 : (x &&& BitVec.ofInt IntKind.u64.bits 2147483647).toNat ≤ 2147483647 := by
    rw [BitVec.toNat_and]
    exact Nat.le_trans Nat.and_le_right (by decide)
  generalize (x &&& BitVec.ofInt IntKind.u64.bits 2147483647).toNat = y at h1
  have h2 : IntKind.u64.wrap (y : Int) = y := by
    simp [IntKind.wrap, IntKind.bits, IntKind.signed]; omega
  rw [h2, wrap64_id (by omega) (by omega)]
  omega
theorem nxB_bound {c : Cd} (hc : goodB c = true) (a : Nat) : 0 ≤ nxB c a ∧ nxB c a < 256 := by
  have : 0 ≤ c.bytes.getD (c.off + (Int.ofNat a).toNat * 1 - c.off) 0 ∧ c.bytes.getD (c.off + (Int.ofNat a).toNat * 1 - c.off) 0 < 256 := by
    rw [List.getD_eq_getElem?_getD]
    cases hg : c.bytes[c.off + (Int.ofNat a).toNat * 1 - c.off]? with
    | none => exact ⟨by decide, by decide⟩
    | some b =>
      have hm : b ∈ c.bytes := List.mem_of_getElem? hg
      simp only [goodB, Bool.and_eq_true, List.all_eq_true, decide_eq_true_eq] at hc
      exact hc.2 b hm
  unfold nxB
  rw [wrap64_id (by omega) (by omega)]
  exact this
theorem nxV_bound {c : Cd} (hc : goodB c = true) (a : Nat) (h n : Int) : 0 ≤ nxV c a h n ∧ (1 ≤ n → nxV c a h n < n) := by
  unfold nxV
  have hx := nxX_bound h
  have hb := nxB_bound hc a
  split
  · exact ⟨by omega, by omega⟩
  · split
    · rw [wrap64_id (by omega) (by omega)]
      exact ⟨Int.tmod_nonneg _ (by omega), fun _ => Int.tmod_lt_of_pos _ (by omega)⟩
    · exact ⟨Int.tmod_nonneg _ (by omega), fun _ => Int.tmod_lt_of_pos _ (by omega)⟩

noncomputable def nextRes (c : Cd) (a : Nat) (h n : Int) : Res :=
  Res.ite (decide (n < 1)) (Res.ret (AV.i true IntKind.i64 (Int.ofNat 0)) [codeB c false, srcB c a h] [])
    (Res.ite (decide (Int.ofNat a < ↑c.len))
      (Res.ret (AV.i false IntKind.i64 ((IntKind.i64.wrap (nxX h + nxB c a)).tmod n))
        [codeB c false, AB.cells true (Cells.lit [AV.sl false 0 c.off c.len 0, AV.i false IntKind.i64 (IntKind.i64.wrap (Int.ofNat a + 1)), AV.i false IntKind.u64 (nxH h)])]
        [!n == 0, decide (c.off ≤ c.off + (Int.ofNat a).toNat * 1), decide (c.off + (Int.ofNat a).toNat * 1 - c.off < c.bytes.length), decide (0 ≤ Int.ofNat a) && decide (Int.ofNat a < ↑c.len)])
      (Res.ret (AV.i false IntKind.i64 ((nxX h).tmod n)) [codeB c false, srcB c a (nxH h)] [!n == 0]))
theorem next_run (c : Cd) (a : Nat) (h n : Int) :
    runF Try.prog noT 200 96 [.p true 1 0, .i false .i64 n] [codeB c false, srcB c a h] [] (fun v H nd => .ret v H nd) = nextRes c a h n := by kernel_rfl

theorem next_ok {c : Cd} (hc : goodB c = true) (a : Nat) (h n : Int) : SrcOK Try.prog 96 [.i false .i64 n] c a h (.i false .i64 (nxV c a h n)) (nxA c a n) (nxS h n) := by
  have hr := next_run c a h n
  have hS := runF_sound (noT_sound Try.prog) 200
  have hg := hc
  simp only [goodB, Bool.and_eq_true, decide_eq_true_eq] at hg
  by_cases hn : n < 1
  · refine ⟨_, (call_of_sel (H' := [codeB c false, srcB c a h]) (nd := []) hS (v := .i true .i64 (Int.ofNat 0)) ?_ rfl).weaken ?_, ?_, rfl, rfl⟩
    · rw [hr]; simp [nextRes, Res.sel, hn]
    · intro σ x r
      simp only [nxV, hn, if_true]
      cases r; exact .i _ _
    · simp [nxA, nxS, hn]; rfl
  · have hn0 : ¬ n = 0 := by omega
    by_cases ha : a < c.len
    · refine ⟨_, (call_of_sel (H' := [codeB c false, AB.cells true (Cells.lit [AV.sl false 0 c.off c.len 0, AV.i false IntKind.i64 (IntKind.i64.wrap (Int.ofNat a + 1)), AV.i false IntKind.u64 (nxH h)])])
        (nd := [!n == 0, decide (c.off ≤ c.off + (Int.ofNat a).toNat * 1), decide (c.off + (Int.ofNat a).toNat * 1 - c.off < c.bytes.length), decide (0 ≤ Int.ofNat a) && decide (Int.ofNat a < ↑c.len)])
        hS (v := AV.i false IntKind.i64 ((IntKind.i64.wrap (nxX h + nxB c a)).tmod n)) ?_ ?_).weaken ?_, ?_, rfl, rfl⟩
      · rw [hr]
        have : Int.ofNat a < ↑c.len := by simp; omega
        simp only [nextRes, Res.sel, hn, decide_false, Bool.false_eq_true, if_false, this, decide_true, if_true]
      · have hlt : a < c.bytes.length := by omega
        simp [allT, hn0]
        exact ⟨hlt, ha⟩
      · intro σ x r
        have : Int.ofNat a < ↑c.len := by simp; omega
        simp only [nxV, hn, if_false, this, if_true]
        exact r
      · have h1 : IntKind.i64.wrap (Int.ofNat a + 1) = Int.ofNat (a + 1) := by
          rw [wrap64_id] <;> simp <;> omega
        rw [h1]
        simp only [nxA, nxS, hn, if_false, ha, if_true]
        rfl
    · refine ⟨_, (call_of_sel (H' := [codeB c false, srcB c a (nxH h)]) (nd := [!n == 0]) hS (v := AV.i false IntKind.i64 ((nxX h).tmod n)) ?_ ?_).weaken ?_, ?_, rfl, rfl⟩
      · rw [hr]
        have : ¬ Int.ofNat a < ↑c.len := by simp; omega
        simp only [nextRes, Res.sel, hn, decide_false, Bool.false_eq_true, if_false, this]
      · simp [allT, hn0]
      · intro σ x r
        have : ¬ Int.ofNat a < ↑c.len := by simp; omega
        simp only [nxV, hn, if_false, this]
        exact r
      · simp only [nxA, nxS, hn, if_false, ha]
        rfl
end Go.Ax
