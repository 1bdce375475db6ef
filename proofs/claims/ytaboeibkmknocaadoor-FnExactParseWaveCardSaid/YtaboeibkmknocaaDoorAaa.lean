/- The package variables of this seat that code we reach loads, and what their cells hold. -/
import Derived.Orders
import Derived.Laws.Cells
import Derived.Laws.World
import Derived.Below
import Derived.Laws.Rows
import Derived.Laws.StructEq
import Derived.Lib.IfaceNeq
import Derived.Laws.Strings
namespace Go.Ax
open Go

/-- nil or an interface. -/
def isIfc (ev : Value) : Prop := ev = .nilIface ∨ ∃ te pe, ev = .iface te pe
/-- A whole number of the platform's kind. -/
def isI64 (ev : Value) : Prop := ∃ n, ev = .int .i64 n
/-- Block, place, what the cell holds: strconv's two errors, the greatest length of bytealg, the place of 16 in the table of trailing zeros. -/
def baseC : List (Nat × Nat × (Value → Prop)) := [(5, 0, isIfc), (6, 0, isIfc), (2, 0, isI64), (8, 15, (· = .int .u8 4))]
end Go.Ax

/- Abstract values, abstract memory, and how the model's values and worlds stand to them. -/
namespace Go.Ax
open Go

/-- Abstract values: pointers and slices name blocks by numbers of their own. The Bool 'l' tells whether what follows is a closed term (so that a test of it may be decided). It means nothing. -/
inductive AV where
  | b (l : Bool) (x : Bool)
  | i (l : Bool) (k : IntKind) (n : Int)
  | f (l : Bool) (k : FloatKind) (x : Nat)
  | c (l : Bool) (k : FloatKind) (x y : Nat)
  | s (l : Bool) (x : List UInt8)
  | p (l : Bool) (id off : Nat)
  | pnil
  | sl (l : Bool) (id off len z : Nat)
  | slnil
  | sle
  | fn (g : FuncId) (first cap : List AV)
  | fnil
  | ifc (t : TypeId) (v : AV)
  | inil
  | agg (l : List AV)
  | tup (l : List AV)
  | any
  deriving Inhabited

/-- Two words of a float that are one for us: the same, or both no number. -/
def FR (k : FloatKind) (x y : Nat) : Prop := y = x ∨ ((k.decode x).isNaN = true ∧ (k.decode y).isNaN = true)

theorem FR.rfl' {k : FloatKind} {x : Nat} : FR k x x := Or.inl rfl

def Ext (σ τ : List (Nat × Nat)) : Prop := ∀ (i : Nat) (b : Nat × Nat), σ[i]? = some b → τ[i]? = some b
theorem Ext.refl (σ : List (Nat × Nat)) : Ext σ σ := fun _ _ h => h
theorem Ext.trans {a b c : List (Nat × Nat)} (h : Ext a b) (k : Ext b c) : Ext a c := fun i x hx => k i x (h i x hx)
theorem Ext.append (σ τ : List (Nat × Nat)) : Ext σ (σ ++ τ) := fun i b h => by
  have hi : i < σ.length := by
    rcases Nat.lt_or_ge i σ.length with h' | h'
    · exact h'
    · simp [List.getElem?_eq_none h'] at h
  rw [List.getElem?_append_left hi]; exact h

mutual
inductive Rel (σ : List (Nat × Nat)) : AV → Value → Prop
  | b {l : Bool} (x : Bool) : Rel σ (.b l x) (.bool x)
  | i {l : Bool} (k : IntKind) (n : Int) : Rel σ (.i l k n) (.int k n)
  | f {l : Bool} {k : FloatKind} {x y : Nat} (h : FR k x y) : Rel σ (.f l k x) (.float k y)
  | c {l : Bool} {k : FloatKind} {x y x' y' : Nat} (h : FR k x x') (h' : FR k y y') : Rel σ (.c l k x y) (.complex k x' y')
  | s {l : Bool} (x : List UInt8) : Rel σ (.s l x) (.string ⟨x.toArray⟩)
  | p {l : Bool} {id off b c : Nat} (h : σ[id]? = some (b, c)) : Rel σ (.p l id off) (.pointer (some ⟨b, off, none⟩))
  | pnil : Rel σ .pnil (.pointer none)
  | sl {l : Bool} {id off len z cap b c : Nat} (h : σ[id]? = some (b, c)) (hc : len ≤ cap) (hz : off + cap * z ≤ c) : Rel σ (.sl l id off len z) (.slice (some ⟨b, off, none⟩) len cap)
  | slz {l : Bool} {id off : Nat} {a : Option Addr} {cap : Nat} : Rel σ (.sl l id off 0 0) (.slice a 0 cap)
  | slnil : Rel σ .slnil (.slice none 0 0)
  | sle {a : Addr} : Rel σ .sle (.slice (some a) 0 0)
  | fn {g : FuncId} {first cap : List AV} {fs cs : Array Value} (h : RelL σ first fs.toList) (h' : RelL σ cap cs.toList) : Rel σ (.fn g first cap) (.func (.func g) fs cs)
  | fnil : Rel σ .fnil .nilFunc
  | ifc {t : TypeId} {a : AV} {v : Value} (h : Rel σ a v) : Rel σ (.ifc t a) (.iface t v)
  | inil : Rel σ .inil .nilIface
  | agg {l : List AV} {cs : Array Value} (h : RelL σ l cs.toList) : Rel σ (.agg l) (.agg cs)
  | tup {l : List AV} {cs : Array Value} (h : RelL σ l cs.toList) : Rel σ (.tup l) (.tuple cs)
  | any {v : Value} : Rel σ .any v
inductive RelL (σ : List (Nat × Nat)) : List AV → List Value → Prop
  | nil : RelL σ [] []
  | cons {a : AV} {v : Value} {as : List AV} {vs : List Value} (h : Rel σ a v) (hs : RelL σ as vs) : RelL σ (a :: as) (v :: vs)
end

mutual
theorem Rel.mono {σ τ : List (Nat × Nat)} (e : Ext σ τ) : ∀ {a : AV} {v : Value}, Rel σ a v → Rel τ a v
  | _, _, .b x => .b x
  | _, _, .i k n => .i k n
  | _, _, .f h => .f h
  | _, _, .c h h' => .c h h'
  | _, _, .s l => .s l
  | _, _, .p h => .p (e _ _ h)
  | _, _, .pnil => .pnil
  | _, _, .sl h hc hz => .sl (e _ _ h) hc hz
  | _, _, .slz => .slz
  | _, _, .slnil => .slnil
  | _, _, .sle => .sle
  | _, _, .fn h h' => .fn (RelL.mono e h) (RelL.mono e h')
  | _, _, .fnil => .fnil
  | _, _, .ifc h => .ifc (Rel.mono e h)
  | _, _, .inil => .inil
  | _, _, .agg h => .agg (RelL.mono e h)
  | _, _, .tup h => .tup (RelL.mono e h)
  | _, _, .any => .any
theorem RelL.mono {σ τ : List (Nat × Nat)} (e : Ext σ τ) : ∀ {a : List AV} {v : List Value}, RelL σ a v → RelL τ a v
  | _, _, .nil => .nil
  | _, _, .cons h hs => .cons (Rel.mono e h) (RelL.mono e hs)
end

theorem RelL.length {σ : List (Nat × Nat)} : ∀ {a : List AV} {v : List Value}, RelL σ a v → a.length = v.length
  | _, _, .nil => rfl
  | _, _, .cons _ hs => by simp [RelL.length hs]

theorem RelL.get {σ : List (Nat × Nat)} : ∀ {l : List AV} {v : List Value}, RelL σ l v → ∀ {j : Nat} {a : AV}, l[j]? = some a → ∃ x, v[j]? = some x ∧ Rel σ a x
  | _, _, .nil, j, a, h => by simp at h
  | _, _, .cons (v := v) h0 hs, 0, a, h => by
    simp at h; subst h; exact ⟨v, by simp, h0⟩
  | _, _, .cons h0 hs, j + 1, a, h => by
    simp at h
    obtain ⟨x, hx, hr⟩ := RelL.get hs h
    exact ⟨x, by simpa using hx, hr⟩

theorem RelL.of_get {σ : List (Nat × Nat)} : ∀ {l : List AV} {v : List Value}, l.length = v.length → (∀ (j : Nat) (a : AV) (x : Value), l[j]? = some a → v[j]? = some x → Rel σ a x) → RelL σ l v
  | [], [], _, _ => .nil
  | [], _ :: _, h, _ => by simp at h
  | _ :: _, [], h, _ => by simp at h
  | a :: l, x :: v, h, hr => .cons (hr 0 a x (by simp) (by simp)) (RelL.of_get (by simpa using h) (fun j b y hb hy => hr (j + 1) b y (by simpa using hb) (by simpa using hy)))

theorem RelL.append {σ : List (Nat × Nat)} : ∀ {l : List AV} {v : List Value} {l' : List AV} {v' : List Value}, RelL σ l v → RelL σ l' v' → RelL σ (l ++ l') (v ++ v')
  | _, _, _, _, .nil, h' => h'
  | _, _, _, _, .cons h hs, h' => .cons h (RelL.append hs h')

theorem RelL.map {σ : List (Nat × Nat)} {α : Type} (g : α → AV) (k : α → Value) (l : List α) (h : ∀ x ∈ l, Rel σ (g x) (k x)) : RelL σ (l.map g) (l.map k) := by
  induction l with
  | nil => exact .nil
  | cons x l ih => exact .cons (h x (by simp)) (ih fun y hy => h y (by simp [hy]))

/-! ### Lists that the kernel runs through -/
def getL : List AV → Nat → AV
  | [], _ => .tup []
  | a :: _, 0 => a
  | _ :: l, n + 1 => getL l n
def setL : List AV → Nat → AV → List AV
  | [], _, _ => []
  | _ :: l, 0, v => v :: l
  | a :: l, n + 1, v => a :: setL l n v

theorem getL_some : ∀ {l : List AV} {n : Nat}, n < l.length → l[n]? = some (getL l n)
  | a :: l, 0, _ => rfl
  | a :: l, n + 1, h => by simpa [getL] using getL_some (l := l) (n := n) (by simpa using h)
theorem getL_none : ∀ {l : List AV} {n : Nat}, l.length ≤ n → getL l n = .tup []
  | [], _, _ => rfl
  | _ :: _, 0, h => by simp at h
  | _ :: l, n + 1, h => getL_none (l := l) (by simpa using h)
theorem setL_eq : ∀ (l : List AV) (n : Nat) (v : AV), setL l n v = l.set n v
  | [], _, _ => rfl
  | _ :: _, 0, _ => rfl
  | a :: l, n + 1, v => by simp [setL, setL_eq l n v]
theorem getL_eq (l : List AV) (n : Nat) : getL l n = l.getD n (.tup []) := by
  rcases Nat.lt_or_ge n l.length with h | h
  · simp [getL_some h]
  · simp [getL_none h, List.getElem?_eq_none h]

/-- The cells of a block. -/
inductive Cells where
  | lit (l : List AV)
  | f32 (xs : List Nat)
  | c64 (xs : List (Nat × Nat))
  | ints (k : IntKind) (xs : List Int)
  | strs (xs : List (List UInt8))
  deriving Inhabited

def Cells.toL : Cells → List AV
  | .lit l => l
  | .f32 xs => xs.map (.f false .f32)
  | .c64 xs => xs.map fun z => .c false .f32 z.1 z.2
  | .ints k xs => xs.map (.i false k)
  | .strs xs => xs.map (.s false)
/-- Is the number of cells a closed term? -/
def Cells.isLit : Cells → Bool
  | .lit _ => true
  | _ => false
def Cells.len : Cells → Nat
  | .lit l => l.length
  | .f32 xs => xs.length
  | .c64 xs => xs.length
  | .ints _ xs => xs.length
  | .strs xs => xs.length
def Cells.get : Cells → Nat → AV
  | .lit l, j => getL l j
  | .f32 xs, j => .f false .f32 (xs.getD j 0)
  | .c64 xs, j => .c false .f32 (xs.getD j (0, 0)).1 (xs.getD j (0, 0)).2
  | .ints k xs, j => .i false k (xs.getD j 0)
  | .strs xs, j => .s false (xs.getD j [])
/-- One cell written; a value of another kind than the row's: not done. -/
def Cells.set : Cells → Nat → AV → Option Cells
  | .lit l, j, v => some (.lit (setL l j v))
  | .f32 xs, j, .f _ .f32 x => some (.f32 (xs.set j x))
  | .c64 xs, j, .c _ .f32 x y => some (.c64 (xs.set j (x, y)))
  | .ints k xs, j, .i _ k' x => if k = k' then some (.ints k (xs.set j x)) else none
  | .strs xs, j, .s _ x => some (.strs (xs.set j x))
  | _, _, _ => none
def Cells.range : Cells → Nat → Nat → List AV
  | .lit l, off, n => (l.drop off).take n
  | A, off, n => (List.range n).map fun j => A.get (off + j)

theorem Cells.len_eq (A : Cells) : A.toL.length = A.len := by cases A <;> simp [Cells.toL, Cells.len]
theorem Cells.get_some {A : Cells} {j : Nat} (h : j < A.len) : A.toL[j]? = some (A.get j) := by
  cases A with
  | lit l => exact getL_some h
  | _ => simp only [Cells.len] at h; simp [Cells.toL, Cells.get, h]
/-- The same value without its tag. -/
def AV.bare : AV → AV
  | .b _ x => .b false x
  | .i _ k n => .i false k n
  | .f _ k x => .f false k x
  | .c _ k x y => .c false k x y
  | .s _ x => .s false x
  | .p _ id off => .p false id off
  | .sl _ id off len z => .sl false id off len z
  | v => v
theorem Rel.bare {σ : List (Nat × Nat)} {a : AV} {v : Value} (h : Rel σ a v) : Rel σ a.bare v := by
  cases h <;> first | exact .b _ | exact .i _ _ | (refine .f ?_; assumption) | (refine .c ?_ ?_ <;> assumption) | exact .s _ | (refine .p ?_; assumption) | (refine .sl ?_ ?_ ?_ <;> assumption) | exact .slz | (constructor <;> assumption)
theorem Cells.set_toL {A B : Cells} {j : Nat} {v : AV} (h : A.set j v = some B) : B.toL = A.toL.set j v ∨ B.toL = A.toL.set j v.bare := by
  cases A with
  | lit l => simp [Cells.set] at h; subst h; exact .inl (by simp [Cells.toL, setL_eq])
  | f32 xs => cases v <;> simp [Cells.set] at h; rename_i k x; cases k <;> simp at h; subst h; exact .inr (by simp [Cells.toL, AV.bare])
  | c64 xs => cases v <;> simp [Cells.set] at h; rename_i k x y; cases k <;> simp at h; subst h; exact .inr (by simp [Cells.toL, AV.bare])
  | ints k xs => cases v <;> simp [Cells.set] at h; obtain ⟨rfl, rfl⟩ := h; exact .inr (by simp [Cells.toL, AV.bare])
  | strs xs => cases v <;> simp [Cells.set] at h; subst h; exact .inr (by simp [Cells.toL, AV.bare])
theorem Cells.range_eq {A : Cells} {off n : Nat} (h : off + n ≤ A.len) : A.range off n = (A.toL.drop off).take n := by
  cases A with
  | lit l => rfl
  | _ =>
    apply List.ext_getElem?
    intro j
    simp only [Cells.range, List.getElem?_map, List.getElem?_take, List.getElem?_drop]
    by_cases hj : j < n
    · rw [if_pos hj, Cells.get_some (by omega)]
      simp [hj]
    · simp [hj]

/-- A block: gone, or cells that may be written or not, or bytes from a place on that are not written (what comes ahead of them is not told). -/
inductive AB where
  | dead
  | cells (rw : Bool) (A : Cells)
  | code (o : Nat) (xs : List Int)
  deriving Inhabited
def AB.rw : AB → Bool
  | .dead => false
  | .cells r _ => r
  | .code _ _ => false
def AB.live : AB → Bool
  | .dead => false
  | .cells _ _ => true
  | .code _ _ => true
def getB : List AB → Nat → AB
  | [], _ => .dead
  | a :: _, 0 => a
  | _ :: l, n + 1 => getB l n
def setB : List AB → Nat → AB → List AB
  | [], _, _ => []
  | _ :: l, 0, v => v :: l
  | a :: l, n + 1, v => a :: setB l n v
theorem setB_length : ∀ (l : List AB) (n : Nat) (v : AB), (setB l n v).length = l.length
  | [], _, _ => rfl
  | _ :: _, 0, _ => rfl
  | a :: l, n + 1, v => by simp [setB, setB_length l n v]
theorem getB_setB_same : ∀ {l : List AB} {n : Nat} {v : AB}, n < l.length → getB (setB l n v) n = v
  | _ :: _, 0, _, _ => rfl
  | _ :: l, n + 1, v, h => getB_setB_same (l := l) (by simpa using h)
theorem getB_setB_ne : ∀ {l : List AB} {n m : Nat} {v : AB}, n ≠ m → getB (setB l n v) m = getB l m
  | [], _, _, _, _ => rfl
  | _ :: _, 0, 0, _, h => absurd rfl h
  | _ :: _, 0, _ + 1, _, _ => rfl
  | _ :: _, _ + 1, 0, _, _ => rfl
  | _ :: l, n + 1, m + 1, v, h => getB_setB_ne (l := l) (fun e => h (by rw [e]))
theorem getB_append_left : ∀ {l k : List AB} {n : Nat}, n < l.length → getB (l ++ k) n = getB l n
  | _ :: _, _, 0, _ => rfl
  | _ :: l, k, n + 1, h => getB_append_left (l := l) (by simpa using h)
theorem getB_append_right : ∀ {l k : List AB} {n : Nat}, l.length ≤ n → getB (l ++ k) n = getB k (n - l.length)
  | [], _, _, _ => rfl
  | _ :: _, _, 0, h => by simp at h
  | _ :: l, k, n + 1, h => by
    have := getB_append_right (l := l) (k := k) (n := n) (by simpa using h)
    simpa [getB, Nat.add_sub_add_right] using this
theorem getB_none : ∀ {l : List AB} {n : Nat}, l.length ≤ n → getB l n = .dead
  | [], _, _ => rfl
  | _ :: _, 0, h => by simp at h
  | _ :: l, n + 1, h => getB_none (l := l) (by simpa using h)

/-! ### Worlds -/
def RelA (σ : List (Nat × Nat)) (l : List AV) (c : Array Value) : Prop := ∀ (j : Nat) (a : AV), l[j]? = some a → ∃ v, c[j]? = some v ∧ Rel σ a v
def BlkRel (σ : List (Nat × Nat)) (z : Nat) (ab : AB) (o : Option Obj) : Prop :=
  match ab with
  | .dead => True
  | .cells rw A => ∃ c e fr, o = some (.cells c e fr) ∧ RelA σ A.toL c ∧ c.size = z ∧ (rw = true → ∀ j, ¬ (fr.1 ≤ j ∧ j < fr.2))
  | .code off xs => ∃ c e fr, o = some (.cells c e fr) ∧ (∀ (j : Nat) (x : Int), xs[j]? = some x → c[off + j]? = some (.int .u8 x)) ∧ c.size = z

theorem RelA.mono {σ τ : List (Nat × Nat)} (e : Ext σ τ) {l : List AV} {c : Array Value} (h : RelA σ l c) : RelA τ l c := fun j a ha =>
  let ⟨v, hv, hr⟩ := h j a ha; ⟨v, hv, hr.mono e⟩
theorem BlkRel.mono {σ τ : List (Nat × Nat)} (e : Ext σ τ) {z : Nat} {ab : AB} {o : Option Obj} (h : BlkRel σ z ab o) : BlkRel τ z ab o := by
  cases ab with
  | dead => trivial
  | cells rw A => obtain ⟨c, t, fr, h1, h2, h3⟩ := h; exact ⟨c, t, fr, h1, h2.mono e, h3⟩
  | code _ _ => exact h

/-- The package variables that reached code loads: what their cells hold, and no block that may be written is one of them. -/
def Base (σ : List (Nat × Nat)) (H : List AB) (w : World) : Prop := ∀ (g : Nat × Nat × (Value → Prop)), g ∈ baseC → (∃ ev, w.cell? ⟨g.1, g.2.1, none⟩ = some ev ∧ g.2.2 ev) ∧ ∀ (i z : Nat), σ[i]? = some (g.1, z) → (getB H i).rw = false

structure Sim (σ : List (Nat × Nat)) (H : List AB) (w : World) : Prop where
  len : σ.length = H.length
  blk : ∀ (i b z : Nat), σ[i]? = some (b, z) → BlkRel σ z (getB H i) w.heap[b]?
  inj : ∀ (i j b z z' : Nat), σ[i]? = some (b, z) → σ[j]? = some (b, z') → (getB H i).rw = true → (getB H j).live = true → i = j
  base : Base σ H w

structure Fr (σ : List (Nat × Nat)) (H : List AB) (w : World) (σ' : List (Nat × Nat)) (H' : List AB) (w' : World) : Prop where
  os : w'.os = w.os
  tape : w'.tape = w.tape
  output : w'.output = w.output
  size : w.heap.size ≤ w'.heap.size
  old : ∀ (b : Nat), b < w.heap.size → (∀ (i z : Nat), (getB H i).rw = true → σ[i]? ≠ some (b, z)) → w'.heap[b]? = w.heap[b]?
  ext : Ext σ σ'
  new : ∀ (i b z : Nat), σ'[i]? = some (b, z) → σ[i]? = none → w.heap.size ≤ b ∨ ∃ j z', (getB H j).rw = true ∧ σ[j]? = some (b, z')
  mono : ∀ (i : Nat), i < σ.length → (getB H' i).rw = true → (getB H i).rw = true

theorem isSome_lt {σ : List (Nat × Nat)} {i : Nat} {b : Nat × Nat} (h : σ[i]? = some b) : i < σ.length := by
  rcases Nat.lt_or_ge i σ.length with h' | h'
  · exact h'
  · simp [List.getElem?_eq_none h'] at h

theorem Fr.refl (σ : List (Nat × Nat)) (H : List AB) (w : World) : Fr σ H w σ H w :=
  ⟨rfl, rfl, rfl, Nat.le_refl _, fun _ _ _ => rfl, Ext.refl σ, fun i b z h h' => (by rw [h'] at h; cases h), fun _ _ h => h⟩

theorem Ext.length {σ τ : List (Nat × Nat)} (h : Ext σ τ) : σ.length ≤ τ.length := by
  rcases Nat.lt_or_ge τ.length σ.length with hl | hl
  · have h0 : σ[τ.length]? = some (σ[τ.length]'hl) := by simp [hl]
    have := h _ _ h0
    simp at this
  · exact hl

theorem Fr.trans {σ σ1 σ2 : List (Nat × Nat)} {H H1 H2 : List AB} {w w1 w2 : World} (h : Fr σ H w σ1 H1 w1) (k : Fr σ1 H1 w1 σ2 H2 w2) : Fr σ H w σ2 H2 w2 where
  os := k.os.trans h.os
  tape := k.tape.trans h.tape
  output := k.output.trans h.output
  size := Nat.le_trans h.size k.size
  old := fun b hb hno => by
    rw [k.old b (Nat.lt_of_lt_of_le hb h.size), h.old b hb hno]
    intro i z hi hs
    cases hσ : σ[i]? with
    | some b' =>
      have := h.ext i b' hσ
      rw [this] at hs; cases hs
      exact hno i z (h.mono i (isSome_lt hσ) hi) hσ
    | none =>
      rcases h.new i b z hs hσ with h' | ⟨j, z', hj, hj'⟩
      · omega
      · exact hno j z' hj hj'
  ext := h.ext.trans k.ext
  new := fun i b z hs hσ => by
    cases h1 : σ1[i]? with
    | some b' =>
      have := k.ext i b' h1
      rw [this] at hs; cases hs
      exact h.new i b z h1 hσ
    | none =>
      rcases k.new i b z hs h1 with h' | ⟨j, z', hj, hj'⟩
      · exact .inl (Nat.le_trans h.size h')
      · cases hσj : σ[j]? with
        | some b' =>
          have := h.ext j b' hσj
          rw [this] at hj'; cases hj'
          exact .inr ⟨j, z', h.mono j (isSome_lt hσj) hj, hσj⟩
        | none => exact h.new j b z' hj' hσj
  mono := fun i hi h2 => h.mono i hi (k.mono i (by have := h.ext.length; omega) h2)

theorem cell_lt {w : World} {g o : Nat} {ev : Value} (h : w.cell? ⟨g, o, none⟩ = some ev) : g < w.heap.size := by
  rcases Nat.lt_or_ge g w.heap.size with h' | h'
  · exact h'
  · simp [World.cell?, Array.getElem?_eq_none h'] at h
theorem Base.fr {σ σ' : List (Nat × Nat)} {H H' : List AB} {w w' : World} (h : Base σ H w) (F : Fr σ H w σ' H' w') : Base σ' H' w' := fun g hg => by
  obtain ⟨⟨ev, h1, h2⟩, h3⟩ := h g hg
  have hno : ∀ (i z : Nat), (getB H i).rw = true → σ[i]? ≠ some (g.1, z) := fun i z hr hs => by rw [h3 i z hs] at hr; cases hr
  have hlt := cell_lt h1
  refine ⟨⟨ev, ?_, h2⟩, fun i z hs => ?_⟩
  · have e := F.old g.1 hlt hno
    simp only [World.cell?] at h1 ⊢
    rw [e]; exact h1
  · cases hσ : σ[i]? with
    | some p =>
      have := F.ext i p hσ
      rw [this] at hs; cases hs
      have hr := h3 i z hσ
      cases hr' : (getB H' i).rw with
      | false => rfl
      | true => rw [F.mono i (isSome_lt hσ) hr'] at hr; cases hr
    | none =>
      rcases F.new i g.1 z hs hσ with h' | ⟨j, z', hj, hj'⟩
      · omega
      · exact absurd hj' (hno j z' hj)
theorem Base.heap {σ : List (Nat × Nat)} {H : List AB} {w w' : World} (h : Base σ H w) (e : w'.heap = w.heap) : Base σ H w' := fun g hg =>
  let ⟨⟨ev, h1, h2⟩, h3⟩ := h g hg
  ⟨⟨ev, by simp only [World.cell?] at h1 ⊢; rw [e]; exact h1, h2⟩, h3⟩
theorem Base.rw' {σ : List (Nat × Nat)} {H H' : List AB} {w : World} (h : Base σ H w) (e : ∀ i, (getB H' i).rw = true → (getB H i).rw = true) : Base σ H' w := fun g hg =>
  ⟨(h g hg).1, fun i z hs => by
    cases hr : (getB H' i).rw with
    | false => rfl
    | true => have h1 := (h g hg).2 i z hs; rw [e i hr] at h1; cases h1⟩
theorem setB_rw {H : List AB} {id : Nat} {r : Bool} {A B : Cells} : ∀ i, (getB (setB H id (.cells r B)) i).rw = true → (getB (setB H id (.cells r A)) i).rw = true := fun i h => by
  by_cases e : id = i
  · subst e
    rcases Nat.lt_or_ge id H.length with h' | h'
    · rw [getB_setB_same h'] at h ⊢; exact h
    · rw [getB_none (by rw [setB_length]; exact h')] at h; cases h
  · rwa [getB_setB_ne e] at h ⊢
/-- What a step leaves: the base by its frame. -/
theorem sim_fr {σ σ' : List (Nat × Nat)} {H H' : List AB} {w w' : World} (s : Sim σ H w) (l : σ'.length = H'.length) (b : ∀ (i b z : Nat), σ'[i]? = some (b, z) → BlkRel σ' z (getB H' i) w'.heap[b]?)
    (j : ∀ (i j b z z' : Nat), σ'[i]? = some (b, z) → σ'[j]? = some (b, z') → (getB H' i).rw = true → (getB H' j).live = true → i = j) (F : Fr σ H w σ' H' w') : Sim σ' H' w' ∧ Fr σ H w σ' H' w' :=
  ⟨⟨l, b, j, s.base.fr F⟩, F⟩

/-- Nothing of memory turns: the tape's count may have moved. -/
structure Same (w w' : World) : Prop where
  heap : w'.heap = w.heap
  os : w'.os = w.os
  tape : w'.tape = w.tape
  output : w'.output = w.output
theorem Same.refl (w : World) : Same w w := ⟨rfl, rfl, rfl, rfl⟩
theorem Same.trans {a b c : World} (h : Same a b) (k : Same b c) : Same a c := ⟨k.heap.trans h.heap, k.os.trans h.os, k.tape.trans h.tape, k.output.trans h.output⟩
theorem Same.drew (w : World) : Same w { w with drawn := w.drawn + 1 } := ⟨rfl, rfl, rfl, rfl⟩
theorem Same.sim {σ : List (Nat × Nat)} {H : List AB} {w w' : World} (h : Same w w') (s : Sim σ H w) : Sim σ H w' :=
  ⟨s.len, fun i b z hb => by rw [h.heap]; exact s.blk i b z hb, s.inj, s.base.heap h.heap⟩
theorem Same.fr {σ : List (Nat × Nat)} {H : List AB} {w w' : World} (h : Same w w') : Fr σ H w σ H w' :=
  ⟨h.os, h.tape, h.output, by rw [h.heap]; exact Nat.le_refl _, fun _ _ _ => by rw [h.heap], Ext.refl σ, fun i b z h h' => (by rw [h'] at h; cases h), fun _ _ h => h⟩

theorem Sim.lt {σ : List (Nat × Nat)} {H : List AB} {w : World} (s : Sim σ H w) {i b z : Nat} (hb : σ[i]? = some (b, z)) (hl : (getB H i).live = true) : b < w.heap.size := by
  have := s.blk i b z hb
  cases hg : getB H i with
  | dead => rw [hg] at hl; cases hl
  | cells r B =>
    rw [hg] at this
    obtain ⟨c', e', fr', h1, _⟩ := this
    rcases Nat.lt_or_ge b w.heap.size with h' | h'
    · exact h'
    · simp [Array.getElem?_eq_none h'] at h1
  | code o0 xs0 =>
    rw [hg] at this
    obtain ⟨c', e', fr', h1, _⟩ := this
    rcases Nat.lt_or_ge b w.heap.size with h' | h'
    · exact h'
    · simp [Array.getElem?_eq_none h'] at h1

theorem rw_live {A : AB} (h : A.rw = true) : A.live = true := by
  cases A with
  | dead => cases h
  | cells _ _ => rfl
  | code _ _ => rfl

theorem snoc_cases {σ : List (Nat × Nat)} {x b : Nat × Nat} {i : Nat} (hb : (σ ++ [x])[i]? = some b) : (i < σ.length ∧ σ[i]? = some b) ∨ (i = σ.length ∧ b = x) := by
  rcases Nat.lt_or_ge i σ.length with h' | h'
  · rw [List.getElem?_append_left h'] at hb; exact .inl ⟨h', hb⟩
  · rw [List.getElem?_append_right h'] at hb
    cases hi : i - σ.length with
    | zero => rw [hi] at hb; simp at hb; exact .inr ⟨by omega, hb.symm⟩
    | succ n => rw [hi] at hb; simp at hb

theorem Fr.alloc (σ : List (Nat × Nat)) (H : List AB) (w : World) (A : AB) (o : Obj) (z : Nat) (hl : σ.length = H.length) : Fr σ H w (σ ++ [(w.heap.size, z)]) (H ++ [A]) (w.alloc o) where
  os := rfl
  tape := rfl
  output := rfl
  size := by simp
  old := fun b hb _ => heap_alloc_old w o b hb
  ext := Ext.append σ _
  new := fun i b z hb hn => by
    rcases snoc_cases hb with ⟨hi, hb'⟩ | ⟨rfl, hb'⟩
    · rw [hn] at hb'; cases hb'
    · cases hb'; exact .inl (Nat.le_refl _)
  mono := fun i hi h => by rwa [getB_append_left (by omega)] at h

/-- A new block. -/
theorem Sim.alloc {σ : List (Nat × Nat)} {H : List AB} {w : World} (s : Sim σ H w) {A : Cells} {c : Array Value} {t : TypeId} (h : RelA σ A.toL c) :
    Sim (σ ++ [(w.heap.size, c.size)]) (H ++ [.cells true A]) (w.alloc (.cells c t)) := by
  have hnew : (w.alloc (.cells c t)).heap[w.heap.size]? = some (.cells c t) := heap_alloc_new w _
  have hgl : ∀ i, i < σ.length → getB (H ++ [.cells true A]) i = getB H i := fun i hi => getB_append_left (by rw [← s.len]; exact hi)
  have hgr : getB (H ++ [.cells true A]) σ.length = .cells true A := by
    rw [getB_append_right (by rw [s.len]; exact Nat.le_refl _), s.len, Nat.sub_self]; rfl
  refine ⟨by simp [s.len], fun i b z hb => ?_, fun i j b z z' hi hj hr hl => ?_, s.base.fr (Fr.alloc σ H w (.cells true A) _ _ s.len)⟩
  · rcases snoc_cases hb with ⟨hi, hb'⟩ | ⟨rfl, hb'⟩
    · rw [hgl i hi]
      have hb2 := (s.blk i b z hb').mono (Ext.append σ [(w.heap.size, c.size)])
      cases hg : getB H i with
      | dead => trivial
      | cells r B =>
        have hlt' := s.lt hb' (by rw [hg]; rfl)
        rw [heap_alloc_old w _ b hlt', ← hg]; exact hb2
      | code o0 xs0 =>
        have hlt' := s.lt hb' (by rw [hg]; rfl)
        rw [heap_alloc_old w _ b hlt', ← hg]; exact hb2
    · cases hb'
      rw [hgr]
      exact ⟨c, t, (0, 0), hnew, h.mono (Ext.append σ _), rfl, fun _ j hh => by simp at hh⟩
  · rcases snoc_cases hi with ⟨hi1, hb1⟩ | ⟨rfl, hb1⟩ <;> rcases snoc_cases hj with ⟨hj1, hb2⟩ | ⟨rfl, hb2⟩
    · rw [hgl i hi1] at hr; rw [hgl j hj1] at hl
      exact s.inj i j b z z' hb1 hb2 hr hl
    · rw [hgl i hi1] at hr
      have := s.lt hb1 (rw_live hr)
      cases hb2; omega
    · rw [hgl j hj1] at hl
      have := s.lt hb2 hl
      cases hb1; omega
    · rfl

theorem Fr.store (σ : List (Nat × Nat)) (H : List AB) (w : World) {id b z off : Nat} {A B : Cells} {v : Value}
    (hid : σ[id]? = some (b, z)) (hg : getB H id = .cells true A) : Fr σ H w σ (setB H id (.cells true B)) (w.setCell ⟨b, off, none⟩ v) where
  os := rfl
  tape := rfl
  output := rfl
  size := by simp
  old := fun b' hb' hno => heap_setCell_other w ⟨b, off, none⟩ b' v (fun e => hno id z (by rw [hg]; rfl) (by rw [hid, e]))
  ext := Ext.refl σ
  new := fun i b z h h' => by rw [h'] at h; cases h
  mono := fun i _ h => by
    by_cases hib : i = id
    · subst hib; rw [hg]; rfl
    · rwa [getB_setB_ne (fun e => hib e.symm)] at h

/-- A store of one cell: what lies in the block is told as a list. -/
theorem Sim.store {σ : List (Nat × Nat)} {H : List AB} {w : World} (s : Sim σ H w) {id b z off : Nat} {A B : Cells} {av : AV} {v : Value}
    (hid : σ[id]? = some (b, z)) (hg : getB H id = .cells true A) (hoff : off < A.len) (hset : B.toL = A.toL.set off av) (hr : Rel σ av v) :
    (∃ u, w.cell? ⟨b, off, none⟩ = some u) ∧ w.frozen? ⟨b, off, none⟩ = false ∧ Sim σ (setB H id (.cells true B)) (w.setCell ⟨b, off, none⟩ v) := by
  have h0 := s.blk id b z hid
  rw [hg] at h0
  obtain ⟨c, e, fr, hw, hA, hz, hf⟩ := h0
  obtain ⟨u, hu, _⟩ := hA off _ (Cells.get_some hoff)
  have hoffc : off < c.size := by
    rcases Nat.lt_or_ge off c.size with h' | h'
    · exact h'
    · simp [Array.getElem?_eq_none h'] at hu
  have hidl : id < H.length := by rw [← s.len]; exact isSome_lt hid
  refine ⟨⟨u, by simp [World.cell?, hw, hu]⟩, ?_, by rw [setB_length]; exact s.len, fun i b' z' hb' => ?_, fun i j b' z' z2 hi hj hri hlj => ?_, s.base.fr (Fr.store σ H w hid hg)⟩
  · have := hf rfl off
    simp only [World.frozen?, hw]
    rw [Bool.eq_false_iff]; intro hh; apply this
    simpa using hh
  · by_cases hib : i = id
    · subst hib
      rw [hid] at hb'; cases hb'
      rw [getB_setB_same hidl]
      refine ⟨c.setIfInBounds off v, e, fr, by simp only [World.setCell, Array.getElem?_modify, if_true, hw, Option.map_some]; rfl, ?_, by simpa using hz, hf⟩
      rw [hset]
      intro j a hj
      by_cases hjo : off = j
      · subst hjo
        have : off < A.toL.length := by rw [Cells.len_eq]; exact hoff
        rw [List.getElem?_set_self this] at hj; cases hj
        exact ⟨v, by simp [hoffc], hr⟩
      · rw [List.getElem?_set_ne hjo] at hj
        obtain ⟨v', hv', hr'⟩ := hA j a hj
        exact ⟨v', by simp [hjo, hv'], hr'⟩
    · rw [getB_setB_ne (fun e => hib e.symm)]
      cases hgi : getB H i with
      | dead => trivial
      | cells r C =>
        have hne : b' ≠ b := fun e => hib (s.inj id i b z z' hid (by rw [← e]; exact hb') (by rw [hg]; rfl) (by rw [hgi]; rfl)).symm
        rw [heap_setCell_other w ⟨b, off, none⟩ b' v hne, ← hgi]
        exact s.blk i b' z' hb'
      | code o0 xs0 =>
        have hne : b' ≠ b := fun e => hib (s.inj id i b z z' hid (by rw [← e]; exact hb') (by rw [hg]; rfl) (by rw [hgi]; rfl)).symm
        rw [heap_setCell_other w ⟨b, off, none⟩ b' v hne, ← hgi]
        exact s.blk i b' z' hb'
  · have hri' : (getB H i).rw = true := by
      by_cases hib : i = id
      · subst hib; rw [hg]; rfl
      · rwa [getB_setB_ne (fun e => hib e.symm)] at hri
    have hlj' : (getB H j).live = true := by
      by_cases hjb : j = id
      · subst hjb; rw [hg]; rfl
      · rwa [getB_setB_ne (fun e => hjb e.symm)] at hlj
    exact s.inj i j b' z' z2 hi hj hri' hlj'

/-- The same cells in another form. -/
theorem Sim.congr {σ : List (Nat × Nat)} {H : List AB} {w : World} {id : Nat} {r : Bool} {A B : Cells} (h : A.toL = B.toL) (hid : id < H.length) (s : Sim σ (setB H id (.cells r A)) w) : Sim σ (setB H id (.cells r B)) w := by
  refine ⟨by rw [setB_length]; have := s.len; rwa [setB_length] at this, fun i b z hb => ?_, fun i j b z z' hi hj hr hl => ?_, s.base.rw' setB_rw⟩
  · have := s.blk i b z hb
    by_cases hib : id = i
    · subst hib
      rw [getB_setB_same hid] at this ⊢
      obtain ⟨c, e, fr, h1, h2, h3⟩ := this
      exact ⟨c, e, fr, h1, by rw [← h]; exact h2, h3⟩
    · rwa [getB_setB_ne hib] at this ⊢
  · refine s.inj i j b z z' hi hj ?_ ?_
    · by_cases hib : id = i
      · subst hib; rw [getB_setB_same hid] at hr ⊢; exact hr
      · rwa [getB_setB_ne hib] at hr ⊢
    · by_cases hib : id = j
      · subst hib; rw [getB_setB_same hid]; rfl
      · rwa [getB_setB_ne hib] at hl ⊢
end Go.Ax

/- What the operations do to abstract values, and that the model does the same. -/
namespace Go.Ax
open Go

/-! ### Floats -/
def qnan : FloatKind → Nat
  | .f32 => 2143289344
  | .f64 => 9221120237041090560
def fadd (k : FloatKind) (x y : Nat) : Nat := (k.format.add x y).getD (qnan k)
def fsub (k : FloatKind) (x y : Nat) : Nat := (k.format.sub x y).getD (qnan k)
def fmul (k : FloatKind) (x y : Nat) : Nat := (k.format.mul x y).getD (qnan k)
def fdiv (k : FloatKind) (x y : Nat) : Nat := (k.format.div x y).getD (qnan k)
def fneg (k : FloatKind) (x : Nat) : Nat := Op.negFloat k x
def feq (k : FloatKind) (x y : Nat) : Bool := k.format.order x y == some .eq
def flt (k : FloatKind) (x y : Nat) : Bool := k.format.order x y == some .lt
def fle (k : FloatKind) (x y : Nat) : Bool := k.format.order x y == some .lt || k.format.order x y == some .eq
def fgt (k : FloatKind) (x y : Nat) : Bool := k.format.order x y == some .gt
def fge (k : FloatKind) (x y : Nat) : Bool := k.format.order x y == some .gt || k.format.order x y == some .eq
/-- A float of one kind as one of another. -/
def fcvt (s d : FloatKind) (x : Nat) : Nat :=
  if s = d then x else
  match s.decode x with
  | .nan _ _ => qnan d
  | .infinity g => d.encode (.infinity g)
  | .number g m e => d.encode (.number g m e)
/-- It is the rounded one whatever the model leaves open: no finite number becomes infinite. -/
def fcvtOK (s d : FloatKind) (x : Nat) : Bool :=
  if s = d then true else
  match s.decode x with
  | .number g m e => !(d.decode (d.encode (.number g m e))).isInfinity
  | _ => true
def fmaxA (k : FloatKind) (x y : Nat) : Nat :=
  match k.format.order x y with
  | none => qnan k
  | some .lt => y
  | some .gt => x
  | some .eq => if (k.decode x).neg then y else x
def fminA (k : FloatKind) (x y : Nat) : Nat :=
  match k.format.order x y with
  | none => qnan k
  | some .lt => x
  | some .gt => y
  | some .eq => if (k.decode x).neg then x else y

theorem qnan_nan (k : FloatKind) : (k.decode (qnan k)).isNaN = true := by cases k <;> decide +kernel

theorem sum_nan_left {d e : Ieee.Datum} (h : d.isNaN = true) : d.sum e = none := by
  cases d <;> simp [Ieee.Datum.isNaN] at h; rfl
theorem sum_nan_right {d e : Ieee.Datum} (h : e.isNaN = true) : d.sum e = none := by
  cases e <;> simp [Ieee.Datum.isNaN] at h; cases d <;> rfl
theorem product_nan_left {d e : Ieee.Datum} (h : d.isNaN = true) : d.product e = none := by
  cases d <;> simp [Ieee.Datum.isNaN] at h; rfl
theorem product_nan_right {d e : Ieee.Datum} (h : e.isNaN = true) : d.product e = none := by
  cases e <;> simp [Ieee.Datum.isNaN] at h; cases d <;> rfl
theorem quotient_nan_left {d e : Ieee.Datum} {n : Nat} (h : d.isNaN = true) : d.quotient n e = none := by
  cases d <;> simp [Ieee.Datum.isNaN] at h; rfl
theorem quotient_nan_right {d e : Ieee.Datum} {n : Nat} (h : e.isNaN = true) : d.quotient n e = none := by
  cases e <;> simp [Ieee.Datum.isNaN] at h; cases d <;> rfl
theorem order_nan_left {d e : Ieee.Datum} (h : d.isNaN = true) : d.order e = none := by
  cases d <;> simp [Ieee.Datum.isNaN] at h; rfl
theorem order_nan_right {d e : Ieee.Datum} (h : e.isNaN = true) : d.order e = none := by
  cases e <;> simp [Ieee.Datum.isNaN] at h; cases d <;> rfl
theorem opposite_nan {d : Ieee.Datum} : d.opposite.isNaN = d.isNaN := by cases d <;> rfl

/-- An operation on two words that is none where one is no number. -/
theorem fr_bin {k : FloatKind} (g : Nat → Nat → Option Nat) (hl : ∀ x y, (k.decode x).isNaN = true → g x y = none) (hr : ∀ x y, (k.decode y).isNaN = true → g x y = none)
    {x y x' y' : Nat} (hx : FR k x x') (hy : FR k y y') : g x y = g x' y' := by
  rcases hx with rfl | ⟨h1, h2⟩
  · rcases hy with rfl | ⟨h3, h4⟩
    · rfl
    · rw [hr _ _ h3, hr _ _ h4]
  · rw [hl _ _ h1, hl _ _ h2]

theorem map_none {o : Option Ieee.Datum} {g : Ieee.Datum → Nat} (h : o = none) : Option.map g o = none := by rw [h]; rfl
theorem add_fr {k : FloatKind} {x y x' y' : Nat} (hx : FR k x x') (hy : FR k y y') : k.format.add x y = k.format.add x' y' :=
  fr_bin k.format.add (fun _ _ h => map_none (sum_nan_left h)) (fun _ _ h => map_none (sum_nan_right h)) hx hy
theorem sub_fr {k : FloatKind} {x y x' y' : Nat} (hx : FR k x x') (hy : FR k y y') : k.format.sub x y = k.format.sub x' y' :=
  fr_bin k.format.sub (fun _ _ h => map_none (sum_nan_left h)) (fun _ _ h => map_none (sum_nan_right (opposite_nan.trans h))) hx hy
theorem mul_fr {k : FloatKind} {x y x' y' : Nat} (hx : FR k x x') (hy : FR k y y') : k.format.mul x y = k.format.mul x' y' :=
  fr_bin k.format.mul (fun _ _ h => map_none (product_nan_left h)) (fun _ _ h => map_none (product_nan_right h)) hx hy
theorem div_fr {k : FloatKind} {x y x' y' : Nat} (hx : FR k x x') (hy : FR k y y') : k.format.div x y = k.format.div x' y' :=
  fr_bin k.format.div (fun _ _ h => map_none (quotient_nan_left h)) (fun _ _ h => map_none (quotient_nan_right h)) hx hy
theorem order_fr {k : FloatKind} {x y x' y' : Nat} (hx : FR k x x') (hy : FR k y y') : k.format.order x y = k.format.order x' y' := by
  have hl : ∀ x y, (k.decode x).isNaN = true → k.format.order x y = none := fun x y h => order_nan_left h
  have hr : ∀ x y, (k.decode y).isNaN = true → k.format.order x y = none := fun x y h => order_nan_right h
  rcases hx with rfl | ⟨h1, h2⟩
  · rcases hy with rfl | ⟨h3, h4⟩
    · rfl
    · rw [hr _ _ h3, hr _ _ h4]
  · rw [hl _ _ h1, hl _ _ h2]

section
variable {P : Program}
theorem read_isNaN (f : Ieee.Format) (x : Nat) (h1 : f.infRung < x % f.signWeight) (h2 : f.binade ≤ f.infRung) : (f.read x).isNaN = true := by
  unfold Ieee.Format.read
  simp only []
  rw [if_neg (by omega), if_neg (by omega), if_neg (by omega)]
  rfl
theorem nan32 (a b : Nat) (h1 : a < 2 ^ 23 - 1) : (Ieee.single.read (b * 2 ^ 31 + 0x7f800000 + 1 + a)).isNaN = true := by
  have e1 : Ieee.single.infRung = 2139095040 := by decide +kernel
  have e2 : Ieee.single.signWeight = 2147483648 := by decide +kernel
  have e3 : Ieee.single.binade = 8388608 := by decide +kernel
  exact read_isNaN _ _ (by rw [e1, e2]; omega) (by rw [e1, e3]; omega)
theorem nan64 (a b : Nat) (h1 : a < 2 ^ 52 - 1) : (Ieee.double.read (b * 2 ^ 63 + 0x7ff0000000000000 + 1 + a)).isNaN = true := by
  have e1 : Ieee.double.infRung = 9218868437227405312 := by decide +kernel
  have e2 : Ieee.double.signWeight = 9223372036854775808 := by decide +kernel
  have e3 : Ieee.double.binade = 4503599627370496 := by decide +kernel
  exact read_isNaN _ _ (by rw [e1, e2]; omega) (by rw [e1, e3]; omega)
theorem nanBits_nan (k : FloatKind) (x y t : Nat) : (k.decode ((Question.nanBits k x y).cut t)).isNaN = true := by
  cases k
  · exact nan32 _ _ (Nat.mod_lt _ (by decide))
  · exact nan64 _ _ (Nat.mod_lt _ (by decide))
theorem nanConv_nan (k : FloatKind) (b t : Nat) : (k.decode ((Question.nanConv k b).cut t)).isNaN = true := by
  cases k
  · exact nan32 _ _ (Nat.mod_lt _ (by decide))
  · exact nan64 _ _ (Nat.mod_lt _ (by decide))
theorem nanMinMax_nan (k : FloatKind) (m : Bool) (x y t : Nat) : (k.decode ((Question.nanMinMax k m x y).cut t)).isNaN = true := by
  cases k
  · exact nan32 _ _ (Nat.mod_lt _ (by decide))
  · exact nan64 _ _ (Nat.mod_lt _ (by decide))

/-- An operation of the model that only reads: what it hands on. -/
def Gives (P : Program) (w : World) (x : Sem Value) (q : Value → Prop) : Prop := ∃ v w', x.run P w = .ok v w' ∧ q v ∧ Same w w'

theorem Gives.pure {w : World} {v : Value} {q : Value → Prop} (h : q v) : Gives P w (Pure.pure v) q := ⟨v, w, rfl, h, Same.refl w⟩

theorem gives_arith {w : World} {op : BinOp} {k : FloatKind} {x y x' y' : Nat} (hx : FR k x x') (hy : FR k y y') (r : Nat)
    (hr : (op = .add ∧ r = fadd k x y) ∨ (op = .sub ∧ r = fsub k x y) ∨ (op = .mul ∧ r = fmul k x y) ∨ (op = .quo ∧ r = fdiv k x y)) :
    Gives P w (Op.floatArith op k x' y') (fun v => ∃ z, v = .float k z ∧ FR k r z) := by
  have key : ∀ (o o' : Option Nat), o = o' → r = o.getD (qnan k) → Gives P w (match o' with | some r => Pure.pure (.float k r) | none => do Pure.pure (.float k (← choose (.nanBits k x' y')))) (fun v => ∃ z, v = .float k z ∧ FR k r z) := by
    intro o o' ho hrr
    subst ho
    cases o with
    | some z => simp at hrr; subst hrr; exact .pure ⟨_, rfl, .inl rfl⟩
    | none =>
      simp at hrr
      refine ⟨_, { w with drawn := w.drawn + 1 }, by simp [Question.forced]; rfl, ⟨_, rfl, ?_⟩, Same.drew w⟩
      rw [hrr]
      exact .inr ⟨qnan_nan k, nanBits_nan k x' y' _⟩
  rcases hr with ⟨rfl, hr⟩ | ⟨rfl, hr⟩ | ⟨rfl, hr⟩ | ⟨rfl, hr⟩
  · exact key _ _ (add_fr hx hy) hr
  · exact key _ _ (sub_fr hx hy) hr
  · exact key _ _ (mul_fr hx hy) hr
  · exact key _ _ (div_fr hx hy) hr

theorem fcvt_gives {w : World} {s d : FloatKind} {x x' : Nat} (hx : FR s x x') (ok : fcvtOK s d x = true) :
    Gives P w (Conv.floatToFloat s x' d) (fun v => ∃ z, v = .float d z ∧ FR d (fcvt s d x) z) := by
  unfold Conv.floatToFloat
  by_cases hsd : s = d
  · subst hsd
    rw [if_pos rfl]
    refine .pure ⟨_, rfl, ?_⟩
    unfold fcvt
    rw [if_pos rfl]
    exact hx
  · rw [if_neg hsd]
    have nanc : ∀ (a : Bool) (b : Nat) (y : Nat), s.decode y = .nan a b → (∃ a b, s.decode x = .nan a b) → Gives P w (do pure (.float d (← choose (.nanConv d y)))) (fun v => ∃ z, v = .float d z ∧ FR d (fcvt s d x) z) := by
      rintro a b y _ ⟨a', b', hx⟩
      refine ⟨_, { w with drawn := w.drawn + 1 }, by simp [Question.forced]; rfl, ⟨_, rfl, ?_⟩, Same.drew w⟩
      unfold fcvt
      rw [if_neg hsd, hx]
      exact .inr ⟨qnan_nan d, nanConv_nan d y _⟩
    rcases hx with e | ⟨h1, h2⟩
    · subst e
      cases hd : s.decode x' with
      | nan a b => exact nanc a b _ hd ⟨a, b, hd⟩
      | infinity a =>
        refine .pure ⟨_, rfl, .inl ?_⟩
        unfold fcvt; rw [if_neg hsd, hd]
      | number a b c =>
        unfold fcvtOK at ok
        rw [if_neg hsd, hd] at ok
        have hno : (d.decode (d.encode (.number a b c))).isInfinity = false := by simpa using ok
        simp only [hno, Bool.false_eq_true, if_false]
        refine .pure ⟨_, rfl, .inl ?_⟩
        unfold fcvt; rw [if_neg hsd, hd]
    · have e1 : ∃ a b, s.decode x = .nan a b := by
        cases hd : s.decode x <;> simp [hd, Ieee.Datum.isNaN] at h1
        exact ⟨_, _, rfl⟩
      have e2 : ∃ a b, s.decode x' = .nan a b := by
        cases hd : s.decode x' <;> simp [hd, Ieee.Datum.isNaN] at h2
        exact ⟨_, _, rfl⟩
      obtain ⟨a', b', e2⟩ := e2
      rw [e2]
      exact nanc a' b' _ e2 e1
theorem max_gives {w : World} {k : FloatKind} {x y x' y' : Nat} (hx : FR k x x') (hy : FR k y y') : Gives P w (Builtin.max2 (.float k x') (.float k y')) (fun v => ∃ z, v = .float k z ∧ FR k (fmaxA k x y) z) := by
  have ho := order_fr hx hy
  unfold Builtin.max2 fmaxA
  simp only []
  rw [← ho]
  cases ho' : k.format.order x y with
  | none => exact ⟨_, { w with drawn := w.drawn + 1 }, by simp [Question.forced]; rfl, ⟨_, rfl, .inr ⟨qnan_nan k, nanMinMax_nan k true _ _ _⟩⟩, Same.drew w⟩
  | some o =>
    have ex : x' = x := by
      rcases hx with h | ⟨h, _⟩
      · exact h
      · rw [show k.format.order x y = none from order_nan_left h] at ho'; cases ho'
    have ey : y' = y := by
      rcases hy with h | ⟨h, _⟩
      · exact h
      · rw [show k.format.order x y = none from order_nan_right h] at ho'; cases ho'
    subst ex; subst ey
    cases o <;> exact .pure ⟨_, rfl, .rfl'⟩
theorem min_gives {w : World} {k : FloatKind} {x y x' y' : Nat} (hx : FR k x x') (hy : FR k y y') : Gives P w (Builtin.min2 (.float k x') (.float k y')) (fun v => ∃ z, v = .float k z ∧ FR k (fminA k x y) z) := by
  have ho := order_fr hx hy
  unfold Builtin.min2 fminA
  simp only []
  rw [← ho]
  cases ho' : k.format.order x y with
  | none => exact ⟨_, { w with drawn := w.drawn + 1 }, by simp [Question.forced]; rfl, ⟨_, rfl, .inr ⟨qnan_nan k, nanMinMax_nan k false _ _ _⟩⟩, Same.drew w⟩
  | some o =>
    have ex : x' = x := by
      rcases hx with h | ⟨h, _⟩
      · exact h
      · rw [show k.format.order x y = none from order_nan_left h] at ho'; cases ho'
    have ey : y' = y := by
      rcases hy with h | ⟨h, _⟩
      · exact h
      · rw [show k.format.order x y = none from order_nan_right h] at ho'; cases ho'
    subst ex; subst ey
    cases o <;> exact .pure ⟨_, rfl, .rfl'⟩
end
end Go.Ax

/- The operations on abstract values that only read. -/
namespace Go.Ax
open Go

def ofS : Value → Option AV
  | .bool b => some (.b true b)
  | .int k n => some (.i true k n)
  | .float k x => some (.f true k x)
  | .complex k x y => some (.c true k x y)
  | .string s => some (.s true s.data.toList)
  | .pointer none => some .pnil
  | .slice none 0 0 => some .slnil
  | .nilFunc => some .fnil
  | .nilIface => some .inil
  | _ => none
def ofSs : List Value → Option (List AV)
  | [] => some []
  | v :: vs => match ofS v, ofSs vs with
    | some a, some as => some (a :: as)
    | _, _ => none
def ofV : Value → Option AV
  | .agg cs => (ofSs cs.toList).map .agg
  | .tuple cs => (ofSs cs.toList).map .tup
  | v => ofS v

theorem ofS_rel {σ : List (Nat × Nat)} {v : Value} {a : AV} (h : ofS v = some a) : Rel σ a v := by
  unfold ofS at h
  split at h <;> first | (cases h; done) | skip
  all_goals (cases h)
  · exact .b _
  · exact .i _ _
  · exact .f .rfl'
  · exact .c .rfl' .rfl'
  · rename_i s; exact .s s.data.toList
  · exact .pnil
  · exact .slnil
  · exact .fnil
  · exact .inil
theorem ofSs_rel {σ : List (Nat × Nat)} : ∀ {vs : List Value} {as : List AV}, ofSs vs = some as → RelL σ as vs
  | [], as, h => by cases h; exact .nil
  | v :: vs, as, h => by
    simp only [ofSs] at h
    split at h
    · rename_i a as' h1 h2; cases h; exact .cons (ofS_rel h1) (ofSs_rel h2)
    · cases h
theorem ofV_rel {σ : List (Nat × Nat)} {v : Value} {a : AV} (h : ofV v = some a) : Rel σ a v := by
  unfold ofV at h
  split at h
  · rename_i cs
    cases h1 : ofSs cs.toList with
    | none => rw [h1] at h; cases h
    | some l => rw [h1] at h; cases h; exact .agg (ofSs_rel h1)
  · rename_i cs
    cases h1 : ofSs cs.toList with
    | none => rw [h1] at h; cases h
    | some l => rw [h1] at h; cases h; exact .tup (ofSs_rel h1)
  · exact ofS_rel h

def cellsA : AV → List AV
  | .agg l => l
  | v => [v]
def isAny : AV → Bool
  | .any => true
  | _ => false
theorem cellsA_rel {σ : List (Nat × Nat)} {a : AV} {v : Value} (h : Rel σ a v) (na : isAny a = false) : RelL σ (cellsA a) v.cells.toList := by
  cases h with
  | agg h => exact h
  | any => cases na
  | _ => exact .cons (by constructor <;> assumption) .nil

def okCell : AV → Bool
  | .agg _ | .tup _ | .any => false
  | _ => true
theorem okCell_not {a : AV} (h : okCell a = true) : isAny a = false := by cases a <;> first | rfl | cases h
theorem okCell_one {σ : List (Nat × Nat)} {a : AV} {v : Value} (h : Rel σ a v) (ok : okCell a = true) : v.oneCell' = true := by
  cases h <;> first | rfl | (cases ok; done)

def szA (P : Program) (t : TypeId) : Option Nat :=
  match P.info? t with
  | some i => some i.size
  | none => none
def isAggD : TypeDesc → Bool
  | .struct _ | .array _ _ => true
  | _ => false
def aggA (P : Program) (t : TypeId) : Option Bool :=
  match P.underlying t with
  | some d => some (isAggD d)
  | none => none
section
variable {P : Program} {w : World}
theorem run_sizeOfA {t : TypeId} {n : Nat} (h : szA P t = some n) : (sizeOf t).run P w = .ok n w := by
  unfold szA at h
  cases hi : P.info? t with
  | none => rw [hi] at h; cases h
  | some i => rw [hi] at h; cases h; simp [sizeOf, typeInfo, hi]
theorem run_isAggA {t : TypeId} {b : Bool} (h : aggA P t = some b) : (isAgg t).run P w = .ok b w := by
  unfold aggA at h
  cases hi : P.underlying t with
  | none => rw [hi] at h; cases h
  | some d =>
    rw [hi] at h; cases h
    cases d <;> simp [isAgg, underlying, hi, isAggD]
theorem run_underlyingA {t : TypeId} {d : TypeDesc} (h : P.underlying t = some d) : (underlying t).run P w = .ok d w := by simp [underlying, h]
theorem run_typeInfoA {t : TypeId} {i : TypeInfo} (h : P.info? t = some i) : (typeInfo t).run P w = .ok i w := by simp [typeInfo, h]
end

def nth? : List AV → Nat → Option AV
  | [], _ => none
  | a :: _, 0 => some a
  | _ :: l, n + 1 => nth? l n
theorem nth?_eq : ∀ (l : List AV) (n : Nat), nth? l n = l[n]?
  | [], _ => rfl
  | _ :: _, 0 => rfl
  | _ :: l, n + 1 => by simp [nth?, nth?_eq l n]

/-- What is still to be shown: a test of closed terms is decided here and now. -/
def chk (l c : Bool) : Option (List Bool) :=
  match l with
  | true => match c with
    | true => some []
    | false => none
  | false => some [c]
def allT : List Bool → Bool
  | [] => true
  | b :: l => b && allT l
theorem chk_spec {l c : Bool} {n : List Bool} (h : chk l c = some n) (hn : allT n = true) : c = true := by
  cases l <;> cases c <;> simp [chk] at h <;> first | rfl | (subst h; simp [allT] at hn)
theorem allT_append {a b : List Bool} : allT (a ++ b) = (allT a && allT b) := by
  induction a with
  | nil => simp [allT]
  | cons x a ih => simp [allT, ih, Bool.and_assoc]
def withN (v : AV) : Option (List Bool) → Option (AV × List Bool)
  | some n => some (v, n)
  | none => none
theorem withN_some {v v' : AV} {o : Option (List Bool)} {n : List Bool} (h : withN v o = some (v', n)) : v = v' ∧ o = some n := by
  cases o <;> simp [withN] at h
  exact ⟨h.1, by rw [h.2]⟩

/-! ### Loads -/
def getIx : AV → Int
  | .i _ _ n => n
  | _ => 0
def getFx : AV → Nat
  | .f _ _ x => x
  | _ => 0
def getCx : AV → Nat
  | .c _ _ x _ => x
  | _ => 0
def getCy : AV → Nat
  | .c _ _ _ y => y
  | _ => 0
def getBx : AV → Bool
  | .b _ x => x
  | _ => false
def isIx (k : IntKind) : AV → Bool
  | .i _ k' _ => k == k'
  | _ => false
def isFx (k : FloatKind) : AV → Bool
  | .f _ k' _ => k == k'
  | _ => false
def isCx (k : FloatKind) : AV → Bool
  | .c _ k' _ _ => k == k'
  | _ => false
def isBx : AV → Bool
  | .b _ _ => true
  | _ => false
/-- A value of one cell whose form is told by its type: what lies at a place that is not a closed term. -/
def symV (P : Program) (t : TypeId) (a : AV) : Option (AV × Bool) :=
  match P.underlying t with
  | some (.int k) => some (.i false k (getIx a), isIx k a)
  | some (.float k) => some (.f false k (getFx a), isFx k a)
  | some (.complex k) => some (.c false k (getCx a) (getCy a), isCx k a)
  | some .bool => some (.b false (getBx a), isBx a)
  | _ => none
theorem symV_rel {P : Program} {t : TypeId} {σ : List (Nat × Nat)} {a v : AV} {ok : Bool} {x : Value} (h : symV P t a = some (v, ok)) (hok : ok = true) (r : Rel σ a x) : Rel σ v x := by
  unfold symV at h
  split at h <;> cases h
  · cases a <;> simp [isIx] at hok; subst hok; cases r; exact .i _ _
  · cases a <;> simp [isFx] at hok; subst hok; cases r with | f hr => exact .f hr
  · cases a <;> simp [isCx] at hok; subst hok; cases r with | c h1 h2 => exact .c h1 h2
  · cases a <;> simp [isBx] at hok; cases r; exact .b _
def symN : Bool → Option (AV × Bool) → Option (AV × List Bool)
  | c, some (v, ok) => some (v, [c, ok])
  | _, none => none
def aLoad (P : Program) (t : TypeId) (v : AV) (H : List AB) : Option (AV × List Bool) :=
  match v with
  | .p l id off =>
    match getB H id with
    | .cells _ A =>
      match szA P t, aggA P t with
      | some n, some true => withN (.agg (A.range off n)) (chk (l && A.isLit) (decide (off + n ≤ A.len)))
      | some _, some false => match l || !A.isLit with
        | true => withN (A.get off) (chk (l && A.isLit) (decide (off < A.len)))
        | false => symN (decide (off < A.len)) (symV P t (A.get off))
      | _, _ => none
    | .code o xs => match szA P t, aggA P t with
      | some _, some false => some (.i false .u8 (xs.getD (off - o) 0), [decide (o ≤ off), decide (off - o < xs.length)])
      | _, _ => none
    | .dead => none
  | _ => none

theorem addr_add (b off n : Nat) : (⟨b, off, none⟩ : Addr).add n = ⟨b, off + n, none⟩ := by
  unfold Addr.add
  split
  · rename_i h; subst h; rfl
  · rfl

theorem Sim.cell {σ : List (Nat × Nat)} {H : List AB} {w : World} (s : Sim σ H w) {id b z off : Nat} {r : Bool} {A : Cells} {a : AV}
    (hid : σ[id]? = some (b, z)) (hg : getB H id = .cells r A) (ha : A.toL[off]? = some a) : ∃ v, w.cell? ⟨b, off, none⟩ = some v ∧ Rel σ a v := by
  have h0 := s.blk id b z hid
  rw [hg] at h0
  obtain ⟨c, e, fr, hw, hA, _⟩ := h0
  obtain ⟨v, hv, hr⟩ := hA off a ha
  exact ⟨v, by simp [World.cell?, hw, hv], hr⟩

/-- Cells of a block, as a list. -/
theorem Sim.cellsList {P : Program} {σ : List (Nat × Nat)} {H : List AB} {w : World} (s : Sim σ H w) {id b z off n : Nat} {r : Bool} {A : Cells}
    (hid : σ[id]? = some (b, z)) (hg : getB H id = .cells r A) (hn : off + n ≤ A.len) :
    ∃ cs : List Value, (loadCells ⟨b, off, none⟩ n).run P w = .ok cs.toArray w ∧ RelL σ (A.range off n) cs ∧ cs.length = n := by
  have hget : ∀ j, j < n → ∃ v, w.cell? ⟨b, off + j, none⟩ = some v ∧ Rel σ (A.get (off + j)) v := fun j hj =>
    s.cell hid hg (Cells.get_some (by omega))
  let f : Nat → Value := fun j => (w.cell? ⟨b, off + j, none⟩).getD undef
  have hf : ∀ j, j < n → w.cell? ((⟨b, off, none⟩ : Addr).add j) = some (f j) := fun j hj => by
    obtain ⟨v, hv, _⟩ := hget j hj
    rw [addr_add]; simp [f, hv]
  refine ⟨(List.range n).map f, ?_, ?_, by simp⟩
  · exact run_loadCells w ⟨b, off, none⟩ n f hf
  · have hlen : (A.range off n).length = n := by rw [Cells.range_eq hn]; simp; rw [Cells.len_eq]; omega
    refine RelL.of_get (by simp [hlen]) fun j a x ha hx => ?_
    have hj : j < n := by
      rcases Nat.lt_or_ge j n with h' | h'
      · exact h'
      · rw [List.getElem?_eq_none (by omega)] at ha; cases ha
    obtain ⟨v, hv, hr⟩ := hget j hj
    rw [Cells.range_eq hn] at ha
    simp only [List.getElem?_take, hj, if_true, List.getElem?_drop] at ha
    rw [Cells.get_some (by omega)] at ha
    cases ha
    simp [hj] at hx
    subst hx
    simp only [f, hv, Option.getD_some]
    exact hr

theorem loadVar_gives {P : Program} {w : World} {σ : List (Nat × Nat)} {H : List AB} {t : TypeId} {a v : AV} {nd : List Bool} {ra : Value}
    (h : aLoad P t a H = some (v, nd)) (hnd : allT nd = true) (s : Sim σ H w) (hr : Rel σ a ra) :
    ∃ ad, ra = .pointer (some ad) ∧ ∃ x w', (loadVar t ad).run P w = .ok x w' ∧ Rel σ v x ∧ w' = w := by
  unfold aLoad at h
  split at h <;> try (cases h; done)
  rename_i l id off
  cases hr with
  | p hid =>
  rename_i b z
  refine ⟨_, rfl, ?_⟩
  split at h <;> try (cases h; done)
  case h_2 =>
    rename_i o xs hg
    split at h <;> try (cases h; done)
    rename_i n hsz hagg
    cases h
    simp only [allT, Bool.and_true, Bool.and_eq_true, decide_eq_true_eq] at hnd
    have h0 := s.blk id b z hid
    rw [hg] at h0
    obtain ⟨c, e, fr, hw, hA, _⟩ := h0
    have hx := hA (off - o) (xs.getD (off - o) 0) (by simp [hnd.2])
    rw [show o + (off - o) = off by omega] at hx
    exact ⟨_, w, by simp [loadVar, run_isAggA hagg, World.cell?, hw, hx], .i _ _, rfl⟩
  rename_i r A hg
  split at h <;> try (cases h; done)
  · rename_i n hsz hagg
    obtain ⟨rfl, hc⟩ := withN_some h
    obtain ⟨cs, hrun, hrel, _⟩ := s.cellsList (P := P) hid hg (of_decide_eq_true (chk_spec hc hnd))
    refine ⟨.agg cs.toArray, w, ?_, .agg (by simpa using hrel), rfl⟩
    simp [loadVar, run_isAggA hagg, run_sizeOfA hsz, hrun]
  · rename_i n hsz hagg
    split at h
    · obtain ⟨rfl, hc⟩ := withN_some h
      obtain ⟨x, hx, hrel⟩ := s.cell hid hg (Cells.get_some (of_decide_eq_true (chk_spec hc hnd)))
      refine ⟨x, w, ?_, hrel, rfl⟩
      simp [loadVar, run_isAggA hagg, hx]
    · cases hs : symV P t (A.get off) with
      | none => rw [hs] at h; cases h
      | some y =>
        obtain ⟨v', ok⟩ := y
        rw [hs] at h
        cases h
        simp only [allT, Bool.and_true, Bool.and_eq_true, decide_eq_true_eq] at hnd
        obtain ⟨x, hx, hrel⟩ := s.cell hid hg (Cells.get_some hnd.1)
        refine ⟨x, w, ?_, symV_rel hs hnd.2 hrel, rfl⟩
        simp [loadVar, run_isAggA hagg, hx]
theorem load_gives {P : Program} {w : World} {σ : List (Nat × Nat)} {H : List AB} {t : TypeId} {a v : AV} {nd : List Bool} {ra : Value}
    (h : aLoad P t a H = some (v, nd)) (hnd : allT nd = true) (s : Sim σ H w) (hr : Rel σ a ra) : Gives P w (Instr.loadAt t ra) (Rel σ v) := by
  obtain ⟨ad, rfl, x, w', h1, h2, rfl⟩ := loadVar_gives h hnd s hr
  exact ⟨x, w', by simp [Instr.loadAt, Instr.sureAddr, h1], h2, Same.refl _⟩

/-! ### Parts of aggregates -/
def partA (P : Program) (t : TypeId) (l : List AV) (off : Nat) : Option AV :=
  match szA P t, aggA P t with
  | some n, some true => some (.agg ((l.drop off).take n))
  | some _, some false => nth? l off
  | _, _ => none
theorem RelL.drop {σ : List (Nat × Nat)} : ∀ {l : List AV} {v : List Value} (n : Nat), RelL σ l v → RelL σ (l.drop n) (v.drop n)
  | _, _, 0, h => by simpa using h
  | _, _, n + 1, .nil => by simpa using RelL.nil
  | _, _, n + 1, .cons _ hs => by simpa using RelL.drop n hs
theorem RelL.take {σ : List (Nat × Nat)} : ∀ {l : List AV} {v : List Value} (n : Nat), RelL σ l v → RelL σ (l.take n) (v.take n)
  | _, _, 0, _ => by simpa using RelL.nil
  | _, _, n + 1, .nil => by simpa using RelL.nil
  | _, _, n + 1, .cons h hs => by simpa using RelL.cons h (RelL.take n hs)
theorem part_run {P : Program} {w : World} {σ : List (Nat × Nat)} {t : TypeId} {l : List AV} {cs : Array Value} {off : Nat} {a : AV}
    (h : partA P t l off = some a) (hr : RelL σ l cs.toList) : ∃ v, (part t cs off).run P w = .ok v w ∧ Rel σ a v := by
  unfold partA at h
  split at h <;> try (cases h; done)
  · rename_i n hsz hagg
    cases h
    refine ⟨.agg (cs.extract off (off + n)), by simp [part, run_isAggA hagg, run_sizeOfA hsz], .agg ?_⟩
    have : (cs.extract off (off + n)).toList = (cs.toList.drop off).take n := by
      rw [Array.toList_extract, List.extract]; congr 1; omega
    rw [this]
    exact (hr.drop off).take n
  · rename_i n hsz hagg
    rw [nth?_eq] at h
    obtain ⟨v, hv, hrel⟩ := hr.get h
    refine ⟨v, ?_, hrel⟩
    have : cs[off]? = some v := by simpa using hv
    simp [part, run_isAggA hagg, this]

/-! ### Equality -/
def leafEq : TypeDesc → AV → AV → Option Bool
  | .bool, .b _ x, .b _ y => some (x == y)
  | .int _, .i _ k x, .i _ k' y => if k = k' then some (x == y) else none
  | .float _, .f _ k x, .f _ k' y => if k = k' then some (feq k x y) else none
  | .complex _, .c _ k x y, .c _ k' x' y' => if k = k' then some (feq k x x' && feq k y y') else none
  | .string, .s _ x, .s _ y => some (x == y)
  | _, _, _ => none
/-- All of them, and whether each could be told. -/
def allB : List (Option Bool) → Option Bool
  | [] => some true
  | none :: _ => none
  | some b :: l => match allB l with
    | some c => some (b && c)
    | none => none
def aEq (P : Program) : Nat → TypeId → AV → AV → Option Bool
  | 0, _, _, _ => none
  | d + 1, t, x, y =>
    match P.underlying t with
    | some (.struct fields) =>
      match x, y with
      | .agg xs, .agg ys =>
        if P.stoodInHeld t then none else
        allB (fields.toList.map fun f => if f.name = "_" then none else
          match partA P f.type xs f.offset, partA P f.type ys f.offset with
          | some a, some b => aEq P d f.type a b
          | _, _ => none)
      | _, _ => none
    | some (.array len elem) =>
      match x, y, szA P elem with
      | .agg xs, .agg ys, some n =>
        allB ((List.range len).map fun i =>
          match partA P elem xs (i * n), partA P elem ys (i * n) with
          | some a, some b => aEq P d elem a b
          | _, _ => none)
      | _, _, _ => none
    | some u => leafEq u x y
    | none => none

end Go.Ax

/- Two-place operations, conversions, addresses, slices, builtins: on abstract values. -/
namespace Go.Ax
open Go

section
variable {P : Program} {w : World} {σ : List (Nat × Nat)}

theorem leafEq_run {d : Nat} {t : TypeId} {u : TypeDesc} {x y : AV} {rx ry : Value} {b : Bool} (hu : P.underlying t = some u) (h : leafEq u x y = some b)
    (hx : Rel σ x rx) (hy : Rel σ y ry) : (Op.equalIn (d + 1) t rx ry).run P w = .ok b w := by
  unfold leafEq at h
  split at h <;> try (cases h; done)
  · cases hx; cases hy; cases h
    simp [Op.equalIn, underlying, hu]
  · cases hx; cases hy
    split at h <;> cases h
    rename_i hk; subst hk
    simp [Op.equalIn, underlying, hu]
  · cases hx with | f hx => cases hy with | f hy =>
    split at h <;> cases h
    rename_i hk; subst hk
    simp [Op.equalIn, underlying, hu, Op.floatEq, feq, order_fr hx hy]
  · cases hx with | c h1 h2 => cases hy with | c h3 h4 =>
    split at h <;> cases h
    rename_i hk; subst hk
    simp [Op.equalIn, underlying, hu, Op.floatEq, feq, order_fr h1 h3, order_fr h2 h4]
  · cases hx; cases hy; cases h
    rename_i x _ y
    have e : ((⟨x.toArray⟩ : ByteArray) == ⟨y.toArray⟩) = (x == y) := by
      rw [beq_toListBytes, ByteArray.toList_eq, ByteArray.toList_eq]
    simp [Op.equalIn, underlying, hu, e]

theorem allB_cons {o : Option Bool} {l : List (Option Bool)} {b : Bool} (h : allB (o :: l) = some b) : ∃ c e, o = some c ∧ allB l = some e ∧ b = (c && e) := by
  cases o with
  | none => simp [allB] at h
  | some c =>
    simp only [allB] at h
    split at h
    · rename_i e he; cases h; exact ⟨c, e, rfl, he, rfl⟩
    · cases h

theorem aEq_run : ∀ (d : Nat) {d' : Nat} (_ : d ≤ d') {w : World} {t : TypeId} {x y : AV} {rx ry : Value} {b : Bool}, aEq P d t x y = some b → Rel σ x rx → Rel σ y ry →
    (Op.equalIn d' t rx ry).run P w = .ok b w
  | 0, _, _, _, _, _, _, _, _, _, h, _, _ => by simp [aEq] at h
  | d + 1, d', hd, w, t, x, y, rx, ry, b, h, hx, hy => by
    obtain ⟨d', rfl⟩ : ∃ n, d' = n + 1 := ⟨d' - 1, by omega⟩
    have hd' : d ≤ d' := by omega
    simp only [aEq] at h
    split at h
    · -- a struct
      rename_i fields hu
      split at h <;> try (cases h; done)
      rename_i xs ys
      split at h
      · cases h
      rename_i hsi
      cases hx with | agg hx => cases hy with | agg hy =>
      rename_i cx cy
      have hsi' : P.stoodInHeld t = false := by simpa using hsi
      have hfo : P.fieldsOf t = fields := by simp [Program.fieldsOf, hu]
      rw [run_equalIn_struct w d' t cx cy (by rw [hfo]; exact hu) hsi', hfo]
      generalize fields.toList = fs at h
      clear hu hfo
      induction fs generalizing b with
      | nil => simp [allB] at h; subst h; simp [Op.eqFields]
      | cons f fs ih =>
        rw [List.map_cons] at h
        obtain ⟨c, e, h1, h2, rfl⟩ := allB_cons h
        split at h1
        · cases h1
        rename_i hname
        split at h1 <;> try (cases h1; done)
        rename_i a a' ha ha'
        obtain ⟨v, hv, hrv⟩ := part_run (w := w) ha hx
        obtain ⟨v', hv', hrv'⟩ := part_run (w := w) ha' hy
        have he := aEq_run d hd' (w := w) h1 hrv hrv'
        simp only [Op.eqFields, Sem.run_ite, Sem.run_bind, hv, hv', he, Result.andThen_ok]
        simp only [ne_eq, hname, not_false_eq_true, if_true]
        cases c
        · simp
        · simpa using ih _ h2
    · rename_i len elem hu
      split at h <;> try (cases h; done)
      rename_i xs ys n hn
      cases hx with | agg hx => cases hy with | agg hy =>
      rename_i cx cy
      simp only [Op.equalIn, Sem.run_bind, run_underlyingA hu, Result.andThen_ok, run_sizeOfA hn]
      rw [Std.Legacy.Range.forIn_eq_forIn_range']
      have hsz : List.range' ([:len] : Std.Legacy.Range).start ([:len] : Std.Legacy.Range).size ([:len] : Std.Legacy.Range).step = List.range len := by
        simp [List.range_eq_range', Std.Legacy.Range.size]
      rw [hsz]
      generalize List.range len = is at h
      clear hu hsz
      induction is generalizing b with
      | nil => simp [allB] at h; subst h; simp
      | cons i is ih =>
        rw [List.map_cons] at h
        obtain ⟨c, e, h1, h2, rfl⟩ := allB_cons h
        split at h1 <;> try (cases h1; done)
        rename_i a a' ha ha'
        obtain ⟨v, hv, hrv⟩ := part_run (w := w) ha hx
        obtain ⟨v', hv', hrv'⟩ := part_run (w := w) ha' hy
        have he := aEq_run d hd' (w := w) h1 hrv hrv'
        simp only [List.forIn_cons, Sem.run_bind, Sem.run_ite, hv, hv', he, Result.andThen_ok]
        cases c
        · simp
        · simp only [Bool.not_true, Bool.false_eq_true, if_false, Sem.run_pure, Result.andThen_ok, Bool.true_and]
          exact ih _ h2
    · rename_i u _ _ hu
      exact leafEq_run hu h hx hy
    · cases h
end

/-! ### Two-place operations -/
def aInt (op : BinOp) (l m : Bool) (k : IntKind) (a : Int) (k' : IntKind) (b : Int) : Option (AV × List Bool) :=
  match op with
  | .shl => withN (.i l k (k.wrap (a * 2 ^ (min b.toNat k.bits)))) (chk m (decide (0 ≤ b)))
  | .shr => withN (.i l k (a.fdiv (2 ^ (min b.toNat k.bits)))) (chk m (decide (0 ≤ b)))
  | op =>
    if k = k' then
      match op with
      | .add => some (.i l k (k.wrap (a + b)), [])
      | .sub => some (.i l k (k.wrap (a - b)), [])
      | .mul => some (.i l k (k.wrap (a * b)), [])
      | .quo => withN (.i l k (k.wrap (a.tdiv b))) (chk m (!(b == 0)))
      | .rem => withN (.i l k (a.tmod b)) (chk m (!(b == 0)))
      | .and => some (.i l k (k.wrap (BitVec.ofInt k.bits a &&& BitVec.ofInt k.bits b).toNat), [])
      | .or => some (.i l k (k.wrap (BitVec.ofInt k.bits a ||| BitVec.ofInt k.bits b).toNat), [])
      | .xor => some (.i l k (k.wrap (BitVec.ofInt k.bits a ^^^ BitVec.ofInt k.bits b).toNat), [])
      | .andNot => some (.i l k (k.wrap (BitVec.ofInt k.bits a &&& ~~~(BitVec.ofInt k.bits b)).toNat), [])
      | .eql => some (.b l (a == b), [])
      | .neq => some (.b l (!(a == b)), [])
      | .lss => some (.b l (decide (a < b)), [])
      | .leq => some (.b l (decide (a ≤ b)), [])
      | .gtr => some (.b l (decide (b < a)), [])
      | .geq => some (.b l (decide (b ≤ a)), [])
      | _ => none
    else none
def aFlt (op : BinOp) (l : Bool) (k : FloatKind) (a b : Nat) : Option (AV × List Bool) :=
  match op with
  | .add => some (.f l k (fadd k a b), [])
  | .sub => some (.f l k (fsub k a b), [])
  | .mul => some (.f l k (fmul k a b), [])
  | .quo => some (.f l k (fdiv k a b), [])
  | .eql => some (.b l (feq k a b), [])
  | .neq => some (.b l (!feq k a b), [])
  | .lss => some (.b l (flt k a b), [])
  | .leq => some (.b l (fle k a b), [])
  | .gtr => some (.b l (fgt k a b), [])
  | .geq => some (.b l (fge k a b), [])
  | _ => none
def aCpx (op : BinOp) (l : Bool) (k : FloatKind) (a b c d : Nat) : Option (AV × List Bool) :=
  match op with
  | .add => some (.c l k (fadd k a c) (fadd k b d), [])
  | .sub => some (.c l k (fsub k a c) (fsub k b d), [])
  | .eql => some (.b l (feq k a c && feq k b d), [])
  | .neq => some (.b l (!(feq k a c && feq k b d)), [])
  | _ => none
def aStr (op : BinOp) (l : Bool) (a b : List UInt8) : Option (AV × List Bool) :=
  match op with
  | .add => withN (.s l (a ++ b)) (chk l (decide (a.length + b.length ≤ 9223372036854775807)))
  | .eql => some (.b l (a == b), [])
  | .neq => some (.b l (!(a == b)), [])
  | .lss => some (.b l (Op.bytesLess a b), [])
  | .leq => some (.b l (Op.bytesLess a b || a == b), [])
  | .gtr => some (.b l (!(Op.bytesLess a b || a == b)), [])
  | .geq => some (.b l (!Op.bytesLess a b), [])
  | _ => none
/-- Two interface values of one type that hold whole numbers. -/
def aIfc (P : Program) (op : BinOp) (t s s' : TypeId) (a b : AV) : Option (AV × List Bool) :=
  match a, b with
  | .i l k x, .i m k' y => match P.underlying t, (P.info? s).map (·.comparable), P.underlying s with
    | some (.interface _), some true, some (.int _) => if s = s' ∧ k = k' then (match op with
      | .eql => some (.b (l && m) (x == y), [])
      | .neq => some (.b (l && m) (!(x == y)), [])
      | _ => none) else none
    | _, _, _ => none
  | _, _ => none
def aBin (P : Program) (op : BinOp) (t : TypeId) (x y : AV) : Option (AV × List Bool) :=
  match x, y with
  | .i l k a, .i m k' b => aInt op (l && m) m k a k' b
  | .f l k a, .f m k' b => if k = k' then aFlt op (l && m) k a b else none
  | .c l k a b, .c m k' c d => if k = k' then aCpx op (l && m) k a b c d else none
  | .s l a, .s m b => aStr op (l && m) a b
  | .b l a, .b m b =>
    match op, P.underlying t with
    | .eql, some .bool => some (.b (l && m) (a == b), [])
    | .neq, some .bool => some (.b (l && m) (!(a == b)), [])
    | _, _ => none
  | .agg xs, .agg ys =>
    if P.eqGuardType P.depth t then none else
    match op, aEq P 20 t (.agg xs) (.agg ys) with
    | .eql, some r => some (.b false r, [])
    | .neq, some r => some (.b false (!r), [])
    | _, _ => none
  | .sl _ _ _ _ z, .slnil =>
    match op, P.underlying t with
    | .eql, some (.slice _) => some (.b true false, [decide (0 < z)])
    | .neq, some (.slice _) => some (.b true true, [decide (0 < z)])
    | _, _ => none
  | .ifc s a, .ifc s' b => aIfc P op t s s' a b
  | _, _ => none

section
variable {P : Program} {w : World} {σ : List (Nat × Nat)}

theorem gives_val {x : Sem Value} {v : Value} {q : Value → Prop} (h : x.run P w = .ok v w) (hq : q v) : Gives P w x q := ⟨v, w, h, hq, Same.refl w⟩

theorem int_gives {op : BinOp} {t : TypeId} {k k' : IntKind} {a b : Int} {v : AV} {l m : Bool} {nd : List Bool} (h : aInt op l m k a k' b = some (v, nd)) (hnd : allT nd = true) :
    Gives P w (binOp op t (.int k a) (.int k' b)) (Rel σ v) := by
  cases op
  case shl =>
    simp only [aInt] at h
    obtain ⟨rfl, hc⟩ := withN_some h
    have h0 := of_decide_eq_true (chk_spec hc hnd)
    exact gives_val (by simp [binOp, Op.shift, Int.not_lt.2 h0]) (.i _ _)
  case shr =>
    simp only [aInt] at h
    obtain ⟨rfl, hc⟩ := withN_some h
    have h0 := of_decide_eq_true (chk_spec hc hnd)
    exact gives_val (by simp [binOp, Op.shift, Int.not_lt.2 h0]) (.i _ _)
  all_goals
    simp only [aInt] at h
    split at h <;> try (cases h; done)
    rename_i hk
    subst hk
  case quo =>
    obtain ⟨rfl, hc⟩ := withN_some h
    have h0 := chk_spec hc hnd
    simp at h0
    exact gives_val (by simp [binOp, Op.intDiv, h0]) (.i _ _)
  case rem =>
    obtain ⟨rfl, hc⟩ := withN_some h
    have h0 := chk_spec hc hnd
    simp at h0
    exact gives_val (by simp [binOp, Op.intDiv, h0]) (.i _ _)
  all_goals simp only [Option.some.injEq, Prod.mk.injEq] at h
  all_goals obtain ⟨h, _⟩ := h
  all_goals subst h
  case add => exact gives_val (by simp [binOp, Op.intArith]) (.i _ _)
  case sub => exact gives_val (by simp [binOp, Op.intArith]) (.i _ _)
  case mul => exact gives_val (by simp [binOp, Op.intArith]) (.i _ _)
  case and => exact gives_val (by simp [binOp, Op.intBits]) (.i _ _)
  case or => exact gives_val (by simp [binOp, Op.intBits]) (.i _ _)
  case xor => exact gives_val (by simp [binOp, Op.intBits]) (.i _ _)
  case andNot => exact gives_val (by simp [binOp, Op.intBits]) (.i _ _)
  case eql => exact gives_val (by simp [binOp, Op.intCmp]) (.b _)
  case neq => exact gives_val (v := .bool (!(a == b))) (by simp [binOp, Op.intCmp]; rfl) (.b _)
  case lss => exact gives_val (by simp [binOp, Op.intCmp]) (.b _)
  case leq => exact gives_val (by simp [binOp, Op.intCmp]) (.b _)
  case gtr => exact gives_val (by simp [binOp, Op.intCmp]) (.b _)
  case geq => exact gives_val (by simp [binOp, Op.intCmp]) (.b _)

theorem gives_float {x : Sem Value} {l : Bool} {k : FloatKind} {r : Nat} (h : Gives P w x (fun v => ∃ z, v = .float k z ∧ FR k r z)) : Gives P w x (Rel σ (.f l k r)) := by
  obtain ⟨v, w', h1, ⟨z, rfl, hz⟩, h3⟩ := h
  exact ⟨_, w', h1, .f hz, h3⟩

theorem flt_gives {op : BinOp} {t : TypeId} {k : FloatKind} {a b a' b' : Nat} {v : AV} {l : Bool} {nd : List Bool} (h : aFlt op l k a b = some (v, nd)) (ha : FR k a a') (hb : FR k b b') :
    Gives P w (binOp op t (.float k a') (.float k b')) (Rel σ v) := by
  cases op <;> simp only [aFlt, Option.some.injEq, Prod.mk.injEq] at h <;> try (cases h; done)
  all_goals obtain ⟨rfl, rfl⟩ := h
  case add => simpa [binOp] using gives_float (gives_arith ha hb _ (.inl ⟨rfl, rfl⟩))
  case sub => simpa [binOp] using gives_float (gives_arith ha hb _ (.inr (.inl ⟨rfl, rfl⟩)))
  case mul => simpa [binOp] using gives_float (gives_arith ha hb _ (.inr (.inr (.inl ⟨rfl, rfl⟩))))
  case quo => simpa [binOp] using gives_float (gives_arith ha hb _ (.inr (.inr (.inr ⟨rfl, rfl⟩))))
  all_goals
    have ho := order_fr ha hb
  case eql => exact gives_val (v := .bool (feq k a b)) (by simp [binOp, Op.floatCmp, feq, ho]) (.b _)
  case neq => exact gives_val (v := .bool (!feq k a b)) (by simp [binOp, Op.floatCmp, feq, ho]; rfl) (.b _)
  case lss => exact gives_val (v := .bool (flt k a b)) (by simp [binOp, Op.floatCmp, flt, ho]) (.b _)
  case leq => exact gives_val (v := .bool (fle k a b)) (by simp [binOp, Op.floatCmp, fle, ho]) (.b _)
  case gtr => exact gives_val (v := .bool (fgt k a b)) (by simp [binOp, Op.floatCmp, fgt, ho]) (.b _)
  case geq => exact gives_val (v := .bool (fge k a b)) (by simp [binOp, Op.floatCmp, fge, ho]) (.b _)

theorem cpx_gives {op : BinOp} {t : TypeId} {k : FloatKind} {a b c d a' b' c' d' : Nat} {v : AV} {l : Bool} {nd : List Bool} (h : aCpx op l k a b c d = some (v, nd))
    (ha : FR k a a') (hb : FR k b b') (hc : FR k c c') (hd : FR k d d') : Gives P w (binOp op t (.complex k a' b') (.complex k c' d')) (Rel σ v) := by
  cases op <;> simp only [aCpx, Option.some.injEq, Prod.mk.injEq] at h <;> try (cases h; done)
  all_goals obtain ⟨rfl, rfl⟩ := h
  case add =>
    obtain ⟨v, w1, h1, ⟨z, rfl, hz⟩, h3⟩ := gives_arith (P := P) (w := w) ha hc _ (.inl ⟨rfl, rfl⟩)
    obtain ⟨v', w2, k1, ⟨z', rfl, hz'⟩, k3⟩ := gives_arith (P := P) (w := w1) hb hd _ (.inl ⟨rfl, rfl⟩)
    exact ⟨_, w2, by simp [binOp, Op.complexOp, Op.Complex.arith, h1, k1], .c hz hz', h3.trans k3⟩
  case sub =>
    obtain ⟨v, w1, h1, ⟨z, rfl, hz⟩, h3⟩ := gives_arith (P := P) (w := w) ha hc _ (.inr (.inl ⟨rfl, rfl⟩))
    obtain ⟨v', w2, k1, ⟨z', rfl, hz'⟩, k3⟩ := gives_arith (P := P) (w := w1) hb hd _ (.inr (.inl ⟨rfl, rfl⟩))
    exact ⟨_, w2, by simp [binOp, Op.complexOp, Op.Complex.arith, h1, k1], .c hz hz', h3.trans k3⟩
  case eql => exact gives_val (v := .bool (feq k a c && feq k b d)) (by simp [binOp, Op.complexOp, Op.Complex.cmp, Op.floatCmp, feq, order_fr ha hc, order_fr hb hd, asBool]) (.b _)
  case neq => exact gives_val (v := .bool (!(feq k a c && feq k b d))) (by simp [binOp, Op.complexOp, Op.Complex.cmp, Op.floatCmp, feq, order_fr ha hc, order_fr hb hd, asBool]) (.b _)

end
end Go.Ax

/- The other operations that only read. -/
namespace Go.Ax
open Go

def aUn (op : UnOp) (x : AV) : Option AV :=
  match op, x with
  | .neg, .i l k n => some (.i l k (k.wrap (0 - n)))
  | .neg, .f l k x => some (.f l k (fneg k x))
  | .neg, .c l k x y => some (.c l k (fneg k x) (fneg k y))
  | .not, .b l x => some (.b l (!x))
  | .xor, .i l k n => some (.i l k (k.wrap (BitVec.ofInt k.bits (if k.signed then -1 else k.max) ^^^ BitVec.ofInt k.bits n).toNat))
  | _, _ => none

/-- A float made a whole number. -/
def f2i (s : FloatKind) (x : Nat) : Int := ((s.decode x).toInt .zero).getD 0
def f2iOK (s : FloatKind) (x : Nat) (k : IntKind) : Bool :=
  match (s.decode x).toInt .zero with
  | some n => decide (k.min ≤ n) && decide (n ≤ k.max)
  | none => false
def aConv (P : Program) (src dst : TypeId) (x : AV) : Option (AV × List Bool) :=
  match P.underlying src, P.underlying dst, x with
  | some _, some (.int k), .i l _ n => some (.i l k (k.wrap n), [])
  | some _, some (.float k), .i l _ n => some (.f l k (k.nearest n), [])
  | some _, some (.int k), .f l s x => withN (.i l k (f2i s x)) (chk l (f2iOK s x k))
  | some _, some (.float k), .f l s x => withN (.f l k (fcvt s k x)) (chk l (fcvtOK s k x))
  | some _, some (.complex k), .c l s x y => withN (.c l k (fcvt s k x) (fcvt s k y)) (chk l (fcvtOK s k x && fcvtOK s k y))
  | some _, some .string, .s l x => some (.s l x, [])
  | _, _, _ => none

def intOf? : AV → Option Int
  | .i _ _ n => some n
  | _ => none
/-- A bound of a slice expression: its tag, the number, that it is none less than 0. -/
def bound (x : Option AV) (d : Nat) : Option (Bool × Nat × Bool) :=
  match x with
  | none => some (true, d, true)
  | some (.i l _ n) => some (l, n.toNat, decide (0 ≤ n))
  | some _ => none
def aSlice (P : Program) (t : TypeId) (x : AV) (lo hi mx : Option AV) (H : List AB) : Option (AV × List Bool) :=
  match P.underlying t, x, mx with
  | some .string, .s l x, none =>
    match bound lo 0, bound hi x.length with
    | some (la, a, na), some (lb, b, nb) => withN (.s (l && la && lb) ((x.take b).drop a)) (chk (l && la && lb) (na && nb && decide (a ≤ b) && decide (b ≤ x.length)))
    | _, _ => none
  | some (.slice e), .sl l id off len z, none =>
    match bound lo 0, bound hi len, szA P e with
    | some (la, a, na), some (lb, b, nb), some n =>
      match l && la && lb && decide (a = len) && !decide (a = 0) with
      | true => withN (.sl true id off 0 0) (chk true (na && nb && decide (a ≤ b) && decide (b ≤ len) && decide (z = n)))
      | false => withN (.sl (l && la && lb) id (off + a * n) (b - a) z) (chk (l && la && lb) (na && nb && decide (a ≤ b) && decide (b ≤ len) && (decide (a = 0) || decide (a < len)) && decide (z = n)))
    | _, _, _ => none
  | some (.slice e), .sl l _ _ _ z, some m =>
    match bound lo 0, hi.bind intOf?, intOf? m, szA P e with
    | some (la, a, na), some h, some m, some _ => withN .sle (chk (l && la) (na && decide (a = 0) && (h == 0) && (m == 0) && decide (0 < z)))
    | _, _, _, _ => none
  | some (.slice e), .slnil, some m =>
    match bound lo 0, hi.bind intOf?, intOf? m, szA P e with
    | some (la, a, na), some h, some m, some _ => withN .slnil (chk la (na && decide (a = 0) && (h == 0) && (m == 0)))
    | _, _, _, _ => none
  | some (.array len e), .p l id off, none =>
    match bound lo 0, bound hi len, szA P e with
    | some (la, a, na), some (lb, b, nb), some n =>
      match getB H id with
      | .cells _ A => withN (.sl (l && la && lb) id (off + a * n) (b - a) n)
          (chk (l && la && lb && A.isLit) (na && nb && decide (a ≤ b) && decide (b ≤ len) && (decide (a = 0) || decide (a < len)) && decide (off + len * n ≤ A.len)))
      | _ => none
    | _, _, _ => none
  | _, _, _ => none

def aFieldAddr (P : Program) (t : TypeId) (x : AV) (f : Nat) : Option AV :=
  match P.underlying t, x with
  | some (.struct fields), .p l id off =>
    match fields[f]? with
    | some fd => match szA P fd.type with
      | some (_ + 1) => some (.p l id (off + fd.offset))
      | _ => none
    | none => none
  | _, _ => none
def aField (P : Program) (t : TypeId) (x : AV) (f : Nat) : Option AV :=
  match P.underlying t, x with
  | some (.struct fields), .agg l =>
    match fields[f]? with
    | some fd => partA P fd.type l fd.offset
    | none => none
  | _, _ => none
def aIndexAddr (P : Program) (t : TypeId) (x i : AV) : Option (AV × List Bool) :=
  match P.underlying t, x, i with
  | some (.array len e), .p l id off, .i m _ n =>
    match szA P e with
    | some z => withN (.p (l && m) id (off + n.toNat * z)) (chk m (decide (0 ≤ n) && decide (n < len)))
    | none => none
  | some (.slice e), .sl l id off len _, .i m _ n =>
    match szA P e with
    | some z => withN (.p (l && m) id (off + n.toNat * z)) (chk (l && m) (decide (0 ≤ n) && decide (n < len)))
    | none => none
  | _, _, _ => none
def aIndex (P : Program) (t : TypeId) (x i : AV) : Option (AV × List Bool) :=
  match P.underlying t, x, i with
  | some (.array len e), .agg l, .i m _ n =>
    match szA P e with
    | some z => match partA P e l (n.toNat * z) with
      | some a => withN a (chk m (decide (0 ≤ n) && decide (n < len)))
      | none => none
    | none => none
  | some .string, .s l x, .i m _ n => withN (.i (l && m) .u8 ((x.getD n.toNat 0).toNat : Int)) (chk (l && m) (decide (0 ≤ n) && decide (n < x.length)))
  | _, _, _ => none
def aTypeAssert (P : Program) (x : AV) (at_ : TypeId) (ok : Bool) : Option AV :=
  match P.underlying at_, x with
  | some (.interface _), _ => none
  | some _, .ifc t v =>
    if t = at_ then some (if ok then .tup [v, .b true true] else v)
    else if ok then
      match P.info? at_ with
      | some i => match i.zero with
        | some z => match ofV z with
          | some a => some (.tup [a, .b true false])
          | none => none
        | none => none
      | none => none
    else none
  | _, _ => none

def aMax2 : AV → AV → Option AV
  | .i l k x, .i m k' y => if k = k' then some (.i (l && m) k (if x < y then y else x)) else none
  | .f l k x, .f m k' y => if k = k' then some (.f (l && m) k (fmaxA k x y)) else none
  | _, _ => none
def aMin2 : AV → AV → Option AV
  | .i l k x, .i m k' y => if k = k' then some (.i (l && m) k (if y < x then y else x)) else none
  | .f l k x, .f m k' y => if k = k' then some (.f (l && m) k (fminA k x y)) else none
  | _, _ => none
def foldA (g : AV → AV → Option AV) : AV → List AV → Option AV
  | a, [] => some a
  | a, b :: l => match g a b with
    | some c => foldA g c l
    | none => none
def aLen (P : Program) (t : TypeId) (x : AV) : Option AV :=
  match P.underlying t, x with
  | some .string, .s l x => some (.i l .i64 x.length)
  | some (.array n _), _ => some (.i true .i64 n)
  | some (.slice _), .sl l _ _ n _ => some (.i l .i64 n)
  | some (.slice _), .slnil => some (.i true .i64 0)
  | some (.slice _), .sle => some (.i true .i64 0)
  | _, _ => none
def aBuiltin (P : Program) (b : Builtin) (ts : Array TypeId) (args : List AV) : Option AV :=
  match b, args with
  | .len, [x] => match ts[0]? with
    | some t => aLen P t x
    | none => none
  | .real, [.c l k x _] => some (.f l k x)
  | .imag, [.c l k _ y] => some (.f l k y)
  | .complex, [.f l k x, .f m k' y] => if k = k' then some (.c (l && m) k x y) else none
  | .max, a :: l => foldA aMax2 a l
  | .min, a :: l => foldA aMin2 a l
  | _, _ => none

/-! ### An aggregate built -/
def setAll : List AV → Nat → List AV → List AV
  | l, _, [] => l
  | l, n, v :: vs => setAll (setL l n v) (n + 1) vs
def fillA (place : Nat → Option (Nat × Nat)) (cells : List AV) : List (Nat × AV) → Option (List AV)
  | [] => some cells
  | (i, v) :: rest =>
    match place i with
    | none => none
    | some (off, size) =>
      if isAny v || (cellsA v).length ≠ size || off + (cellsA v).length > cells.length then none
      else fillA place (setAll cells off (cellsA v)) rest
def zeroA (P : Program) (t : TypeId) : Option AV :=
  match P.info? t with
  | some i => match i.zero with
    | some z => ofV z
    | none => none
  | none => none
def placesA (P : Program) : List Field → Option (List (Nat × Nat))
  | [] => some []
  | f :: fs => match szA P f.type, placesA P fs with
    | some n, some l => some ((f.offset, n) :: l)
    | _, _ => none
def aBuild (P : Program) (t : TypeId) (parts : List (Nat × AV)) : Option AV :=
  match zeroA P t, P.underlying t with
  | some z, some (.struct fields) =>
    match placesA P fields.toList with
    | some pl => match fillA (fun i => pl[i]?) (cellsA z) parts with
      | some l => some (.agg l)
      | none => none
    | none => none
  | some z, some (.array _ e) =>
    match szA P e with
    | some n => match fillA (fun i => some (i * n, n)) (cellsA z) parts with
      | some l => some (.agg l)
      | none => none
    | none => none
  | _, _ => none

/-- Of two by a bool. -/
def pickA (l t : Bool) (a b : AV) : AV :=
  match l with
  | true => match t with
    | true => a
    | false => b
  | false =>
    match a, b with
    | .b _ x, .b _ y => .b false (bif t then x else y)
    | .i _ k x, .i _ k' y => if k = k' then .i false k (bif t then x else y) else bif t then a else b
    | .f _ k x, .f _ k' y => if k = k' then .f false k (bif t then x else y) else bif t then a else b
    | .c _ k x y, .c _ k' x' y' => if k = k' then .c false k (bif t then x else x') (bif t then y else y') else bif t then a else b
    | a, b => bif t then a else b
theorem pickA_rel {σ : List (Nat × Nat)} {l t : Bool} {a b : AV} {x y : Value} (ha : Rel σ a x) (hb : Rel σ b y) : Rel σ (pickA l t a b) (if t then x else y) := by
  cases l
  · cases t
    · simp only [pickA, Bool.false_eq_true, if_false]
      split
      · cases hb; exact .b _
      · split
        · rename_i hk; subst hk; cases hb; exact .i _ _
        · exact hb
      · split
        · rename_i hk; subst hk; cases hb with | f hb => exact .f hb
        · exact hb
      · split
        · rename_i hk; subst hk; cases hb with | c h1 h2 => exact .c h1 h2
        · exact hb
      · exact hb
    · simp only [pickA, if_true]
      split
      · cases ha; exact .b _
      · split
        · cases ha; exact .i _ _
        · exact ha
      · split
        · cases ha with | f ha => exact .f ha
        · exact ha
      · split
        · cases ha with | c h1 h2 => exact .c h1 h2
        · exact ha
      · exact ha
  · cases t
    · exact hb
    · exact ha

def just (o : Option AV) : Option (AV × List Bool) :=
  match o with
  | some v => some (v, [])
  | none => none
theorem just_some {o : Option AV} {v : AV} {n : List Bool} (h : just o = some (v, n)) : o = some v := by
  cases o <;> simp [just] at h
  rw [h.1]
/-- Is it the literal nil of an interface type? -/
def nilC : Operand → Bool
  | .const .nilIface => true
  | _ => false
/-- An interface value held against nil. -/
def ifaceNil (P : Program) (op : BinOp) (t : TypeId) (a b : AV) : Option (AV × List Bool) :=
  match P.underlying t with
  | some (.interface _) => match a, b with
    | .inil, .inil => (match op with | .eql => some (.b true true, []) | .neq => some (.b true (!true), []) | _ => none)
    | .ifc _ _, .inil => (match op with | .eql => some (.b true false, []) | .neq => some (.b true (!false), []) | _ => none)
    | .inil, .ifc _ _ => (match op with | .eql => some (.b true false, []) | .neq => some (.b true (!false), []) | _ => none)
    | _, _ => none
  | _ => none
def binA (P : Program) (op : BinOp) (t : TypeId) (x y : Operand) (a b : AV) : Option (AV × List Bool) :=
  match nilC x || nilC y with
  | true => ifaceNil P op t a b
  | false => aBin P op t a b
/-- The operations that only read. -/
def aop (P : Program) (op : Op) (ρ : Operand → AV) (H : List AB) : Option (AV × List Bool) :=
  match op with
  | .move x | .assign x => some (ρ x, [])
  | .pick c a b => match ρ c with
    | .b l t => some (pickA l t (ρ a) (ρ b), [])
    | _ => none
  | .load t a => aLoad P t (ρ a) H
  | .nilCheck x => match ρ x with
    | .p l id off => some (.p l id off, [])
    | .fn g f c => some (.fn g f c, [])
    | .ifc t v => some (.ifc t v, [])
    | _ => none
  | .binOp op t x y _ => binA P op t x y (ρ x) (ρ y)
  | .unOp op _ x => just (aUn op (ρ x))
  | .convert s d x => aConv P s d (ρ x)
  | .makeInterface t x => match P.underlying t with
    | some (.interface _) => none
    | some _ => some (.ifc t (ρ x), [])
    | none => none
  | .makeFunc (.func g) first cap => some (.fn g (first.toList.map ρ) (cap.toList.map ρ), [])
  | .slice t x lo hi mx => aSlice P t (ρ x) (lo.map ρ) (hi.map ρ) (mx.map ρ) H
  | .fieldAddr t x f => just (aFieldAddr P t (ρ x) f)
  | .field t x f => just (aField P t (ρ x) f)
  | .indexAddr t x i => aIndexAddr P t (ρ x) (ρ i)
  | .index t x i => aIndex P t (ρ x) (ρ i)
  | .typeAssert x _ at_ ok => just (aTypeAssert P (ρ x) at_ ok)
  | .extract t ix => match ρ t with
    | .tup l => just (nth? l ix)
    | _ => none
  | .build t parts => just (aBuild P t (parts.toList.map fun x => (x.1, ρ x.2)))
  | .call { callee := .builtin b, args, argTypes } => just (aBuiltin P b argTypes (args.toList.map ρ))
  | _ => none
end Go.Ax

/- The operations that only read: the model does the same. -/
namespace Go.Ax
open Go

section
variable {P : Program} {w : World} {σ : List (Nat × Nat)}

theorem str_toList (l : List UInt8) : (⟨l.toArray⟩ : ByteArray).toList = l := by rw [ByteArray.toList_eq]
theorem str_size (l : List UInt8) : (⟨l.toArray⟩ : ByteArray).size = l.length := by simp [ByteArray.size]
theorem str_append (l m : List UInt8) : (⟨l.toArray⟩ : ByteArray) ++ ⟨m.toArray⟩ = ⟨(l ++ m).toArray⟩ := by
  apply ByteArray.ext; simp [ByteArray.data_append]

theorem str_gives {op : BinOp} {t : TypeId} {a b : List UInt8} {v : AV} {l : Bool} {nd : List Bool} (h : aStr op l a b = some (v, nd)) (hnd : allT nd = true) :
    Gives P w (binOp op t (.string ⟨a.toArray⟩) (.string ⟨b.toArray⟩)) (Rel σ v) := by
  cases op <;> simp only [aStr, Option.some.injEq, Prod.mk.injEq] at h <;> try (cases h; done)
  case add =>
    obtain ⟨rfl, hc⟩ := withN_some h
    have h0 := of_decide_eq_true (chk_spec hc hnd)
    refine gives_val (v := .string ⟨(a ++ b).toArray⟩) ?_ (.s _)
    simp only [binOp, Op.stringOp]
    rw [if_neg, str_append]; · rfl
    rw [str_size, str_size]
    simp only [IntKind.max, IntKind.signed, IntKind.bits]
    simp; omega
  all_goals obtain ⟨rfl, _⟩ := h
  case eql => exact gives_val (v := .bool (a == b)) (by simp [binOp, Op.stringOp, ByteArray.toList_eq]) (.b _)
  case neq => exact gives_val (v := .bool (!(a == b))) (by simp [binOp, Op.stringOp, ByteArray.toList_eq]) (.b _)
  case lss => exact gives_val (v := .bool (Op.bytesLess a b)) (by simp [binOp, Op.stringOp, ByteArray.toList_eq]) (.b _)
  case leq => exact gives_val (v := .bool (Op.bytesLess a b || a == b)) (by simp [binOp, Op.stringOp, ByteArray.toList_eq]) (.b _)
  case gtr => exact gives_val (v := .bool (!(Op.bytesLess a b || a == b))) (by simp [binOp, Op.stringOp, ByteArray.toList_eq]) (.b _)
  case geq => exact gives_val (v := .bool (!Op.bytesLess a b)) (by simp [binOp, Op.stringOp, ByteArray.toList_eq]) (.b _)

theorem eqGuard_plain {op : BinOp} {t : TypeId} {x y : Operand} {a b : Value} (h : ∀ v, a ≠ .agg v) (h' : a ≠ .nilIface) : (eqGuard op t x y a b).run P w = .ok () w := by
  unfold eqGuard
  cases op <;> simp only [] <;> (try rfl)
  all_goals
    cases a <;> first | (exact absurd rfl (h _)) | (exact absurd rfl h') | rfl

theorem bin_gives {op : BinOp} {t : TypeId} {x y : Operand} {a b v : AV} {ra rb : Value} {nd : List Bool} (h : aBin P op t a b = some (v, nd)) (hnd : allT nd = true)
    (ha : Rel σ a ra) (hb : Rel σ b rb) : Gives P w (do eqGuard op t x y ra rb; binOp op t ra rb) (Rel σ v) := by
  have pre : ∀ {q : Value → Prop}, (∀ v, ra ≠ .agg v) → ra ≠ .nilIface → Gives P w (binOp op t ra rb) q → Gives P w (do eqGuard op t x y ra rb; binOp op t ra rb) q := by
    intro q h1 h2 ⟨v, w', e1, e2, e3⟩
    exact ⟨v, w', by simp [eqGuard_plain h1 h2, e1], e2, e3⟩
  unfold aBin at h
  split at h <;> try (cases h; done)
  · cases ha; cases hb; exact pre (by simp) (by simp) (int_gives h hnd)
  · cases ha with | f ha => cases hb with | f hb =>
    split at h <;> try (cases h; done)
    rename_i hk; subst hk
    exact pre (by simp) (by simp) (flt_gives h ha hb)
  · cases ha with | c h1 h2 => cases hb with | c h3 h4 =>
    split at h <;> try (cases h; done)
    rename_i hk; subst hk
    exact pre (by simp) (by simp) (cpx_gives h h1 h2 h3 h4)
  · cases ha; cases hb; exact pre (by simp) (by simp) (str_gives h hnd)
  · rename_i l p m q
    cases ha; cases hb
    refine pre (by simp) (by simp) ?_
    split at h <;> try (cases h; done)
    · rename_i hu
      simp only [Option.some.injEq, Prod.mk.injEq] at h
      obtain ⟨rfl, _⟩ := h
      refine gives_val (v := .bool (p == q)) ?_ (.b _)
      have e : binOp .eql t (.bool p) (.bool q) = (do pure (.bool (← Op.equal t (.bool p) (.bool q)))) := rfl
      rw [e]; simp only [Sem.run_bind, run_equal_bool w t p q hu, Result.andThen_ok, Sem.run_pure]
    · rename_i hu
      simp only [Option.some.injEq, Prod.mk.injEq] at h
      obtain ⟨rfl, _⟩ := h
      refine gives_val (v := .bool (!(p == q))) ?_ (.b _)
      have e : binOp .neq t (.bool p) (.bool q) = (do pure (.bool (!(← Op.equal t (.bool p) (.bool q))))) := rfl
      rw [e]; simp only [Sem.run_bind, run_equal_bool w t p q hu, Result.andThen_ok, Sem.run_pure]
  · rename_i xs ys
    split at h
    · cases h
    rename_i hg
    have hg' : P.eqGuardType P.depth t = false := by simpa using hg
    cases ha with | agg ha => cases hb with | agg hb =>
    rename_i cx cy
    split at h <;> try (cases h; done)
    · rename_i r hr
      simp only [Option.some.injEq, Prod.mk.injEq] at h
      obtain ⟨rfl, _⟩ := h
      have he := aEq_run (σ := σ) (P := P) 20 (d' := 10000) (by omega) (w := w) hr (.agg ha) (.agg hb)
      exact gives_val (v := .bool r) (by simp [run_eqGuard_agg w _ _ _ _ _ _ hg', run_eql_struct, he]) (.b _)
    · rename_i r hr
      simp only [Option.some.injEq, Prod.mk.injEq] at h
      obtain ⟨rfl, _⟩ := h
      have he := aEq_run (σ := σ) (P := P) 20 (d' := 10000) (by omega) (w := w) hr (.agg ha) (.agg hb)
      exact gives_val (v := .bool (!r)) (by simp [run_eqGuard_agg w _ _ _ _ _ _ hg', run_neq_struct, he]) (.b _)
  · rename_i l id off len z
    cases hb
    have key0 : ∀ d e, P.underlying t = some (.slice e) → ∀ (a : Addr) (n c : Nat), (Op.equalIn (d + 1) t (.slice (some a) n c) (.slice none 0 0)).run P w = .ok false w := fun d e hu a n c => by
      simp [Op.equalIn, run_underlying hu]
    have key : ∀ e, P.underlying t = some (.slice e) → ∀ (a : Addr) (n c : Nat), (Op.equal t (.slice (some a) n c) (.slice none 0 0)).run P w = .ok false w := fun e hu a n c => key0 9999 e hu a n c
    cases ha with
    | slz =>
      split at h <;> try (cases h; done)
      all_goals
        simp only [Option.some.injEq, Prod.mk.injEq] at h
        obtain ⟨_, rfl⟩ := h
        simp [allT] at hnd
    | sl h1 h2 h3 =>
    refine pre (by simp) (by simp) ?_
    split at h <;> try (cases h; done)
    · rename_i e hu
      simp only [Option.some.injEq, Prod.mk.injEq] at h
      obtain ⟨rfl, _⟩ := h
      refine gives_val (v := .bool false) ?_ (.b _)
      simp only [binOp]
      simp [key e hu]
    · rename_i e hu
      simp only [Option.some.injEq, Prod.mk.injEq] at h
      obtain ⟨rfl, _⟩ := h
      refine gives_val (v := .bool true) ?_ (.b _)
      simp only [binOp]
      simp [key e hu]
  · rename_i s a s' b
    unfold aIfc at h
    split at h <;> try (cases h; done)
    split at h <;> try (cases h; done)
    rename_i hu hc hx
    split at h <;> try (cases h; done)
    rename_i he
    obtain ⟨rfl, rfl⟩ := he
    cases ha with | ifc ha =>
    cases hb with | ifc hb =>
    cases ha; cases hb
    refine pre (by simp) (by simp) ?_
    split at h <;> cases h
    · exact gives_val (Lib.run_eql_iface_int w _ _ hu hc hx) (.b _)
    · exact gives_val (Lib.run_neq_iface_int w _ _ hu hc hx) (.b _)
theorem eqGuard_nil {op : BinOp} {t : TypeId} {x y : Operand} (hc : (nilC x || nilC y) = true) : (eqGuard op t x y .nilIface .nilIface).run P w = .ok () w := by
  unfold eqGuard
  cases op <;> simp only [] <;> (try rfl)
  all_goals (cases x <;> first | rfl | (cases y <;> first | rfl | cases hc))
theorem eqGuard_nil2 {op : BinOp} {t s : TypeId} {x y : Operand} {v : Value} : (eqGuard op t x y .nilIface (.iface s v)).run P w = .ok () w := by
  unfold eqGuard
  cases op <;> simp only [] <;> rfl
/-- An interface value held against the literal nil. -/
theorem nil_gives {op : BinOp} {t : TypeId} {x y : Operand} {a b v : AV} {ra rb : Value} {nd : List Bool} (hc : (nilC x || nilC y) = true) (h : ifaceNil P op t a b = some (v, nd))
    (ha : Rel σ a ra) (hb : Rel σ b rb) : Gives P w (do eqGuard op t x y ra rb; binOp op t ra rb) (Rel σ v) := by
  unfold ifaceNil at h
  split at h <;> try (cases h; done)
  rename_i ms hu
  have key : ∀ d s u, (Op.equalIn (d + 1) t .nilIface .nilIface).run P w = .ok true w ∧ (Op.equalIn (d + 1) t (.iface s u) .nilIface).run P w = .ok false w ∧ (Op.equalIn (d + 1) t .nilIface (.iface s u)).run P w = .ok false w := fun d s u => by
    simp [Op.equalIn, run_underlying hu]
  split at h <;> try (cases h; done)
  · cases ha; cases hb
    have k1 : (Op.equal t .nilIface .nilIface).run P w = .ok true w := (key 9999 0 .nilIface).1
    split at h <;> cases h
    · refine gives_val (v := .bool true) ?_ (.b _)
      simp only [Sem.run_bind, eqGuard_nil hc, Result.andThen_ok, binOp, k1, Sem.run_pure]
    · refine gives_val (v := .bool (!true)) ?_ (.b _)
      simp only [Sem.run_bind, eqGuard_nil hc, Result.andThen_ok, binOp, k1, Sem.run_pure]
  · obtain ⟨s, u, rfl⟩ : ∃ s u, ra = .iface s u := by cases ha; exact ⟨_, _, rfl⟩
    cases hb
    have k1 : (Op.equal t (.iface s u) .nilIface).run P w = .ok false w := (key 9999 s u).2.1
    split at h <;> cases h
    · refine gives_val (v := .bool false) ?_ (.b _)
      simp only [Sem.run_bind, eqGuard_plain (P := P) (w := w) (op := .eql) (t := t) (x := x) (y := y) (a := .iface s u) (b := .nilIface) (by simp) (by simp), Result.andThen_ok, binOp, k1, Sem.run_pure]
    · refine gives_val (v := .bool (!false)) ?_ (.b _)
      simp only [Sem.run_bind, eqGuard_plain (P := P) (w := w) (op := .neq) (t := t) (x := x) (y := y) (a := .iface s u) (b := .nilIface) (by simp) (by simp), Result.andThen_ok, binOp, k1, Sem.run_pure]
  · obtain ⟨s, u, rfl⟩ : ∃ s u, rb = .iface s u := by cases hb; exact ⟨_, _, rfl⟩
    cases ha
    have k1 : (Op.equal t .nilIface (.iface s u)).run P w = .ok false w := (key 9999 s u).2.2
    split at h <;> cases h
    · refine gives_val (v := .bool false) ?_ (.b _)
      simp only [Sem.run_bind, eqGuard_nil2, Result.andThen_ok, binOp, k1, Sem.run_pure]
    · refine gives_val (v := .bool (!false)) ?_ (.b _)
      simp only [Sem.run_bind, eqGuard_nil2, Result.andThen_ok, binOp, k1, Sem.run_pure]

theorem read_nan (f : Ieee.Format) (x : Nat) (y : Nat) (h : x % f.signWeight = y % f.signWeight) : (f.read x).isNaN = (f.read y).isNaN := by
  simp only [Ieee.Format.read, h]
  (repeat' split) <;> rfl
theorem neg_mod (k : FloatKind) (x : Nat) : fneg k x % k.format.signWeight = x % k.format.signWeight := by
  unfold fneg Op.negFloat Ieee.Format.signWeight
  rw [Nat.xor_mod_two_pow]
  simp
theorem neg_fr {k : FloatKind} {x y : Nat} (h : FR k x y) : FR k (fneg k x) (fneg k y) := by
  rcases h with rfl | ⟨h1, h2⟩
  · exact .inl rfl
  · refine .inr ⟨?_, ?_⟩
    · rw [show (k.decode (fneg k x)).isNaN = (k.decode x).isNaN from read_nan _ _ _ (neg_mod k x)]; exact h1
    · rw [show (k.decode (fneg k y)).isNaN = (k.decode y).isNaN from read_nan _ _ _ (neg_mod k y)]; exact h2

theorem un_gives {op : UnOp} {a v : AV} {ra : Value} (h : aUn op a = some v) (ha : Rel σ a ra) : Gives P w (Op.unary op ra) (Rel σ v) := by
  unfold aUn at h
  split at h <;> try (cases h; done)
  · cases ha; cases h; exact gives_val (v := .int _ _) (by simp [Op.unary, Op.intArith]) (.i _ _)
  · cases ha with | f ha => cases h; exact gives_val (v := .float _ (fneg _ _)) (by simp [Op.unary, fneg]) (.f (neg_fr ha))
  · cases ha with | c h1 h2 => cases h; exact gives_val (v := .complex _ (fneg _ _) (fneg _ _)) (by simp [Op.unary, fneg]) (.c (neg_fr h1) (neg_fr h2))
  · cases ha; cases h; exact gives_val (v := .bool _) (by simp [Op.unary]) (.b _)
  · cases ha; cases h; exact gives_val (v := .int _ _) (by simp [Op.unary, Op.intBits]) (.i _ _)

theorem f2i_fr {s : FloatKind} {x y : Nat} (h : FR s x y) {k : IntKind} (ok : f2iOK s x k = true) : y = x := by
  rcases h with h | ⟨h, _⟩
  · exact h
  · unfold f2iOK at ok
    cases hd : s.decode x <;> rw [hd] at h <;> simp [Ieee.Datum.isNaN] at h
    rw [hd] at ok
    simp [Ieee.Datum.toInt, Ieee.Datum.integral] at ok

theorem conv_gives {src dst : TypeId} {a v : AV} {ra : Value} {nd : List Bool} (h : aConv P src dst a = some (v, nd)) (hnd : allT nd = true) (ha : Rel σ a ra) :
    Gives P w (convert src dst ra) (Rel σ v) := by
  unfold aConv at h
  split at h <;> (try (cases h; done)) <;> rename_i hs hd
  · simp only [Option.some.injEq, Prod.mk.injEq] at h; obtain ⟨rfl, _⟩ := h
    cases ha; exact gives_val (v := .int _ _) (by simp [convert, underlying, hs, hd, Conv.intToInt]) (.i _ _)
  · simp only [Option.some.injEq, Prod.mk.injEq] at h; obtain ⟨rfl, _⟩ := h
    cases ha; exact gives_val (v := .float _ _) (by simp [convert, underlying, hs, hd, Conv.intToFloat]) (.f .rfl')
  · obtain ⟨rfl, hc⟩ := withN_some h
    have ok := chk_spec hc hnd
    cases ha with | f ha =>
    have := f2i_fr ha ok
    subst this
    rename_i k l s x
    unfold f2iOK at ok
    unfold f2i
    cases ht : (s.decode x).toInt .zero with
    | none => rw [ht] at ok; cases ok
    | some n =>
      rw [ht] at ok
      simp only [Bool.and_eq_true, decide_eq_true_eq] at ok
      exact gives_val (v := .int k n) (by simp [convert, underlying, hs, hd, Conv.floatToInt, ht, ok]) (.i _ _)
  · obtain ⟨rfl, hc⟩ := withN_some h
    have ok := chk_spec hc hnd
    cases ha with | f ha =>
    obtain ⟨v, w', h1, ⟨z, rfl, hz⟩, h3⟩ := fcvt_gives (P := P) (w := w) ha ok
    exact ⟨_, w', by simp [convert, underlying, hs, hd, h1], .f hz, h3⟩
  · obtain ⟨rfl, hc⟩ := withN_some h
    have ok := chk_spec hc hnd
    cases ha with | c h1 h2 =>
    simp only [Bool.and_eq_true] at ok
    obtain ⟨v, w1, e1, ⟨z, rfl, hz⟩, e3⟩ := fcvt_gives (P := P) (w := w) h1 ok.1
    obtain ⟨v', w2, k1, ⟨z', rfl, hz'⟩, k3⟩ := fcvt_gives (P := P) (w := w1) h2 ok.2
    exact ⟨_, w2, by simp [convert, underlying, hs, hd, Conv.complexToComplex, e1, k1], .c hz hz', e3.trans k3⟩
  · simp only [Option.some.injEq, Prod.mk.injEq] at h; obtain ⟨rfl, _⟩ := h
    cases ha; exact gives_val (by simp [convert, underlying, hs, hd]) (.s _)

/-! ### Bounds -/
def RelO (σ : List (Nat × Nat)) : Option AV → Option Value → Prop
  | none, none => True
  | some x, some y => Rel σ x y
  | _, _ => False

theorem run_bound {x : Value} {k : IntKind} {n : Int} {y : Nat} {code : BoundsCode} (hx : x = .int k n) (h0 : 0 ≤ n) (h : n.toNat ≤ y) : (Instr.sliceBound x y code).run P w = .ok n.toNat w := by
  subst hx
  have : n ≤ y := by omega
  simp [Instr.sliceBound, asIntOf, h0, this]

theorem bound_none {d a : Nat} {l na : Bool} (h : bound none d = some (l, a, na)) : a = d ∧ na = true := by
  simp [bound] at h; exact ⟨h.2.1.symm, h.2.2⟩
theorem bound_some {x : AV} {d a : Nat} {l na : Bool} (h : bound (some x) d = some (l, a, na)) : ∃ k n, x = .i l k n ∧ a = n.toNat ∧ na = decide (0 ≤ n) := by
  cases x <;> simp [bound] at h
  obtain ⟨rfl, rfl, rfl⟩ := h
  exact ⟨_, _, rfl, rfl, rfl⟩

/-- The bounds of a slice expression without a third one. -/
theorem run_bounds {isS : Bool} {len cap : Nat} {lo hi : Option AV} {rlo rhi : Option Value} {a b : Nat} {la lb na nb : Bool} (ha : bound lo 0 = some (la, a, na)) (hb : bound hi len = some (lb, b, nb))
    (hna : na = true) (hnb : nb = true) (hab : a ≤ b) (hbl : b ≤ len) (hlc : len ≤ cap)
    (hlo : RelO σ lo rlo) (hhi : RelO σ hi rhi) :
    (Instr.sliceBounds isS len cap rlo rhi none).run P w = .ok (a, b, cap) w := by
  subst hna; subst hnb
  have hB : ∀ {x : AV} {y : Value} {d n : Nat} {l : Bool} {m : Nat} {code : BoundsCode}, bound (some x) d = some (l, n, true) → Rel σ x y → n ≤ m → (Instr.sliceBound y m code).run P w = .ok n w := by
    intro x y d n l m code hx hr hn
    obtain ⟨k, z, rfl, rfl, h0⟩ := bound_some hx
    cases hr
    exact run_bound rfl (of_decide_eq_true h0.symm) hn
  unfold Instr.sliceBounds
  cases hi with
  | none =>
    cases rhi with
    | some y => exact hhi.elim
    | none =>
    obtain ⟨rfl, _⟩ := bound_none hb
    cases lo with
    | none =>
      cases rlo with
      | some y => exact hlo.elim
      | none => obtain ⟨rfl, _⟩ := bound_none ha; simp
    | some x =>
      cases rlo with
      | none => exact hlo.elim
      | some y => simp [hB ha hlo hab]
  | some z =>
    cases rhi with
    | none => exact hhi.elim
    | some u =>
    cases lo with
    | none =>
      cases rlo with
      | some y => exact hlo.elim
      | none => obtain ⟨rfl, _⟩ := bound_none ha; simp [hB hb hhi (Nat.le_trans hbl hlc)]
    | some x =>
      cases rlo with
      | none => exact hlo.elim
      | some y => simp [hB hb hhi (Nat.le_trans hbl hlc), hB ha hlo hab]
end
end Go.Ax
