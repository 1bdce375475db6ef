/- The same run, prepared: what hangs on the code alone is worked out once, and the kernel keeps it. -/
import Derived.Test.YtaboeibkmknocaaDoorAad
namespace Go.Ax
open Go

/-- A function behind a constructor: what is closed is worked out once. -/
inductive CF (α : Type) where
  | mk (f : α)
noncomputable def CF.app {α : Type} (c : CF α) : α := CF.rec (motive := fun _ => α) (fun f => f) c

/-! ### Numbers -/
def ikIx : IntKind → Nat
  | .i8 => 0 | .i16 => 1 | .i32 => 2 | .i64 => 3 | .u8 => 4 | .u16 => 5 | .u32 => 6 | .u64 => 7
def fkIx : FloatKind → Nat
  | .f32 => 0 | .f64 => 1
theorem ikIx_inj {k k' : IntKind} (h : Nat.beq (ikIx k) (ikIx k') = true) : k = k' := by cases k <;> cases k' <;> first | rfl | cases h
theorem fkIx_inj {k k' : FloatKind} (h : Nat.beq (fkIx k) (fkIx k') = true) : k = k' := by cases k <;> cases k' <;> first | rfl | cases h
def topK : IntKind → Nat
  | .i8 => 127 | .i16 => 32767 | .i32 => 2147483647 | .i64 => 9223372036854775807 | .u8 => 255 | .u16 => 65535 | .u32 => 4294967295 | .u64 => 18446744073709551615
def wrapL (k : IntKind) (n : Int) : Int :=
  match n with
  | .ofNat m => match Nat.ble m (topK k) with
    | true => .ofNat m
    | false => k.wrap (.ofNat m)
  | .negSucc m => k.wrap (.negSucc m)
theorem wrapL_eq (k : IntKind) (n : Int) : wrapL k n = k.wrap n := by
  unfold wrapL
  split
  · rename_i m
    split
    · rename_i h
      have h := Nat.le_of_ble_eq_true h
      cases k <;> simp only [topK] at h <;> simp [IntKind.wrap, IntKind.bits, IntKind.signed] <;> omega
    · rfl
  · rfl
def wrapQ (l : Bool) (k : IntKind) (n : Int) : Int :=
  match l with
  | true => wrapL k n
  | false => k.wrap n
theorem wrapQ_eq (l : Bool) (k : IntKind) (n : Int) : wrapQ l k n = k.wrap n := by cases l <;> simp [wrapQ, wrapL_eq]
def ltL (a b : Int) : Bool :=
  match a, b with
  | .ofNat x, .ofNat y => Nat.blt x y
  | a, b => decide (a < b)
theorem ltL_eq (a b : Int) : ltL a b = decide (a < b) := by
  unfold ltL
  split
  · rename_i x y
    have : Nat.blt x y = decide (x < y) := by
      unfold Nat.blt
      rw [Bool.eq_iff_iff, Nat.ble_eq]; simp; omega
    rw [this]; simp
  · rfl
def eqL (a b : Int) : Bool :=
  match a, b with
  | .ofNat x, .ofNat y => Nat.beq x y
  | a, b => a == b
theorem eqL_eq (a b : Int) : eqL a b = (a == b) := by
  unfold eqL
  split
  · rename_i x y
    rw [Bool.eq_iff_iff, Nat.beq_eq]; simp; omega
  · rfl
def ltQ (l : Bool) (a b : Int) : Bool :=
  match l with
  | true => ltL a b
  | false => decide (a < b)
def leQ (l : Bool) (a b : Int) : Bool :=
  match l with
  | true => !(ltL b a)
  | false => decide (a ≤ b)
def eqQ (l : Bool) (a b : Int) : Bool :=
  match l with
  | true => eqL a b
  | false => a == b
theorem ltQ_eq (l : Bool) (a b : Int) : ltQ l a b = decide (a < b) := by cases l <;> simp [ltQ, ltL_eq]
theorem leQ_eq (l : Bool) (a b : Int) : leQ l a b = decide (a ≤ b) := by
  cases l
  · rfl
  · simp only [leQ, ltL_eq]
    by_cases h : b < a
    · simp [h]
    · simp [h]; omega
theorem eqQ_eq (l : Bool) (a b : Int) : eqQ l a b = (a == b) := by cases l <;> simp [eqQ, eqL_eq]

/-! ### Operands and two-place operations -/
noncomputable def cOpd : Operand → CF (Tm → AV)
  | .tmp n => .mk fun t => gt t n
  | .const v => .mk fun _ => (ofV v).getD (.tup [])
  | .global _ => .mk fun _ => .tup []
  | .func f => .mk fun _ => .fn f [] []
theorem cOpd_eq (o : Operand) (t : Tm) : (cOpd o).app t = evB t o := by cases o <;> rfl

abbrev OA := Option (AV × List Bool)
/-- Two whole numbers of one kind, two floats of one kind, or something else. -/
def bothI (x y : AV) (g : Bool → IntKind → Int → Int → OA) (d : OA) : OA :=
  match x with
  | .i l k a => match y with
    | .i m k' b => match Nat.beq (ikIx k) (ikIx k') with
      | true => g (l && m) k a b
      | false => d
    | _ => d
  | _ => d
def bothF (x y : AV) (g : Bool → FloatKind → Nat → Nat → OA) (d : OA) : OA :=
  match x with
  | .f l k a => match y with
    | .f m k' b => match Nat.beq (fkIx k) (fkIx k') with
      | true => g (l && m) k a b
      | false => d
    | _ => d
  | _ => d
theorem bothI_eq {x y : AV} {g : Bool → IntKind → Int → Int → OA} {d e : OA} (h : ∀ l m k a b, x = .i l k a → y = .i m k b → g (l && m) k a b = e) (hd : d = e) : bothI x y g d = e := by
  subst hd
  unfold bothI
  split
  · split
    · split
      · rename_i l k a m k' b hk
        have := ikIx_inj hk
        subst this
        exact h _ _ _ _ _ rfl rfl
      · rfl
    · rfl
  · rfl
theorem bothF_eq {x y : AV} {g : Bool → FloatKind → Nat → Nat → OA} {d e : OA} (h : ∀ l m k a b, x = .f l k a → y = .f m k b → g (l && m) k a b = e) (hd : d = e) : bothF x y g d = e := by
  subst hd
  unfold bothF
  split
  · split
    · split
      · rename_i l k a m k' b hk
        have := fkIx_inj hk
        subst this
        exact h _ _ _ _ _ rfl rfl
      · rfl
    · rfl
  · rfl
def nz (m : Bool) (b : Int) (v : OA) (d : OA) : OA :=
  match m with
  | true => match eqL b 0 with
    | true => d
    | false => v
  | false => d
noncomputable def cBin (P : Program) (op : BinOp) (ty : TypeId) : CF (AV → AV → OA) :=
  match op with
  | .add => .mk fun x y => bothI x y (fun l k a b => some (.i l k (wrapQ l k (a + b)), [])) (bothF x y (fun l k a b => some (.f l k (fadd k a b), [])) (aBin P .add ty x y))
  | .sub => .mk fun x y => bothI x y (fun l k a b => some (.i l k (wrapQ l k (a - b)), [])) (bothF x y (fun l k a b => some (.f l k (fsub k a b), [])) (aBin P .sub ty x y))
  | .mul => .mk fun x y => bothI x y (fun l k a b => some (.i l k (wrapQ l k (a * b)), [])) (bothF x y (fun l k a b => some (.f l k (fmul k a b), [])) (aBin P .mul ty x y))
  | .eql => .mk fun x y => bothI x y (fun l _ a b => some (.b l (eqQ l a b), [])) (bothF x y (fun l k a b => some (.b l (feq k a b), [])) (aBin P .eql ty x y))
  | .neq => .mk fun x y => bothI x y (fun l _ a b => some (.b l (!eqQ l a b), [])) (bothF x y (fun l k a b => some (.b l (!feq k a b), [])) (aBin P .neq ty x y))
  | .lss => .mk fun x y => bothI x y (fun l _ a b => some (.b l (ltQ l a b), [])) (bothF x y (fun l k a b => some (.b l (flt k a b), [])) (aBin P .lss ty x y))
  | .leq => .mk fun x y => bothI x y (fun l _ a b => some (.b l (leQ l a b), [])) (aBin P .leq ty x y)
  | .gtr => .mk fun x y => bothI x y (fun l _ a b => some (.b l (ltQ l b a), [])) (aBin P .gtr ty x y)
  | .geq => .mk fun x y => bothI x y (fun l _ a b => some (.b l (leQ l b a), [])) (aBin P .geq ty x y)
  | .quo => .mk fun x y => bothI x y (fun l k a b => nz l b (some (.i l k (wrapQ l k (a.tdiv b)), [])) (aBin P .quo ty x y)) (bothF x y (fun l k a b => some (.f l k (fdiv k a b), [])) (aBin P .quo ty x y))
  | .rem => .mk fun x y => bothI x y (fun l k a b => nz l b (some (.i l k (a.tmod b), [])) (aBin P .rem ty x y)) (aBin P .rem ty x y)
  | op => .mk fun x y => aBin P op ty x y
theorem nz_eq {m : Bool} {b : Int} {v d e : OA} (h : m = true → (b == 0) = false → v = e) (hd : d = e) : nz m b v d = e := by
  unfold nz
  split
  · rw [eqL_eq]
    split
    · exact hd
    · rename_i h'; exact h rfl h'
  · exact hd
theorem cBin_eq (P : Program) (op : BinOp) (ty : TypeId) (x y : AV) : (cBin P op ty).app x y = aBin P op ty x y := by
  cases op <;> dsimp only [cBin, CF.app]
  case add =>
    refine bothI_eq (fun l m k a b hx hy => ?_) (bothF_eq (fun l m k a b hx hy => ?_) rfl) <;> subst hx <;> subst hy <;> simp [aBin, aInt, aFlt, wrapQ_eq]
  case sub =>
    refine bothI_eq (fun l m k a b hx hy => ?_) (bothF_eq (fun l m k a b hx hy => ?_) rfl) <;> subst hx <;> subst hy <;> simp [aBin, aInt, aFlt, wrapQ_eq]
  case mul =>
    refine bothI_eq (fun l m k a b hx hy => ?_) (bothF_eq (fun l m k a b hx hy => ?_) rfl) <;> subst hx <;> subst hy <;> simp [aBin, aInt, aFlt, wrapQ_eq]
  case eql =>
    refine bothI_eq (fun l m k a b hx hy => ?_) (bothF_eq (fun l m k a b hx hy => ?_) rfl) <;> subst hx <;> subst hy <;> simp [aBin, aInt, aFlt, eqQ_eq]
  case neq =>
    refine bothI_eq (fun l m k a b hx hy => ?_) (bothF_eq (fun l m k a b hx hy => ?_) rfl) <;> subst hx <;> subst hy <;> simp [aBin, aInt, aFlt, eqQ_eq]
  case lss =>
    refine bothI_eq (fun l m k a b hx hy => ?_) (bothF_eq (fun l m k a b hx hy => ?_) rfl) <;> subst hx <;> subst hy <;> simp [aBin, aInt, aFlt, ltQ_eq]
  case leq =>
    refine bothI_eq (fun l m k a b hx hy => ?_) rfl; subst hx; subst hy; simp [aBin, aInt, leQ_eq]
  case gtr =>
    refine bothI_eq (fun l m k a b hx hy => ?_) rfl; subst hx; subst hy; simp [aBin, aInt, ltQ_eq]
  case geq =>
    refine bothI_eq (fun l m k a b hx hy => ?_) rfl; subst hx; subst hy; simp [aBin, aInt, leQ_eq]
  case quo =>
    refine bothI_eq (fun l m k a b hx hy => nz_eq (fun hm hb => ?_) rfl) (bothF_eq (fun l m k a b hx hy => ?_) rfl) <;> subst hx <;> subst hy
    · simp only [Bool.and_eq_true] at hm
      obtain ⟨rfl, rfl⟩ := hm
      simp [aBin, aInt, wrapQ_eq, chk, hb, withN]
    · simp [aBin, aFlt]
  case rem =>
    refine bothI_eq (fun l m k a b hx hy => nz_eq (fun hm hb => ?_) rfl) rfl; subst hx; subst hy
    simp only [Bool.and_eq_true] at hm
    obtain ⟨rfl, rfl⟩ := hm
    simp [aBin, aInt, chk, hb, withN]
  all_goals rfl

/-! ### Memory -/
noncomputable def nthR (l : List AV) : Nat → Option AV := List.rec (motive := fun _ => Nat → Option AV) (fun _ => none) (fun a _ ih n => Nat.rec (motive := fun _ => Option AV) (some a) (fun m _ => ih m) n) l
noncomputable def setR (l : List AV) : Nat → AV → List AV := List.rec (motive := fun _ => Nat → AV → List AV) (fun _ _ => []) (fun a l ih n v => Nat.rec (motive := fun _ => List AV) (v :: l) (fun m _ => a :: ih m v) n) l
theorem nthR_eq : ∀ (l : List AV) (n : Nat), nthR l n = l[n]?
  | [], _ => rfl
  | _ :: _, 0 => rfl
  | a :: l, n + 1 => by
    show nthR l n = _
    rw [nthR_eq l n]; simp
theorem setR_eq : ∀ (l : List AV) (n : Nat) (v : AV), setR l n v = setL l n v
  | [], _, _ => rfl
  | _ :: _, 0, _ => rfl
  | a :: l, n + 1, v => by
    show a :: setR l n v = a :: setL l n v
    rw [setR_eq l n v]
noncomputable def cLoad (P : Program) (ty : TypeId) : CF (AV → List AB → OA) :=
  match szA P ty, aggA P ty with
  | some _, some false => .mk fun v H => match v with
    | .p l id off => match l with
      | true => match getB H id with
        | .cells _ A => match A with
          | .lit L => match nthR L off with
            | some a => some (a, [])
            | none => aLoad P ty v H
          | _ => aLoad P ty v H
        | .dead => none
        | .code _ _ => aLoad P ty v H
      | false => aLoad P ty v H
    | _ => none
  | _, _ => .mk fun v H => aLoad P ty v H
theorem nthR_some {l : List AV} {n : Nat} {a : AV} (h : nthR l n = some a) : n < l.length ∧ getL l n = a := by
  rw [nthR_eq] at h
  have hn : n < l.length := (List.getElem?_eq_some_iff.1 h).1
  rw [getL_some hn] at h
  exact ⟨hn, by simpa using h⟩
theorem cLoad_eq (P : Program) (ty : TypeId) (v : AV) (H : List AB) : (cLoad P ty).app v H = aLoad P ty v H := by
  unfold cLoad
  cases hs : szA P ty with
  | none => rfl
  | some n => cases ha : aggA P ty with
    | none => rfl
    | some b => cases b with
      | true => rfl
      | false =>
        dsimp only [CF.app]
        cases v
        case p l id off =>
          cases l with
          | false => rfl
          | true =>
            dsimp only
            cases hg : getB H id with
            | dead => simp [aLoad, hg]
            | code o0 xs0 => rfl
            | cells r A =>
              cases A
              case lit L =>
                dsimp only
                cases hn : nthR L off with
                | none => rfl
                | some a =>
                  obtain ⟨h1, h2⟩ := nthR_some hn
                  simp [aLoad, hg, hs, ha, Cells.isLit, Cells.get, Cells.len, h1, h2, chk, withN]
              all_goals rfl
        all_goals rfl
noncomputable def cFieldAddr (P : Program) (ty : TypeId) (f : Nat) : CF (AV → OA) :=
  match P.underlying ty with
  | some (.struct fields) => match fields[f]? with
    | some fd => match szA P fd.type with
      | some (_ + 1) => .mk fun x => match x with
        | .p l id off => some (.p l id (off + fd.offset), [])
        | _ => none
      | _ => .mk fun x => just (aFieldAddr P ty x f)
    | none => .mk fun x => just (aFieldAddr P ty x f)
  | _ => .mk fun x => just (aFieldAddr P ty x f)
theorem cFieldAddr_eq (P : Program) (ty : TypeId) (f : Nat) (x : AV) : (cFieldAddr P ty f).app x = just (aFieldAddr P ty x f) := by
  unfold cFieldAddr
  cases hu : P.underlying ty with
  | none => rfl
  | some d => cases d
              case struct fields =>
                dsimp only
                cases hf : fields[f]? with
                | none => rfl
                | some fd =>
                  dsimp only
                  cases hs : szA P fd.type with
                  | none => rfl
                  | some n => cases n with
                    | zero => rfl
                    | succ n => dsimp only [CF.app]; cases x <;> simp [aFieldAddr, hu, hf, hs, just]
              all_goals rfl
noncomputable def cIndexAddr (P : Program) (ty : TypeId) : CF (AV → AV → OA) :=
  match P.underlying ty with
  | some (.array len e) => match szA P e with
    | some z => .mk fun x i => match x with
      | .p l id off => match i with
        | .i m _ n => match m with
          | true => match n with
            | .ofNat k => match Nat.blt k len with
              | true => some (.p (l && true) id (off + k * z), [])
              | false => none
            | .negSucc _ => none
          | false => aIndexAddr P ty x i
        | _ => none
      | _ => none
    | none => .mk fun x i => aIndexAddr P ty x i
  | some (.slice e) => match szA P e with
    | some z => .mk fun x i => match x with
      | .sl l id off len _ => match i with
        | .i m _ n => match l && m with
          | true => match n with
            | .ofNat k => match Nat.blt k len with
              | true => some (.p (l && m) id (off + k * z), [])
              | false => none
            | .negSucc _ => none
          | false => aIndexAddr P ty x i
        | _ => none
      | _ => none
    | none => .mk fun x i => aIndexAddr P ty x i
  | _ => .mk fun x i => aIndexAddr P ty x i
theorem blt_true {k n : Nat} (h : Nat.blt k n = true) : k < n := by
  unfold Nat.blt at h
  exact Nat.le_of_ble_eq_true h
theorem blt_false {k n : Nat} (h : Nat.blt k n = false) : ¬ k < n := fun h' => by
  have : Nat.blt k n = true := Nat.ble_eq_true_of_le h'
  rw [this] at h; cases h
theorem cIndexAddr_eq (P : Program) (ty : TypeId) (x i : AV) : (cIndexAddr P ty).app x i = aIndexAddr P ty x i := by
  unfold cIndexAddr
  cases hu : P.underlying ty with
  | none => rfl
  | some d =>
    cases d
    case array len e =>
      dsimp only
      cases hz : szA P e with
      | none => rfl
      | some z =>
        dsimp only [CF.app]
        cases x
        case p l id off =>
          cases i
          case i m k n =>
            cases m with
            | false => rfl
            | true =>
              cases n with
              | ofNat k =>
                dsimp only
                cases hb : Nat.blt k len with
                | true => have := blt_true hb; simp [aIndexAddr, hu, hz, chk, withN, this]
                | false => have := blt_false hb; simp [aIndexAddr, hu, hz, chk, withN, this]
              | negSucc k => simp [aIndexAddr, hu, hz, chk, withN]
          all_goals simp [aIndexAddr, hu]
        all_goals simp [aIndexAddr, hu]
    case slice e =>
      dsimp only
      cases hz : szA P e with
      | none => rfl
      | some z =>
        dsimp only [CF.app]
        cases x
        case sl l id off len w =>
          cases i
          case i m k n =>
            dsimp only
            cases hlm : l && m with
            | false => rfl
            | true =>
              cases n with
              | ofNat k =>
                dsimp only
                cases hb : Nat.blt k len with
                | true => have := blt_true hb; simp [aIndexAddr, hu, hz, chk, withN, this, hlm]
                | false => have := blt_false hb; simp [aIndexAddr, hu, hz, chk, withN, this, hlm]
              | negSucc k => simp [aIndexAddr, hu, hz, chk, withN, hlm]
          all_goals simp [aIndexAddr, hu]
        all_goals simp [aIndexAddr, hu]
    all_goals rfl

/-- A store into a row of literal length at a literal place. -/
noncomputable def cStore (P : Program) (ty : TypeId) : CF (AV → AV → List AB → Option (List AB)) :=
  match szA P ty with
  | some 1 => .mk fun a x H => match a with
    | .p l id off => match l with
      | true => match getB H id with
        | .cells r A => match r with
          | true => match A with
            | .lit L => match okCell x with
              | true => match nthR L off with
                | some _ => some (setB H id (.cells true (.lit (setR L off x))))
                | none => none
              | false => none
            | _ => none
          | false => none
        | _ => none
      | false => none
    | _ => none
  | _ => .mk fun _ _ _ => none
theorem okCell_cells {x : AV} (h : okCell x = true) : cellsA x = [x] := by cases x <;> first | rfl | cases h
theorem cStore_eq {P : Program} {ty : TypeId} {a x : AV} {H H' : List AB} (h : (cStore P ty).app a x H = some H') : aStore P ty a x H = some (.tup [], H', []) := by
  unfold cStore at h
  split at h
  case h_2 => cases h
  rename_i hs
  dsimp only [CF.app] at h
  split at h <;> (try (cases h; done))
  split at h <;> (try (cases h; done))
  split at h <;> (try (cases h; done))
  rename_i hg
  split at h <;> (try (cases h; done))
  split at h <;> (try (cases h; done))
  split at h <;> (try (cases h; done))
  rename_i hok
  split at h <;> cases h
  rename_i L _ _ _ hn
  obtain ⟨h1, _⟩ := nthR_some hn
  rw [setR_eq]
  unfold aStore
  simp only [hg, hs, Bool.true_or]
  have hc : ∀ off, off < L.length → (decide ((cellsA x).length = 1) && decide (off + 1 ≤ (Cells.lit L).len)) = true := fun off h => by
    rw [okCell_cells hok, Bool.and_eq_true]
    exact ⟨rfl, decide_eq_true (show off + 1 ≤ L.length from h)⟩
  rw [hc _ h1]
  simp [okCell_cells hok, Cells.put, Cells.set, allCell, hok, Cells.isLit, chk, consN]

/-! ### Operations -/
section
variable (P : Program) (T : Table)
abbrev KO := Tm → List AB → List Bool → KB → Res
def nil? : List Bool → Bool
  | [] => true
  | _ => false
/-- What a quiet operation hands on. -/
noncomputable def pass (d : Nat) (r : OA) (t : Tm) (H : List AB) (nd : List Bool) (K : KB) (slow : Res) : Res :=
  match r with
  | some z => match z with
    | (v, n) => match n with
      | [] => K (st t d v) H nd
      | b :: n => K (st t d v) H (b :: n ++ nd)
  | none => slow
noncomputable def cArgs : List Operand → CF (Tm → List AV)
  | [] => .mk fun _ => []
  | o :: l => match cOpd o, cArgs l with
    | .mk f, .mk g => .mk fun t => f t :: g t
theorem cArgs_eq : ∀ (l : List Operand) (t : Tm), (cArgs l).app t = l.map (evB t)
  | [], _ => rfl
  | o :: l, t => by
    have h1 := cOpd_eq o t
    have h2 := cArgs_eq l t
    unfold cArgs
    cases hf : cOpd o with
    | mk f => cases hg : cArgs l with
      | mk g =>
        rw [hf] at h1; rw [hg] at h2
        show f t :: g t = _
        rw [List.map_cons, ← h1, ← h2]; rfl
/-- A call of a function that the text names. -/
noncomputable def cCall (c : Call) : Option (FuncId × CF (Tm → List AV)) :=
  match c.callee with
  | .value f => match f with
    | .func g => match P.funcs[g]? with
      | some fn => match fn.body with
        | some _ => match fn.name == "runtime.NumGoroutine" with
          | true => none
          | false => some (g, cArgs c.args.toList)
        | none => none
      | none => none
    | _ => none
  | _ => none
noncomputable def cOp (o : Oper) : CF KO :=
  match o.op.operands.all okOpd with
  | false => .mk fun _ _ _ _ => .fail
  | true => match o.dst with
    | some d => match o.op with
      | .move x => match cOpd x with
        | .mk f => .mk fun t H nd K => K (st t d (f t)) H nd
      | .assign x => match cOpd x with
        | .mk f => .mk fun t H nd K => K (st t d (f t)) H nd
      | .binOp op ty x y _ => match nilC x || nilC y with
        | true => .mk fun t H nd K => bStepOp P T o t H nd K
        | false => match cBin P op ty, cOpd x, cOpd y with
          | .mk b, .mk f, .mk g => .mk fun t H nd K => pass d (b (f t) (g t)) t H nd K .fail
      | .load ty a => match cLoad P ty, cOpd a with
        | .mk b, .mk f => .mk fun t H nd K => pass d (b (f t) H) t H nd K .fail
      | .fieldAddr ty a i => match cFieldAddr P ty i, cOpd a with
        | .mk b, .mk f => .mk fun t H nd K => pass d (b (f t)) t H nd K .fail
      | .indexAddr ty a i => match cIndexAddr P ty, cOpd a, cOpd i with
        | .mk b, .mk f, .mk g => .mk fun t H nd K => pass d (b (f t) (g t)) t H nd K .fail
      | .unOp op _ x => match cOpd x with
        | .mk f => .mk fun t H nd K => pass d (just (aUn op (f t))) t H nd K .fail
      | .call c => match cCall P c with
        | some (g, .mk f) => .mk fun t H nd K => T g (f t) H nd fun v H' nd' => K (st t d v) H' nd'
        | none => .mk fun t H nd K => bStepOp P T o t H nd K
      | _ => .mk fun t H nd K => bStepOp P T o t H nd K
    | none => match o.op with
      | .store ty a x => match cStore P ty, cOpd a, cOpd x with
        | .mk b, .mk f, .mk g => .mk fun t H nd K => match b (f t) (g t) H with
          | some H' => K t H' nd
          | none => bStepOp P T o t H nd K
      | _ => .mk fun t H nd K => bStepOp P T o t H nd K
/-- One that must leave memory alone. -/
noncomputable def cOpQ (o : Oper) : CF (Tm → List AB → List Bool → (Tm → List Bool → Res) → Res) :=
  match o.op.operands.all okOpd with
  | false => .mk fun _ _ _ _ => .fail
  | true => match o.dst with
    | some d => match o.op with
      | .move x => match cOpd x with
        | .mk f => .mk fun t _ nd K => K (st t d (f t)) nd
      | .assign x => match cOpd x with
        | .mk f => .mk fun t _ nd K => K (st t d (f t)) nd
      | .binOp op ty x y _ => match nilC x || nilC y with
        | true => .mk fun t H nd K => bStepQ P T o t H nd K
        | false => match cBin P op ty, cOpd x, cOpd y with
          | .mk b, .mk f, .mk g => .mk fun t H nd K => pass d (b (f t) (g t)) t H nd (fun t _ nd => K t nd) .fail
      | .load ty a => match cLoad P ty, cOpd a with
        | .mk b, .mk f => .mk fun t H nd K => pass d (b (f t) H) t H nd (fun t _ nd => K t nd) .fail
      | .fieldAddr ty a i => match cFieldAddr P ty i, cOpd a with
        | .mk b, .mk f => .mk fun t H nd K => pass d (b (f t)) t H nd (fun t _ nd => K t nd) .fail
      | .indexAddr ty a i => match cIndexAddr P ty, cOpd a, cOpd i with
        | .mk b, .mk f, .mk g => .mk fun t H nd K => pass d (b (f t) (g t)) t H nd (fun t _ nd => K t nd) .fail
      | _ => .mk fun t H nd K => bStepQ P T o t H nd K
    | none => .mk fun t H nd K => bStepQ P T o t H nd K
end
section
variable {P : Program} {T : Table}
theorem pass_eq {op : Op} {d : Nat} {r : OA} {t : Tm} {H : List AB} {nd : List Bool} {K : KB} (h : aop P op (evB t) H = r) (he : eop P op (evB t) H = none) : pass d r t H nd K .fail = bStepA P op (some d) t H nd K := by
  unfold pass bStepA
  rw [h]
  cases r with
  | none => rw [he]
  | some z =>
    obtain ⟨v, n⟩ := z
    cases n <;> rfl
theorem passQ_eq {op : Op} {d : Nat} {r : OA} {t : Tm} {H : List AB} {nd : List Bool} {K : Tm → List Bool → Res} (h : aop P op (evB t) H = r) : pass d r t H nd (fun t _ nd => K t nd) .fail = bStepAQ P op (some d) t H nd K := by
  unfold pass bStepAQ
  rw [h]
  cases r with
  | none => rfl
  | some z =>
    obtain ⟨v, n⟩ := z
    cases n <;> rfl
theorem bStepOp_pure {o : Oper} {op : Op} {t : Tm} {H : List AB} {nd : List Bool} {K : KB} (hok : o.op.operands.all okOpd = true) (ho : o.op = op) (hn : ∀ c, op ≠ .call c) : bStepOp P T o t H nd K = bStepA P op o.dst t H nd K := by
  unfold bStepOp
  rw [if_pos hok, ho]
  cases op <;> first | rfl | exact absurd rfl (hn _)
theorem bStepQ_pure {o : Oper} {op : Op} {t : Tm} {H : List AB} {nd : List Bool} {K : Tm → List Bool → Res} (hok : o.op.operands.all okOpd = true) (ho : o.op = op) (hn : ∀ c, op ≠ .call c) : bStepQ P T o t H nd K = bStepAQ P op o.dst t H nd K := by
  unfold bStepQ
  rw [if_pos hok, ho]
  cases op <;> first | rfl | exact absurd rfl (hn _)
theorem cOp_eq (o : Oper) (t : Tm) (H : List AB) (nd : List Bool) (K : KB) : (cOp P T o).app t H nd K = bStepOp P T o t H nd K := by
  have hop := fun x => cOpd_eq x t
  unfold cOp
  cases hok : o.op.operands.all okOpd with
  | false =>
    unfold bStepOp
    rw [if_neg (by rw [hok]; decide)]; rfl
  | true =>
    cases hd : o.dst with
    | none =>
      dsimp only
      cases ho : o.op
      case store ty a x =>
        dsimp only
        have h1 := hop a
        have h2 := hop x
        cases hb : cStore P ty with
        | mk b => cases hf : cOpd a with
          | mk f => cases hg : cOpd x with
            | mk g =>
              rw [hf] at h1; rw [hg] at h2
              dsimp only [CF.app] at h1 h2 ⊢
              cases hr : b (f t) (g t) H with
              | none => rfl
              | some H' =>
                have h3 : (cStore P ty).app (f t) (g t) H = some H' := by rw [hb]; exact hr
                have h4 := cStore_eq h3
                rw [h1, h2] at h4
                rw [bStepOp_pure hok ho (by simp), hd]
                simp [bStepA, aop, eop, h4, putB]
      all_goals rfl
    | some d =>
      dsimp only
      cases ho : o.op
      case move x =>
        have h1 := hop x
        dsimp only
        cases hf : cOpd x with
        | mk f =>
          rw [hf] at h1
          dsimp only [CF.app] at h1 ⊢
          rw [h1]
          rw [bStepOp_pure hok ho (by simp), hd]
          simp [bStepA, aop, putB]
      case assign x =>
        have h1 := hop x
        dsimp only
        cases hf : cOpd x with
        | mk f =>
          rw [hf] at h1
          dsimp only [CF.app] at h1 ⊢
          rw [h1]
          rw [bStepOp_pure hok ho (by simp), hd]
          simp [bStepA, aop, putB]
      case binOp op ty x y yt =>
        have h1 := hop x
        have h2 := hop y
        dsimp only
        cases hn : nilC x || nilC y with
        | true => rfl
        | false =>
        dsimp only
        cases hb : cBin P op ty with
        | mk b => cases hf : cOpd x with
          | mk f => cases hg : cOpd y with
            | mk g =>
              have h3 := cBin_eq P op ty (evB t x) (evB t y)
              rw [hf] at h1; rw [hg] at h2; rw [hb] at h3
              dsimp only [CF.app] at h1 h2 h3 ⊢
              rw [h1, h2, h3]
              have := pass_eq (P := P) (op := .binOp op ty x y yt) (d := d) (r := aBin P op ty (evB t x) (evB t y)) (t := t) (H := H) (nd := nd) (K := K) (by simp [aop, binA, hn]) rfl
              rw [this, bStepOp_pure hok ho (by simp), hd]
      case load ty a =>
        have h1 := hop a
        dsimp only
        cases hb : cLoad P ty with
        | mk b => cases hf : cOpd a with
          | mk f =>
            have h3 := cLoad_eq P ty (evB t a) H
            rw [hf] at h1; rw [hb] at h3
            dsimp only [CF.app] at h1 h3 ⊢
            rw [h1, h3]
            have := pass_eq (P := P) (op := .load ty a) (d := d) (r := aLoad P ty (evB t a) H) (t := t) (H := H) (nd := nd) (K := K) rfl rfl
            rw [this, bStepOp_pure hok ho (by simp), hd]
      case fieldAddr ty a i =>
        have h1 := hop a
        dsimp only
        cases hb : cFieldAddr P ty i with
        | mk b => cases hf : cOpd a with
          | mk f =>
            have h3 := cFieldAddr_eq P ty i (evB t a)
            rw [hf] at h1; rw [hb] at h3
            dsimp only [CF.app] at h1 h3 ⊢
            rw [h1, h3]
            have := pass_eq (P := P) (op := .fieldAddr ty a i) (d := d) (r := just (aFieldAddr P ty (evB t a) i)) (t := t) (H := H) (nd := nd) (K := K) rfl rfl
            rw [this, bStepOp_pure hok ho (by simp), hd]
      case indexAddr ty a i =>
        have h1 := hop a
        have h2 := hop i
        dsimp only
        cases hb : cIndexAddr P ty with
        | mk b => cases hf : cOpd a with
          | mk f => cases hg : cOpd i with
            | mk g =>
              have h3 := cIndexAddr_eq P ty (evB t a) (evB t i)
              rw [hf] at h1; rw [hg] at h2; rw [hb] at h3
              dsimp only [CF.app] at h1 h2 h3 ⊢
              rw [h1, h2, h3]
              have := pass_eq (P := P) (op := .indexAddr ty a i) (d := d) (r := aIndexAddr P ty (evB t a) (evB t i)) (t := t) (H := H) (nd := nd) (K := K) rfl rfl
              rw [this, bStepOp_pure hok ho (by simp), hd]
      case unOp op ty x =>
        have h1 := hop x
        dsimp only
        cases hf : cOpd x with
        | mk f =>
          rw [hf] at h1
          dsimp only [CF.app] at h1 ⊢
          rw [h1]
          have := pass_eq (P := P) (op := .unOp op ty x) (d := d) (r := just (aUn op (evB t x))) (t := t) (H := H) (nd := nd) (K := K) rfl rfl
          rw [this, bStepOp_pure hok ho (by simp), hd]
      case call c =>
        dsimp only
        cases hc : cCall P c with
        | none => rfl
        | some z =>
          obtain ⟨g, cf⟩ := z
          cases cf with
          | mk f =>
            unfold cCall at hc
            split at hc <;> (try (cases hc; done))
            rename_i f0 hcal
            split at hc <;> (try (cases hc; done))
            rename_i g0
            split at hc <;> (try (cases hc; done))
            rename_i fn hfn
            split at hc <;> (try (cases hc; done))
            rename_i body hbody
            split at hc <;> (try (cases hc; done))
            rename_i hname
            simp only [Option.some.injEq, Prod.mk.injEq] at hc
            obtain ⟨rfl, hargs⟩ := hc
            have h4 := cArgs_eq c.args.toList t
            rw [hargs] at h4
            dsimp only [CF.app] at h4 ⊢
            rw [h4]
            unfold bStepOp
            rw [if_pos hok, ho]
            simp [aCall, hcal, evB, hfn, hbody, hname, putB, hd]
      all_goals rfl
theorem cOpQ_eq (o : Oper) (t : Tm) (H : List AB) (nd : List Bool) (K : Tm → List Bool → Res) : (cOpQ P T o).app t H nd K = bStepQ P T o t H nd K := by
  have hop := fun x => cOpd_eq x t
  unfold cOpQ
  cases hok : o.op.operands.all okOpd with
  | false =>
    unfold bStepQ
    rw [if_neg (by rw [hok]; decide)]; rfl
  | true =>
    cases hd : o.dst with
    | none => rfl
    | some d =>
      dsimp only
      cases ho : o.op
      case move x =>
        have h1 := hop x
        dsimp only
        cases hf : cOpd x with
        | mk f =>
          rw [hf] at h1
          dsimp only [CF.app] at h1 ⊢
          rw [h1]
          rw [bStepQ_pure hok ho (by simp), hd]
          simp [bStepAQ, aop, putB]
      case assign x =>
        have h1 := hop x
        dsimp only
        cases hf : cOpd x with
        | mk f =>
          rw [hf] at h1
          dsimp only [CF.app] at h1 ⊢
          rw [h1]
          rw [bStepQ_pure hok ho (by simp), hd]
          simp [bStepAQ, aop, putB]
      case binOp op ty x y yt =>
        have h1 := hop x
        have h2 := hop y
        dsimp only
        cases hn : nilC x || nilC y with
        | true => rfl
        | false =>
        dsimp only
        cases hb : cBin P op ty with
        | mk b => cases hf : cOpd x with
          | mk f => cases hg : cOpd y with
            | mk g =>
              have h3 := cBin_eq P op ty (evB t x) (evB t y)
              rw [hf] at h1; rw [hg] at h2; rw [hb] at h3
              dsimp only [CF.app] at h1 h2 h3 ⊢
              rw [h1, h2, h3]
              have := passQ_eq (P := P) (op := .binOp op ty x y yt) (d := d) (r := aBin P op ty (evB t x) (evB t y)) (t := t) (H := H) (nd := nd) (K := K) (by simp [aop, binA, hn])
              rw [this, bStepQ_pure hok ho (by simp), hd]
      case load ty a =>
        have h1 := hop a
        dsimp only
        cases hb : cLoad P ty with
        | mk b => cases hf : cOpd a with
          | mk f =>
            have h3 := cLoad_eq P ty (evB t a) H
            rw [hf] at h1; rw [hb] at h3
            dsimp only [CF.app] at h1 h3 ⊢
            rw [h1, h3]
            have := passQ_eq (P := P) (op := .load ty a) (d := d) (r := aLoad P ty (evB t a) H) (t := t) (H := H) (nd := nd) (K := K) rfl
            rw [this, bStepQ_pure hok ho (by simp), hd]
      case fieldAddr ty a i =>
        have h1 := hop a
        dsimp only
        cases hb : cFieldAddr P ty i with
        | mk b => cases hf : cOpd a with
          | mk f =>
            have h3 := cFieldAddr_eq P ty i (evB t a)
            rw [hf] at h1; rw [hb] at h3
            dsimp only [CF.app] at h1 h3 ⊢
            rw [h1, h3]
            have := passQ_eq (P := P) (op := .fieldAddr ty a i) (d := d) (r := just (aFieldAddr P ty (evB t a) i)) (t := t) (H := H) (nd := nd) (K := K) rfl
            rw [this, bStepQ_pure hok ho (by simp), hd]
      case indexAddr ty a i =>
        have h1 := hop a
        have h2 := hop i
        dsimp only
        cases hb : cIndexAddr P ty with
        | mk b => cases hf : cOpd a with
          | mk f => cases hg : cOpd i with
            | mk g =>
              have h3 := cIndexAddr_eq P ty (evB t a) (evB t i)
              rw [hf] at h1; rw [hg] at h2; rw [hb] at h3
              dsimp only [CF.app] at h1 h2 h3 ⊢
              rw [h1, h2, h3]
              have := passQ_eq (P := P) (op := .indexAddr ty a i) (d := d) (r := aIndexAddr P ty (evB t a) (evB t i)) (t := t) (H := H) (nd := nd) (K := K) rfl
              rw [this, bStepQ_pure hok ho (by simp), hd]
      all_goals rfl
end

/-! ### Regions and code -/
section
variable (P : Program) (T : Table)
noncomputable def cGuard (ops : Array Oper) (o : Oper) : CF (Tm → (Tm → Res) → (Tm → Res) → Res) :=
  match o.guard with
  | none => .mk fun t yes _ => yes t
  | some (j, want) => match gDst ops j with
    | none => .mk fun _ _ _ => .fail
    | some d => match want with
      | true => .mk fun t yes no => match gt t d with
        | .b l x => match l with
          | true => match x with
            | true => yes t
            | false => no t
          | false => .ite x (yes (st t d (.b true true))) (no (st t d (.b true false)))
        | .tup [] => no t
        | _ => .fail
      | false => .mk fun t yes no => match gt t d with
        | .b l x => match l with
          | true => match x with
            | true => no t
            | false => yes t
          | false => .ite x (no (st t d (.b true true))) (yes (st t d (.b true false)))
        | .tup [] => no t
        | _ => .fail
noncomputable def cOps (ops : Array Oper) : List Oper → CF KO
  | [] => .mk fun t H nd K => K t H nd
  | o :: rest => match o.guard with
    | none => match cOp P T o, cOps ops rest with
      | .mk f, .mk g => .mk fun t H nd K => f t H nd fun t H nd => g t H nd K
    | some _ => match cGuard ops o, cOp P T o, cOps ops rest with
      | .mk q, .mk f, .mk g => .mk fun t H nd K => q t (fun t => f t H nd fun t H nd => g t H nd K) (fun t => g (putB t o.dst (.tup [])) H nd K)
abbrev KQ := Tm → List AB → List Bool → (Tm → List Bool → Res) → Res
noncomputable def cOpsQ (ops : Array Oper) : List Oper → CF KQ
  | [] => .mk fun t _ nd K => K t nd
  | o :: rest => match o.guard with
    | none => match cOpQ P T o, cOpsQ ops rest with
      | .mk f, .mk g => .mk fun t H nd K => f t H nd fun t nd => g t H nd K
    | some _ => match cGuard ops o, cOpQ P T o, cOpsQ ops rest with
      | .mk q, .mk f, .mk g => .mk fun t H nd K => q t (fun t => f t H nd fun t nd => g t H nd K) (fun t => g (putB t o.dst (.tup [])) H nd K)
noncomputable def cRegion (ops : Array Oper) (draw : Bool) : CF KO :=
  match draw with
  | false => cOps P T ops ops.toList
  | true => match P.follows .mixedOrders && drawOK ops (qN ops) with
    | true => match cOpsQ P T ops (ops.toList.take (qN ops)), cOps P T ops (ops.toList.drop (qN ops)) with
      | .mk f, .mk g => .mk fun t H nd K => f t H nd fun t nd => g t H nd K
    | false => .mk fun _ _ _ _ => .fail
end
section
variable {P : Program} {T : Table}
theorem cGuard_eq (ops : Array Oper) (o : Oper) (t : Tm) (yes no : Tm → Res) : (cGuard ops o).app t yes no = bGuarded ops o t yes no := by
  unfold cGuard bGuarded
  cases o.guard with
  | none => rfl
  | some g =>
    obtain ⟨j, want⟩ := g
    dsimp only
    cases gDst ops j with
    | none => rfl
    | some d =>
      cases want <;> dsimp only [CF.app] <;> cases gt t d <;> first | rfl | (rename_i l x; cases l <;> cases x <;> rfl) | (rename_i l; cases l <;> rfl)
theorem cOps_eq (ops : Array Oper) : ∀ (l : List Oper) (t : Tm) (H : List AB) (nd : List Bool) (K : KB), (cOps P T ops l).app t H nd K = bRunOps P T ops l t H nd K
  | [], _, _, _, _ => rfl
  | o :: rest, t, H, nd, K => by
    have h1 := cGuard_eq ops o
    have h2 := cOp_eq (P := P) (T := T) o
    have h3 := cOps_eq ops rest
    unfold cOps bRunOps
    cases hq : cGuard ops o with
    | mk q => cases hf : cOp P T o with
      | mk f => cases hg : cOps P T ops rest with
        | mk g =>
          rw [hq] at h1; rw [hf] at h2; rw [hg] at h3
          dsimp only [CF.app] at h1 h2 h3
          have key : (q t (fun t => f t H nd fun t H nd => g t H nd K) fun t => g (putB t o.dst (.tup [])) H nd K) = bGuarded ops o t (fun t => bStepOp P T o t H nd fun t H nd => bRunOps P T ops rest t H nd K) (fun t => bRunOps P T ops rest (putB t o.dst (.tup [])) H nd K) := by
            rw [h1]
            congr 1
            · funext t
              rw [h2]
              congr 1
              funext t H nd
              exact h3 t H nd K
            · funext t
              exact h3 _ H nd K
          rw [← key]
          cases hgu : o.guard with
          | some x => rfl
          | none =>
            dsimp only [CF.app]
            rw [h1]
            unfold bGuarded
            rw [hgu]
theorem cOpsQ_eq (ops : Array Oper) : ∀ (l : List Oper) (t : Tm) (H : List AB) (nd : List Bool) (K : Tm → List Bool → Res), (cOpsQ P T ops l).app t H nd K = bRunQ P T ops l t H nd K
  | [], _, _, _, _ => rfl
  | o :: rest, t, H, nd, K => by
    have h1 := cGuard_eq ops o
    have h2 := cOpQ_eq (P := P) (T := T) o
    have h3 := cOpsQ_eq ops rest
    unfold cOpsQ bRunQ
    cases hq : cGuard ops o with
    | mk q => cases hf : cOpQ P T o with
      | mk f => cases hg : cOpsQ P T ops rest with
        | mk g =>
          rw [hq] at h1; rw [hf] at h2; rw [hg] at h3
          dsimp only [CF.app] at h1 h2 h3
          have key : (q t (fun t => f t H nd fun t nd => g t H nd K) fun t => g (putB t o.dst (.tup [])) H nd K) = bGuarded ops o t (fun t => bStepQ P T o t H nd fun t nd => bRunQ P T ops rest t H nd K) (fun t => bRunQ P T ops rest (putB t o.dst (.tup [])) H nd K) := by
            rw [h1]
            congr 1
            · funext t
              rw [h2]
              congr 1
              funext t nd
              exact h3 t H nd K
            · funext t
              exact h3 _ H nd K
          rw [← key]
          cases hgu : o.guard with
          | some x => rfl
          | none =>
            dsimp only [CF.app]
            rw [h1]
            unfold bGuarded
            rw [hgu]
theorem cRegion_eq (ops : Array Oper) (draw : Bool) (t : Tm) (H : List AB) (nd : List Bool) (K : KB) : (cRegion P T ops draw).app t H nd K = bRunRegion P T ops draw t H nd K := by
  unfold cRegion bRunRegion
  cases draw with
  | false => exact cOps_eq ops _ t H nd K
  | true =>
    dsimp only
    cases (P.follows .mixedOrders && drawOK ops (qN ops)) with
    | false => rfl
    | true =>
      dsimp only
      have h1 := cOpsQ_eq (P := P) (T := T) ops (ops.toList.take (qN ops))
      have h2 := cOps_eq (P := P) (T := T) ops (ops.toList.drop (qN ops))
      cases hf : cOpsQ P T ops (ops.toList.take (qN ops)) with
      | mk f => cases hg : cOps P T ops (ops.toList.drop (qN ops)) with
        | mk g =>
          rw [hf] at h1; rw [hg] at h2
          dsimp only [CF.app] at h1 h2 ⊢
          rw [h1]
          congr 1
          funext t nd
          exact h2 t H nd K
end

/-- The next thing that does something. -/
inductive CN where
  | done
  | stop (k : List Item)
  | region (id : Nat) (ops : Array Oper) (draw : Bool) (k : List Item)
  | cond (c : Operand) (a b : Code) (k : List Item)
  | fail
def cNext (stop : List Item → Bool) : Nat → List Item → CN
  | 0, _ => .fail
  | n + 1, todo =>
    let next : List Item → CN := fun k => match stop k with
      | true => .stop k
      | false => cNext stop n k
    match todo with
    | [] => .done
    | .inBlock _ :: k => next k
    | .inLoop c :: k => next (.code c :: .inLoop c :: k)
    | .code c :: k =>
      match c with
      | .skip => next k
      | .label _ => next k
      | .ret => .done
      | .seq a b => next (.code a :: .code b :: k)
      | .cond c a b => .cond c a b k
      | .block id c => next (.code c :: .inBlock id :: k)
      | .loop c => next (.code c :: .inLoop c :: k)
      | .exit id => match exitTo id k with
        | some k' => next k'
        | none => .fail
      | .region id ops draw => .region id ops draw k
      | _ => .fail
    | _ => .fail
section
variable (P : Program) (T : Table) (stop : List Item → Bool)
/-- Like 'runS'. -/
noncomputable def cRun : Nat → List Item → Tm → List AB → List Bool → KB → (List Item → KB) → Res
  | 0, _, _, _, _, _, _ => .fail
  | n + 1, todo, t, H, nd, KE, KS =>
    match cNext stop 100 todo with
    | .done => KE t H nd
    | .stop k => KS k t H nd
    | .region _ ops draw k => match cRegion P T ops draw, stop k with
      | .mk f, true => f t H nd (KS k)
      | .mk f, false => f t H nd fun t H nd => cRun n k t H nd KE KS
    | .cond c a b k => match okOpd c, cOpd c, stop (.code a :: k), stop (.code b :: k) with
      | true, .mk f, sa, sb => match f t with
        | .b l x => match l with
          | true => match x with
            | true => match sa with
              | true => KS (.code a :: k) t H nd
              | false => cRun n (.code a :: k) t H nd KE KS
            | false => match sb with
              | true => KS (.code b :: k) t H nd
              | false => cRun n (.code b :: k) t H nd KE KS
          | false => .ite x
            (match sa with
              | true => KS (.code a :: k) t H nd
              | false => cRun n (.code a :: k) t H nd KE KS)
            (match sb with
              | true => KS (.code b :: k) t H nd
              | false => cRun n (.code b :: k) t H nd KE KS)
        | _ => .fail
      | false, _, _, _ => .fail
    | .fail => .fail
end

/-! ### What it says -/
theorem Tm.ext' : ∀ (a b : Tm), (∀ n, hasT a n = hasT b n) → (∀ n, gt a n = gt b n) → a = b
  | .nil, .nil, _, _ => rfl
  | .nil, .node v l r, h, _ => by have := h 0; cases this
  | .node v l r, .nil, h, _ => by have := h 0; cases this
  | .node v l r, .node v' l' r', h, g => by
    have e : ∀ n, Nat.mod (2 * n) 2 = 0 := fun n => by show 2 * n % 2 = 0; omega
    have o : ∀ n, Nat.mod (2 * n + 1) 2 = 1 := fun n => by show (2 * n + 1) % 2 = 1; omega
    have e2 : ∀ n, 2 * n / 2 = n := fun n => by omega
    have o2 : ∀ n, (2 * n + 1) / 2 = n := fun n => by omega
    have hv : v = v' := g 0
    have hl := Tm.ext' l l' (fun n => by have := h (2 * n + 1); rwa [has_even (e n), has_even (e n), e2] at this) (fun n => by have := g (2 * n + 1); rwa [gt_even (e n), gt_even (e n), e2] at this)
    have hr := Tm.ext' r r' (fun n => by have := h (2 * n + 1 + 1); rwa [has_odd (o n), has_odd (o n), o2] at this) (fun n => by have := g (2 * n + 1 + 1); rwa [gt_odd (o n), gt_odd (o n), o2] at this)
    rw [hv, hl, hr]
theorem R.uniq {τ : Tm} {t : List AV} (h : R τ t) : τ = ofL t := Tm.ext' _ _ (fun n => by rw [h.has, (ofL_R t).has]) (fun n => by rw [h.get, (ofL_R t).get])
theorem KR.all (K : KB) : KR K fun t H nd => K (ofL t) H nd := fun τ t H nd h => by rw [h.uniq]

section
variable {P : Program} {T : Table}
theorem region_reach {id : Nat} {ops : Array Oper} {draw : Bool} {k : List Item} {t t1 : List AV} {H H1 : List AB} (h : RegionOK P id ops draw t H t1 H1) : Reach P (.code (.region id ops draw) :: k) t H k t1 H1 := fun σ w a b cs s r => by
  obtain ⟨e, a1, w1, ⟨he, σ1, r1, d1, s1, f1⟩, harr⟩ := h σ w a (fun e a1 w1 => e = .normal ∧ ∃ σ1, RelL σ1 t1 a1.tmps.toList ∧ a1.defers = a.defers ∧ Sim σ1 H1 w1 ∧ Fr σ H w σ1 H1 w1) s r
    (fun a1 w1 σ1 r1 d1 s1 f1 => ⟨rfl, σ1, r1, d1, s1, f1⟩) b k cs
  subst he
  exact ⟨a1, w1, σ1, harr, r1, d1, s1, f1⟩
theorem cond_reach {c : Operand} {x y : Code} {k : List Item} {t : List AV} {H : List AB} {l v : Bool} (hok : okOpd c = true) (hv : evA t c = .b l v) : Reach P (.code (.cond c x y) :: k) t H (.code (if v then x else y) :: k) t H := fun σ w a b cs s r => by
  have hc : a.eval c = .bool v := by
    have := evA_rel r hok
    rw [hv] at this
    cases hx : a.eval c <;> rw [hx] at this <;> cases this
    rfl
  exact ⟨a, w, σ, .head (step_cond hc) (.refl _ _), r, rfl, s, Fr.refl _ _ _⟩
theorem cRegion_sound (hT : SoundT P T) (id : Nat) (ops : Array Oper) (draw : Bool) (k : List Item) {τ : Tm} {t : List AV} (h : R τ t) (H : List AB) (nd : List Bool) (K : KB) : ((cRegion P T ops draw).app τ H nd K).sel = .fail ∨
    ∃ t' H' nd', ((cRegion P T ops draw).app τ H nd K).sel = (K (ofL t') H' nd').sel ∧ (allT nd' = true → allT nd = true ∧ Reach P (.code (.region id ops draw) :: k) t H k t' H') := by
  rw [cRegion_eq, bRunRegion_eq h (KR.all K)]
  rcases runRegion_sound (ops := ops) (H := H) hT id draw t nd (fun t H nd => K (ofL t) H nd) with h1 | ⟨t', H', nd', h1, h2⟩
  · exact .inl h1
  · exact .inr ⟨t', H', nd', h1, fun hn => ⟨(h2 hn).1, region_reach (h2 hn).2⟩⟩

def NextOK (P : Program) (todo : List Item) (t : List AV) (H : List AB) : CN → Prop
  | .done => Ends P todo t H t H
  | .stop k => Reach P todo t H k t H
  | .region id ops draw k => Reach P todo t H (.code (.region id ops draw) :: k) t H
  | .cond c a b k => Reach P todo t H (.code (.cond c a b) :: k) t H
  | .fail => True
theorem NextOK.head {todo todo1 : List Item} {t : List AV} {H : List AB} {c : CN} (h : NextOK P todo1 t H c)
    (hs : ∀ (w : World) (a : Act) (b : Frame) (cs : List Frame), step P (lone (b.at a todo) cs w) = .next (lone (b.at a todo1) cs w)) : NextOK P todo t H c := by
  cases c
  case done => exact Ends.head h hs
  case stop => exact Reach.head h hs
  case region => exact Reach.head h hs
  case cond => exact Reach.head h hs
  case fail => trivial
theorem cNext_ok (stop : List Item → Bool) (t : List AV) (H : List AB) : ∀ (n : Nat) (todo : List Item), NextOK P todo t H (cNext stop n todo)
  | 0, _ => trivial
  | n + 1, todo => by
    have nxt : ∀ k, NextOK P k t H (match stop k with
        | true => .stop k
        | false => cNext stop n k) := fun k => by
      cases stop k with
      | true => exact Reach.refl k t H
      | false => exact cNext_ok stop t H n k
    unfold cNext
    cases todo with
    | nil => exact fun σ w a b cs s r => ⟨a, w, σ, [], .one step_end, r, rfl, s, Fr.refl _ _ _⟩
    | cons i k =>
      cases i
      case inBlock => exact (nxt _).head fun _ _ _ _ => step_inBlock
      case inLoop => exact (nxt _).head fun _ _ _ _ => step_inLoop
      case code c =>
        cases c
        case skip => exact (nxt _).head fun _ _ _ _ => step_skip
        case label => exact (nxt _).head fun _ _ _ _ => step_label
        case ret => exact fun σ w a b cs s r => ⟨a, w, σ, _, .one step_ret, r, rfl, s, Fr.refl _ _ _⟩
        case seq => exact (nxt _).head fun _ _ _ _ => step_seq
        case block => exact (nxt _).head fun _ _ _ _ => step_block
        case loop => exact (nxt _).head fun _ _ _ _ => step_loop
        case exit id =>
          dsimp only
          cases hk : exitTo id k with
          | some k' => exact (nxt _).head fun _ _ _ _ => step_exit hk
          | none => trivial
        case region id ops draw => exact Reach.refl _ t H
        case cond c a b => exact Reach.refl _ t H
        all_goals trivial
      all_goals trivial

theorem cRun_sound {stop : List Item → Bool} (hT : SoundT P T) (KE : KB) (KS : List Item → KB) : ∀ (n : Nat) (todo : List Item) (τ : Tm) (t : List AV) (H : List AB) (nd : List Bool), R τ t → (cRun P T stop n todo τ H nd KE KS).sel = .fail ∨
    (∃ t' H' nd', (cRun P T stop n todo τ H nd KE KS).sel = (KE (ofL t') H' nd').sel ∧ (allT nd' = true → allT nd = true ∧ Ends P todo t H t' H')) ∨
    (∃ todo' t' H' nd', (cRun P T stop n todo τ H nd KE KS).sel = (KS todo' (ofL t') H' nd').sel ∧ (allT nd' = true → allT nd = true ∧ Reach P todo t H todo' t' H'))
  | 0, _, _, _, _, _, _ => .inl rfl
  | n + 1, todo, τ, t, H, nd, h => by
    have hN := cNext_ok (P := P) stop t H 100 todo
    have goon : ∀ (k : List Item) (τ1 : Tm) (t1 : List AV) (H1 : List AB) (nd1 : List Bool), R τ1 t1 →
        ((match stop k with
          | true => KS k τ1 H1 nd1
          | false => cRun P T stop n k τ1 H1 nd1 KE KS).sel = .fail ∨
        (∃ t' H' nd', (match stop k with
          | true => KS k τ1 H1 nd1
          | false => cRun P T stop n k τ1 H1 nd1 KE KS).sel = (KE (ofL t') H' nd').sel ∧ (allT nd' = true → allT nd1 = true ∧ Ends P k t1 H1 t' H')) ∨
        (∃ todo' t' H' nd', (match stop k with
          | true => KS k τ1 H1 nd1
          | false => cRun P T stop n k τ1 H1 nd1 KE KS).sel = (KS todo' (ofL t') H' nd').sel ∧ (allT nd' = true → allT nd1 = true ∧ Reach P k t1 H1 todo' t' H'))) := fun k τ1 t1 H1 nd1 h1 => by
      cases stop k with
      | true => exact .inr (.inr ⟨k, t1, H1, nd1, by rw [h1.uniq], fun hn => ⟨hn, .refl _ _ _⟩⟩)
      | false => exact cRun_sound hT KE KS n k τ1 t1 H1 nd1 h1
    unfold cRun
    cases hc : cNext stop 100 todo with
    | done =>
      rw [hc] at hN
      exact .inr (.inl ⟨t, H, nd, by rw [h.uniq], fun hn => ⟨hn, hN⟩⟩)
    | stop k =>
      rw [hc] at hN
      exact .inr (.inr ⟨k, t, H, nd, by rw [h.uniq], fun hn => ⟨hn, hN⟩⟩)
    | fail => exact .inl rfl
    | region id ops draw k =>
      rw [hc] at hN
      have hN : Reach P todo t H (.code (.region id ops draw) :: k) t H := hN
      dsimp only
      have hR := fun K => cRegion_sound hT id ops draw k h H nd K
      cases hf : cRegion P T ops draw with
      | mk f =>
        rw [hf] at hR
        dsimp only [CF.app] at hR
        cases hs : stop k with
        | true =>
          dsimp only
          rcases hR (KS k) with h1 | ⟨t1, H1, nd1, h1, h2⟩
          · exact .inl h1
          · exact .inr (.inr ⟨k, t1, H1, nd1, h1, fun hn => ⟨(h2 hn).1, hN.trans (h2 hn).2⟩⟩)
        | false =>
          dsimp only
          rcases hR (fun t H nd => cRun P T stop n k t H nd KE KS) with h1 | ⟨t1, H1, nd1, h1, h2⟩
          · exact .inl h1
          rw [h1]
          have := goon k (ofL t1) t1 H1 nd1 (ofL_R t1)
          rw [hs] at this
          rcases this with h3 | ⟨t', H', nd', h3, h4⟩ | ⟨todo', t', H', nd', h3, h4⟩
          · exact .inl h3
          · refine .inr (.inl ⟨t', H', nd', h3, fun hn => ?_⟩)
            obtain ⟨h5, h6⟩ := h4 hn
            exact ⟨(h2 h5).1, (hN.trans (h2 h5).2).ends h6⟩
          · refine .inr (.inr ⟨todo', t', H', nd', h3, fun hn => ?_⟩)
            obtain ⟨h5, h6⟩ := h4 hn
            exact ⟨(h2 h5).1, (hN.trans (h2 h5).2).trans h6⟩
    | cond c a b k =>
      rw [hc] at hN
      have hN : Reach P todo t H (.code (.cond c a b) :: k) t H := hN
      dsimp only
      have hO := cOpd_eq c τ
      rw [h.ev] at hO
      cases hok : okOpd c with
      | false => exact .inl rfl
      | true =>
        cases hf : cOpd c with
        | mk f =>
          rw [hf] at hO
          dsimp only [CF.app] at hO ⊢
          rw [hO]
          cases hv : evA t c
          case b l v =>
            have two : ∀ z : Code, z = (if v then a else b) →
                ((match stop (.code z :: k) with
                  | true => KS (.code z :: k) τ H nd
                  | false => cRun P T stop n (.code z :: k) τ H nd KE KS).sel = .fail ∨
                (∃ t' H' nd', (match stop (.code z :: k) with
                  | true => KS (.code z :: k) τ H nd
                  | false => cRun P T stop n (.code z :: k) τ H nd KE KS).sel = (KE (ofL t') H' nd').sel ∧ (allT nd' = true → allT nd = true ∧ Ends P todo t H t' H')) ∨
                (∃ todo' t' H' nd', (match stop (.code z :: k) with
                  | true => KS (.code z :: k) τ H nd
                  | false => cRun P T stop n (.code z :: k) τ H nd KE KS).sel = (KS todo' (ofL t') H' nd').sel ∧ (allT nd' = true → allT nd = true ∧ Reach P todo t H todo' t' H'))) := fun z hz => by
              have hcr := hN.trans (cond_reach (P := P) (x := a) (y := b) (k := k) (H := H) hok hv)
              rw [← hz] at hcr
              rcases goon (.code z :: k) τ t H nd h with h3 | ⟨t', H', nd', h3, h4⟩ | ⟨todo', t', H', nd', h3, h4⟩
              · exact .inl h3
              · exact .inr (.inl ⟨t', H', nd', h3, fun hn => ⟨(h4 hn).1, hcr.ends (h4 hn).2⟩⟩)
              · exact .inr (.inr ⟨todo', t', H', nd', h3, fun hn => ⟨(h4 hn).1, hcr.trans (h4 hn).2⟩⟩)
            cases l with
            | true => cases v with
              | true => exact two _ rfl
              | false => exact two _ rfl
            | false => cases v with
              | true => exact two _ rfl
              | false => exact two _ rfl
          all_goals exact .inl rfl
end

/-! ### Calls -/
abbrev CTab := FuncId → CF (List AV → List AB → List Bool → KF → Res)
noncomputable def tabOf (C : CTab) : Table := fun f args H nd K => (C f).app args H nd K
section
variable (P : Program)
noncomputable def cFun (T : Table) (n : Nat) (f : FuncId) : CF (List AV → List AB → List Bool → KF → Res) :=
  match P.funcs[f]? with
  | some fn => match fn.body with
    | some c => .mk fun args H nd K => match Nat.ble args.length fn.ntmps with
      | true => cRun P T (fun _ => false) n [.code c] (stAll (mkT fn.ntmps fn.ntmps) 0 args) H nd (retB P fn K) (fun _ _ _ _ => .fail)
      | false => .fail
    | none => .mk fun _ _ _ _ => .fail
  | none => .mk fun _ _ _ _ => .fail
def lookC : List (FuncId × Table) → FuncId → Option Table
  | [], _ => none
  | (g, T) :: l, f => match Nat.beq f g with
    | true => some T
    | false => lookC l f
/-- Like 'deep'. -/
noncomputable def cdeep (l : List (FuncId × Table)) (inl : List FuncId) (n : Nat) : Nat → CTab
  | 0 => fun _ => .mk fun _ _ _ _ => .fail
  | d + 1 => fun f => match lookC l f with
    | some T => .mk (T f)
    | none => match cFun P (tabOf (cdeep l inl n d)) n f with
      | .mk F => match inl.any (Nat.beq f) with
        | true => .mk F
        | false => .mk fun args H nd K => match joinR H.length (F args (roH H) [] fun v H' nd' => .ret v H' nd') with
          | some (v, nd') => K v H (nd' ++ nd)
          | none => .fail
end
section
variable {P : Program}
theorem cFun_sound {T : Table} (hT : SoundT P T) (n : Nat) : SoundT P (tabOf (cFun P T n)) := by
  intro f args H nd K
  unfold tabOf cFun
  cases hf : P.funcs[f]? with
  | none => exact .inl rfl
  | some fn =>
    dsimp only
    cases hc : fn.body with
    | none => exact .inl rfl
    | some c =>
      dsimp only [CF.app]
      cases hle : Nat.ble args.length fn.ntmps with
      | false => exact .inl rfl
      | true =>
        have hle := Nat.le_of_ble_eq_true hle
        have hR := stAll_R args _ _ 0 (mkT_R fn.ntmps fn.ntmps (Nat.le_refl _))
        rw [args_list args fn.ntmps hle] at hR
        dsimp only
        rcases cRun_sound hT (retB P fn K) (fun _ _ _ _ => .fail) n [.code c] _ _ H nd hR with h | ⟨t', H', nd', h1, h2⟩ | ⟨_, _, _, _, h1, _⟩
        · exact .inl h
        · rw [h1]
          unfold retB
          rw [resB_eq P (ofL_R t')]
          cases hr : resV P t' H' fn.results.toList with
          | none => exact .inl rfl
          | some z =>
            obtain ⟨vs, m⟩ := z
            refine .inr ⟨tupV vs, H', m ++ nd', rfl, fun hn => ?_⟩
            rw [allT_append, Bool.and_eq_true] at hn
            exact ⟨(h2 hn.2).1, call_of_ends hf hc (h2 hn.2).2 hr hn.1⟩
        · exact .inl h1
theorem lookC_some : ∀ {l : List (FuncId × Table)} {f : FuncId} {T : Table}, lookC l f = some T → (f, T) ∈ l
  | [], _, _, h => by cases h
  | (g, T') :: l, f, T, h => by
    unfold lookC at h
    split at h
    · rename_i hb
      have : f = g := Nat.eq_of_beq_eq_true hb
      subst this
      cases h
      exact List.mem_cons_self
    · exact List.mem_cons_of_mem _ (lookC_some h)
theorem cdeep_sound {l : List (FuncId × Table)} {inl : List FuncId} {n : Nat} (h : ∀ p ∈ l, SoundAt P p.1 p.2) : ∀ d, SoundT P (tabOf (cdeep P l inl n d))
  | 0 => fun _ _ _ _ _ => .inl rfl
  | d + 1 => fun f args H nd K => by
    have ih := cFun_sound (cdeep_sound (inl := inl) (n := n) h d) n
    have hq := quiet_sound ih
    unfold tabOf cdeep
    cases hl : lookC l f with
    | some T => exact h _ (lookC_some hl) args H nd K
    | none =>
      have h1 := ih f args H nd K
      have h2 := hq f args H nd K
      unfold quiet at h2
      unfold tabOf at h1 h2
      dsimp only
      cases hF : cFun P (tabOf (cdeep P l inl n d)) n f with
      | mk F =>
        have e : cFun P (fun f args H nd K => (cdeep P l inl n d f).app args H nd K) n f = .mk F := hF
        rw [e] at h1 h2
        dsimp only [CF.app] at h1 h2
        cases inl.any (Nat.beq f) with
        | true => exact h1
        | false => exact h2
/-- Like 'toLoop', to any place. -/
noncomputable def cupto (P : Program) (T : Table) (stop : List Item → Bool) (n : Nat) (todo : List Item) (t : List AV) (H : List AB) : Res :=
  cRun P T stop n todo (ofL t) H [] (fun τ H nd => .ret (.tup (listT τ)) H nd) (fun todo τ H nd => .stop todo (listT τ) H nd)
theorem cupto_reach {T : Table} {stop : List Item → Bool} {n : Nat} {todo todo' : List Item} {t t' : List AV} {H H' : List AB} {nd : List Bool} (hT : SoundT P T) (h : (cupto P T stop n todo t H).sel = .stop todo' t' H' nd) (hn : allT nd = true) : Reach P todo t H todo' t' H' := by
  rcases cRun_sound (stop := stop) hT (fun τ H nd => .ret (.tup (listT τ)) H nd) (fun todo τ H nd => .stop todo (listT τ) H nd) n todo _ t H [] (ofL_R t) with h1 | ⟨t1, H1, nd1, h1, h2⟩ | ⟨todo1, t1, H1, nd1, h1, h2⟩
  · unfold cupto at h; rw [h] at h1; cases h1
  · unfold cupto at h; rw [h] at h1; cases h1
  · unfold cupto at h; rw [h, (ofL_R t1).list] at h1; cases h1
    exact (h2 hn).2
theorem cupto_ends {T : Table} {stop : List Item → Bool} {n : Nat} {todo : List Item} {t t' : List AV} {H H' : List AB} {nd : List Bool} (hT : SoundT P T) (h : (cupto P T stop n todo t H).sel = .ret (.tup t') H' nd) (hn : allT nd = true) : Ends P todo t H t' H' := by
  rcases cRun_sound (stop := stop) hT (fun τ H nd => .ret (.tup (listT τ)) H nd) (fun todo τ H nd => .stop todo (listT τ) H nd) n todo _ t H [] (ofL_R t) with h1 | ⟨t1, H1, nd1, h1, h2⟩ | ⟨todo1, t1, H1, nd1, h1, h2⟩
  · unfold cupto at h; rw [h] at h1; cases h1
  · unfold cupto at h; rw [h, (ofL_R t1).list] at h1; cases h1
    exact (h2 hn).2
  · unfold cupto at h; rw [h] at h1; cases h1
end
end Go.Ax

/- Blocks that are out of use dropped. -/
namespace Go.Ax
open Go

def renI (k i : Nat) : Option Nat := match decide (i < k) with
  | true => some i
  | false => match decide (i = k) with
    | true => none
    | false => some (i - 1)
mutual
def renV (k : Nat) : AV → AV
  | .p l id off => match renI k id with
    | some j => .p l j off
    | none => .any
  | .sl l id off len z => match renI k id with
    | some j => .sl l j off len z
    | none => .any
  | .fn g f c => .fn g (renL k f) (renL k c)
  | .ifc t v => .ifc t (renV k v)
  | .agg l => .agg (renL k l)
  | .tup l => .tup (renL k l)
  | v => v
def renL (k : Nat) : List AV → List AV
  | [] => []
  | a :: l => renV k a :: renL k l
end
def renB (k : Nat) : AB → AB
  | .cells r (.lit l) => .cells r (.lit (renL k l))
  | b => b
def dropB (k0 : Nat) : Nat → List AB → List AB
  | _, [] => []
  | 0, _ :: l => l.map (renB k0)
  | k + 1, a :: l => renB k0 a :: dropB k0 k l
def dropS : Nat → List (Nat × Nat) → List (Nat × Nat)
  | _, [] => []
  | 0, _ :: l => l
  | k + 1, a :: l => a :: dropS k l

theorem dropS_get : ∀ (k i : Nat) (l : List (Nat × Nat)), (dropS k l)[i]? = if i < k then l[i]? else l[i + 1]?
  | k, i, [] => by cases k <;> simp [dropS]
  | 0, i, a :: l => by simp [dropS]
  | k + 1, 0, a :: l => by simp [dropS]
  | k + 1, i + 1, a :: l => by simp only [dropS, List.getElem?_cons_succ, dropS_get k i l, Nat.add_lt_add_iff_right]
theorem dropB_get (k0 : Nat) : ∀ (k i : Nat) (l : List AB), getB (dropB k0 k l) i = renB k0 (getB l (if i < k then i else i + 1))
  | k, i, [] => by cases k <;> simp [dropB, getB, renB]
  | 0, i, a :: l => by
    have : ∀ (l : List AB) (i : Nat), getB (l.map (renB k0)) i = renB k0 (getB l i) := by
      intro l
      induction l with
      | nil => intro i; rfl
      | cons a l ih => intro i; cases i with
        | zero => rfl
        | succ i => exact ih i
    simp only [dropB, Nat.not_lt_zero, if_false, getB]
    exact this l i
  | k + 1, 0, a :: l => by simp [dropB, getB]
  | k + 1, i + 1, a :: l => by
    simp only [dropB, getB, Nat.add_lt_add_iff_right]
    rw [dropB_get k0 k i l]
    split <;> rfl
theorem dropS_length : ∀ (k : Nat) (l : List (Nat × Nat)), k < l.length → (dropS k l).length + 1 = l.length
  | _, [], h => by simp at h
  | 0, _ :: l, _ => rfl
  | k + 1, _ :: l, h => by simp only [dropS, List.length_cons]; rw [dropS_length k l (by simpa using h)]
theorem dropB_length (k0 : Nat) : ∀ (k : Nat) (l : List AB), k < l.length → (dropB k0 k l).length + 1 = l.length
  | _, [], h => by simp at h
  | 0, _ :: l, _ => by simp [dropB]
  | k + 1, _ :: l, h => by simp only [dropB, List.length_cons]; rw [dropB_length k0 k l (by simpa using h)]

theorem renI_get {k i j : Nat} {σ : List (Nat × Nat)} {b : Nat × Nat} (h : renI k i = some j) (hb : σ[i]? = some b) : (dropS k σ)[j]? = some b := by
  unfold renI at h
  split at h
  · cases h
    rename_i hlt
    rw [dropS_get, if_pos (by simpa using hlt)]; exact hb
  · rename_i h1
    have h1 : ¬ i < k := of_decide_eq_false h1
    split at h
    · cases h
    · rename_i h2
      have h2 : ¬ i = k := of_decide_eq_false h2
      cases h
      rw [dropS_get, if_neg (by omega), show i - 1 + 1 = i by omega]; exact hb
mutual
theorem renV_rel {k : Nat} {σ : List (Nat × Nat)} : ∀ {a : AV} {v : Value}, Rel σ a v → Rel (dropS k σ) (renV k a) v
  | _, _, .b x => .b x
  | _, _, .i k n => .i k n
  | _, _, .f h => .f h
  | _, _, .c h h' => .c h h'
  | _, _, .s l => .s l
  | _, _, .p (id := id) h => by
    simp only [renV]
    split
    · rename_i j hj; exact .p (renI_get hj h)
    · exact .any
  | _, _, .pnil => .pnil
  | _, _, .sl (id := id) h hc hz => by
    simp only [renV]
    split
    · rename_i j hj; exact .sl (renI_get hj h) hc hz
    · exact .any
  | _, _, .slz (id := id) => by
    simp only [renV]
    split
    · exact .slz
    · exact .any
  | _, _, .slnil => .slnil
  | _, _, .sle => .sle
  | _, _, .fn h h' => .fn (renL_rel h) (renL_rel h')
  | _, _, .fnil => .fnil
  | _, _, .ifc h => .ifc (renV_rel h)
  | _, _, .inil => .inil
  | _, _, .agg h => .agg (renL_rel h)
  | _, _, .tup h => .tup (renL_rel h)
  | _, _, .any => .any
theorem renL_rel {k : Nat} {σ : List (Nat × Nat)} : ∀ {a : List AV} {v : List Value}, RelL σ a v → RelL (dropS k σ) (renL k a) v
  | _, _, .nil => .nil
  | _, _, .cons h hs => .cons (renV_rel h) (renL_rel hs)
end
theorem renL_map (k : Nat) : ∀ (l : List AV), renL k l = l.map (renV k)
  | [] => rfl
  | a :: l => by simp [renL, renL_map k l]
theorem renB_rw (k : Nat) (B : AB) : (renB k B).rw = B.rw ∧ (renB k B).live = B.live := by
  cases B with
  | dead => exact ⟨rfl, rfl⟩
  | cells r A => cases A <;> exact ⟨rfl, rfl⟩
  | code _ _ => exact ⟨rfl, rfl⟩
theorem renB_blk {k : Nat} {σ : List (Nat × Nat)} {z : Nat} {B : AB} {o : Option Obj} (h : BlkRel σ z B o) : BlkRel (dropS k σ) z (renB k B) o := by
  cases B with
  | dead => trivial
  | code _ _ => exact h
  | cells r A =>
    obtain ⟨c, e, fr, h1, h2, h3⟩ := h
    have scal : ∀ {x : AV}, (∀ (y : Value), Rel σ x y → Rel (dropS k σ) x y) → ∀ (y : Value), Rel σ x y → Rel (dropS k σ) x y := fun h => h
    cases A with
    | lit l =>
      refine ⟨c, e, fr, h1, fun j a ha => ?_, h3⟩
      simp only [Cells.toL, renL_map, List.getElem?_map, Option.map_eq_some_iff] at ha
      obtain ⟨a0, ha0, rfl⟩ := ha
      obtain ⟨v, hv, hr⟩ := h2 j a0 ha0
      exact ⟨v, hv, renV_rel hr⟩
    | _ =>
      refine ⟨c, e, fr, h1, fun j a ha => ?_, h3⟩
      obtain ⟨v, hv, hr⟩ := h2 j a ha
      refine ⟨v, hv, ?_⟩
      simp only [Cells.toL, List.getElem?_map, Option.map_eq_some_iff] at ha
      obtain ⟨y, _, rfl⟩ := ha
      have := renV_rel (k := k) hr
      exact this

section
variable {P : Program}
theorem drop_sim {σ σ1 : List (Nat × Nat)} {H H1 : List AB} {w w' : World} (hσ : σ.length = H.length) (s1 : Sim σ1 H1 w') (f1 : Fr σ H w σ1 H1 w') (k : Nat) (hk : H.length ≤ k) (hk1 : k < H1.length) :
    Sim (dropS k σ1) (dropB k k H1) w' ∧ Fr σ H w (dropS k σ1) (dropB k k H1) w' := by
  have hk2 : k < σ1.length := by rw [s1.len]; exact hk1
  have hkσ : σ.length ≤ k := by rw [hσ]; exact hk
  refine ⟨⟨?_, fun i b z hb => ?_, fun i j b z z' hi hj hr hl => ?_, fun g hg => ⟨(s1.base g hg).1, fun i z h => by
      rw [dropB_get, (renB_rw _ _).1]
      rw [dropS_get] at h
      exact (s1.base g hg).2 _ z (by split <;> simp_all)⟩⟩, ?_⟩
  · have h1 := dropS_length k σ1 hk2
    have h2 := dropB_length k k H1 hk1
    have h3 := s1.len
    omega
  · rw [dropB_get]
    rw [dropS_get] at hb
    by_cases hik : i < k
    · rw [if_pos hik] at hb ⊢; exact renB_blk (s1.blk i b z hb)
    · rw [if_neg hik] at hb ⊢; exact renB_blk (s1.blk (i + 1) b z hb)
  · rw [dropB_get, (renB_rw _ _).1] at hr
    rw [dropB_get, (renB_rw _ _).2] at hl
    rw [dropS_get] at hi hj
    have hi' : σ1[if i < k then i else i + 1]? = some (b, z) := by split <;> simp_all
    have hj' : σ1[if j < k then j else j + 1]? = some (b, z') := by split <;> simp_all
    have := s1.inj _ _ b z z' hi' hj' hr hl
    split at this <;> split at this <;> omega
  · refine ⟨f1.os, f1.tape, f1.output, f1.size, f1.old, fun i x hx => ?_, fun i b z hb hn => ?_, fun i hi hr => ?_⟩
    · have hlt := isSome_lt hx
      rw [dropS_get, if_pos (by omega)]
      exact f1.ext i x hx
    · rw [dropS_get] at hb
      have hlt : σ.length ≤ i := by
        rcases Nat.lt_or_ge i σ.length with h' | h'
        · rw [List.getElem?_eq_getElem h'] at hn; cases hn
        · exact h'
      split at hb
      · exact f1.new i b z hb hn
      · exact f1.new (i + 1) b z hb (List.getElem?_eq_none (by omega))
    · rw [dropB_get, if_pos (by omega), (renB_rw _ _).1] at hr
      exact f1.mono i hi hr
/-- A block made on the way is dropped, and what names it. -/
theorem Reach.drop {todo todo' : List Item} {t t1 : List AV} {H H1 : List AB} (h : Reach P todo t H todo' t1 H1) (k : Nat) (hk : H.length ≤ k) (hk1 : k < H1.length) :
    Reach P todo t H todo' (renL k t1) (dropB k k H1) := fun σ w a b cs s r => by
  obtain ⟨a', w', σ1, e1, r1, d1, s1, f1⟩ := h σ w a b cs s r
  obtain ⟨s2, f2⟩ := drop_sim s.len s1 f1 k hk hk1
  exact ⟨a', w', dropS k σ1, e1, renL_rel r1, d1, s2, f2⟩
theorem CallOK.drop {f : FuncId} {args : List AV} {v : AV} {H H1 : List AB} (h : CallOK P f args H v H1) (k : Nat) (hk : H.length ≤ k) (hk1 : k < H1.length) : CallOK P f args H (renV k v) (dropB k k H1) := fun σ w rargs s hra => by
  refine (h σ w rargs s hra).mono ?_
  rintro e w' ⟨rv, rfl, σ1, r1, s1, f1⟩
  obtain ⟨s2, f2⟩ := drop_sim s.len s1 f1 k hk hk1
  exact ⟨rv, rfl, dropS k σ1, renV_rel r1, s2, f2⟩

/-- Places whose value is of no further use. -/
def blur : List Bool → List AV → List AV
  | m :: ms, a :: l => (match m with
    | true => .any
    | false => a) :: blur ms l
  | _, l => l
theorem blur_length : ∀ (m : List Bool) (l : List AV), (blur m l).length = l.length
  | [], l => by cases l <;> rfl
  | _ :: _, [] => rfl
  | _ :: ms, _ :: l => by simp [blur, blur_length ms l]
theorem blur_eqv : ∀ (m : List Bool) (l : List AV), Eqv l (blur m l)
  | [], l => by cases l <;> exact Eqv.refl _
  | _ :: _, [] => Eqv.refl _
  | m :: ms, a :: l => by
    refine ⟨by rw [blur_length], fun σ n v r => ?_⟩
    cases n with
    | zero =>
      simp only [blur, getL] at r ⊢
      cases m
      · exact r
      · exact .any
    | succ n =>
      simp only [blur, getL] at r ⊢
      exact (blur_eqv ms l).2 σ n v r
end
end Go.Ax

/- Memories that say the same. -/
namespace Go.Ax
open Go

/-! ### Memories that say the same -/
def HEq (H G : List AB) : Prop := H.length = G.length ∧ ∀ i, (getB H i).rw = (getB G i).rw ∧ (getB H i).live = (getB G i).live ∧ ∀ σ z o, BlkRel σ z (getB H i) o → BlkRel σ z (getB G i) o
theorem HEq.sim {σ : List (Nat × Nat)} {H G : List AB} {w : World} (e : HEq H G) (s : Sim σ H w) : Sim σ G w :=
  ⟨by rw [s.len, e.1], fun i b z hb => (e.2 i).2.2 _ _ _ (s.blk i b z hb), fun i j b z z' hi hj hr hl => s.inj i j b z z' hi hj (by rw [(e.2 i).1]; exact hr) (by rw [(e.2 j).2.1]; exact hl), s.base.rw' (fun i hr => by rw [(e.2 i).1]; exact hr)⟩
theorem HEq.refl (H : List AB) : HEq H H := ⟨rfl, fun _ => ⟨rfl, rfl, fun _ _ _ h => h⟩⟩
theorem HEq.cons {A B : AB} {H G : List AB} (h : A.rw = B.rw ∧ A.live = B.live ∧ ∀ σ z o, BlkRel σ z A o → BlkRel σ z B o) (k : HEq H G) : HEq (A :: H) (B :: G) :=
  ⟨by simp [k.1], fun i => by cases i with
    | zero => exact h
    | succ i => exact k.2 i⟩
theorem HEq.fr {σ σ' : List (Nat × Nat)} {H G H' : List AB} {w w' : World} (e : HEq G H') (F : Fr σ H w σ' G w') : Fr σ H w σ' H' w' :=
  ⟨F.os, F.tape, F.output, F.size, F.old, F.ext, F.new, fun i hi hr => F.mono i hi (by rw [(e.2 i).1]; exact hr)⟩
theorem Reach.post {P : Program} {todo todo' : List Item} {t t' : List AV} {H G H' : List AB} (h : Reach P todo t H todo' t' G) (e : HEq G H') : Reach P todo t H todo' t' H' := fun σ w a b cs s r =>
  let ⟨a', w', σ', h1, h2, h3, h4, h5⟩ := h σ w a b cs s r; ⟨a', w', σ', h1, h2, h3, e.sim h4, e.fr h5⟩
theorem Ends.post {P : Program} {todo : List Item} {t t' : List AV} {H G H' : List AB} (h : Ends P todo t H t' G) (e : HEq G H') : Ends P todo t H t' H' := fun σ w a b cs s r =>
  let ⟨a', w', σ', todo', h1, h2, h3, h4, h5⟩ := h σ w a b cs s r; ⟨a', w', σ', todo', h1, h2, h3, e.sim h4, e.fr h5⟩
theorem relA_bare {σ : List (Nat × Nat)} {A B : List AV} {c : Array Value} (h : A.map AV.bare = B.map AV.bare) (r : RelA σ A c) : RelA σ B c := fun j a ha => by
  have hj := congrArg (·[j]?) h
  simp only [List.getElem?_map, ha, Option.map_some] at hj
  cases hA : A[j]? with
  | none => rw [hA] at hj; cases hj
  | some x =>
    rw [hA] at hj
    obtain ⟨v, hv, hr⟩ := r j x hA
    simp only [Option.map_some, Option.some.injEq] at hj
    exact ⟨v, hv, Rel.unbare (hj ▸ hr.bare)⟩
theorem blk_bare {rw : Bool} {A B : List AV} (h : A.map AV.bare = B.map AV.bare) : (AB.cells rw (.lit A)).rw = (AB.cells rw (.lit B)).rw ∧ (AB.cells rw (.lit A)).live = (AB.cells rw (.lit B)).live ∧ ∀ σ z o, BlkRel σ z (AB.cells rw (.lit A)) o → BlkRel σ z (AB.cells rw (.lit B)) o :=
  ⟨rfl, rfl, fun _ _ _ ⟨c, e, fr, h1, h2, h3⟩ => ⟨c, e, fr, h1, relA_bare h h2, h3⟩⟩
/-- Cells of complex numbers. -/
def cx (X : Nat → Nat × Nat) (j : Nat) : AV := .c false .f32 (X j).1 (X j).2
theorem asC64_bare : ∀ {l : List AV} {xs : List (Nat × Nat)}, asC64 l = some xs → l.map AV.bare = xs.map fun z => .c false .f32 z.1 z.2
  | [], xs, h => by cases h; rfl
  | a :: l, xs, h => by
    unfold asC64 at h
    split at h <;> (try (cases h; done))
    · rename_i e; cases e
    · rename_i x y l' e
      cases e
      split at h <;> cases h
      rename_i r hr
      simp [AV.bare, asC64_bare hr]
theorem map_range_getD {α β : Type} (f : α → β) (d : α) (xs : List α) (n : Nat) (h : xs.length = n) : xs.map f = (List.range n).map fun j => f (xs.getD j d) := by
  subst h
  apply List.ext_getElem?
  intro j
  simp only [List.getElem?_map]
  by_cases hj : j < xs.length
  · simp [hj]
  · simp [hj]
end Go.Ax

/- What all ways of an evaluation come to. -/
namespace Go.Ax
open Go

structure Leaf where
  todo : List Item
  t : List AV
  H : List AB
  nd : List Bool
/-- All ways, where each comes to a place. -/
def Res.stops : Res → List Leaf
  | .stop todo t H nd => [⟨todo, t, H, nd⟩]
  | .ite _ x y => x.stops ++ y.stops
  | .ret _ _ _ => []
  | .fail => []
def Res.allStop : Res → Bool
  | .stop _ _ _ _ => true
  | .ite _ x y => x.allStop && y.allStop
  | .ret _ _ _ => false
  | .fail => false
theorem Res.stops_sel : ∀ {r : Res}, r.allStop = true → ∃ x ∈ r.stops, r.sel = .stop x.todo x.t x.H x.nd
  | .stop todo t H nd, _ => ⟨⟨todo, t, H, nd⟩, by simp [Res.stops], rfl⟩
  | .ite b x y, h => by
    simp only [Res.allStop, Bool.and_eq_true] at h
    cases b with
    | true =>
      obtain ⟨z, h1, h2⟩ := Res.stops_sel h.1
      exact ⟨z, by simp [Res.stops, h1], h2⟩
    | false =>
      obtain ⟨z, h1, h2⟩ := Res.stops_sel h.2
      exact ⟨z, by simp [Res.stops, h1], h2⟩
  | .ret _ _ _, h => by cases h
  | .fail, h => by cases h
/-- What the places have in common: where, what the temporaries hold, and what is to be shown (all of it one Bool). -/
def bareBlur (M : List Bool) (t : List AV) : List AV := (blur M t).map AV.bare
theorem cNext_loop (stop : List Item → Bool) (n : Nat) (c : Code) (k : List Item) : cNext stop (n + 1) (.code (.loop c) :: k) = cNext stop (n + 1) (.inLoop c :: k) := rfl
theorem cupto_loop (P : Program) (T : Table) (stop : List Item → Bool) (n : Nat) (c : Code) (k : List Item) (t : List AV) (H : List AB) : cupto P T stop n (.code (.loop c) :: k) t H = cupto P T stop n (.inLoop c :: k) t H := by
  cases n with
  | zero => rfl
  | succ n =>
    unfold cupto cRun
    rw [cNext_loop stop 99 c k]

def toLp : List Item → List Item
  | .code (.loop c) :: k => .inLoop c :: k
  | l => l
theorem cupto_toLp (P : Program) (T : Table) (stop : List Item → Bool) (n : Nat) (L : List Item) (t : List AV) (H : List AB) : cupto P T stop n (toLp L) t H = cupto P T stop n L t H := by
  unfold toLp
  split
  · exact (cupto_loop P T stop n _ _ t H).symm
  · rfl
/-- The kernel's part of a step from places to places: all ways stop, in memories that can be read. -/
def leafOf {β : Type} (M : List Bool) (fix : List AB → β) (x : Leaf) : List Item × List AV × β := (x.todo, bareBlur M x.t, fix x.H)
def Res.sound1 {α : Type} (r : Res) (get : List AB → Option α) : Bool := r.allStop && r.stops.all fun x => (get x.H).isSome
def Res.nds : Res → List Bool
  | .stop _ _ _ nd => nd
  | .ite _ x y => x.nds ++ y.nds
  | .ret _ _ nd => nd
  | .fail => []
theorem Res.nds_mem : ∀ {r : Res} {x : Leaf}, x ∈ r.stops → ∀ b ∈ x.nd, b ∈ r.nds
  | .stop todo t H nd, x, hx, b, hb => by
    simp only [Res.stops, List.mem_singleton] at hx
    subst hx
    exact hb
  | .ite _ y z, x, hx, b, hb => by
    simp only [Res.stops, List.mem_append] at hx
    simp only [Res.nds, List.mem_append]
    rcases hx with hx | hx
    · exact .inl (Res.nds_mem hx b hb)
    · exact .inr (Res.nds_mem hx b hb)
  | .ret _ _ _, x, hx, _, _ => by cases hx
  | .fail, x, hx, _, _ => by cases hx
theorem allT_of : ∀ {l : List Bool}, (∀ b ∈ l, b = true) → allT l = true
  | [], _ => rfl
  | b :: l, h => by
    rw [allT, Bool.and_eq_true]
    exact ⟨h b (by simp), allT_of fun x hx => h x (by simp [hx])⟩
noncomputable def Res.pack {α β : Type} (r : Res) (M : List Bool) (get : List AB → Option α) (fix : List AB → β) : Bool × List (List Item × List AV × β) × List Bool := (r.sound1 get, r.stops.map (leafOf M fix), r.nds)
def packed {β : Type} (L : List Item) (t : List AV) (fv : β) (m q : Nat) (ok : Bool) : Bool × List (List Item × List AV × β) × List Bool := (true, List.replicate m (L, t, fv), List.replicate q ok)
structure Steps1 {α β : Type} (r : Res) (L : List Item) (M : List Bool) (t : List AV) (get : List AB → Option α) (fix : List AB → β) (fv : β) (m q : Nat) (ok : Bool) : Prop where
  all : r.sound1 get = true
  eqs : r.stops.map (leafOf M fix) = List.replicate m (L, t, fv)
  nds : r.nds = List.replicate q ok
theorem Steps1.of {α β : Type} {r : Res} {L : List Item} {M : List Bool} {t : List AV} {get : List AB → Option α} {fix : List AB → β} {fv : β} {m q : Nat} {ok : Bool} (h : r.pack M get fix = packed L t fv m q ok) : Steps1 r L M t get fix fv m q ok := by
  simp only [Res.pack, packed, Prod.mk.injEq] at h
  exact ⟨h.1, h.2.1, h.2.2⟩
theorem map_mem {α β : Type} {f g : α → β} {l : List α} (h : l.map f = l.map g) {x : α} (hx : x ∈ l) : f x = g x := by
  induction l with
  | nil => cases hx
  | cons a l ih =>
    simp only [List.map_cons, List.cons.injEq] at h
    rcases List.mem_cons.1 hx with rfl | hx
    · exact h.1
    · exact ih h.2 hx
theorem Steps1.reach_sel {α β : Type} {P : Program} {T : Table} {stop : List Item → Bool} {n : Nat} {todo : List Item} {t0 : List AV} {H0 : List AB} {L : List Item} {M : List Bool} {t t' : List AV} {get : List AB → Option α} {fix : List AB → β} {fv : β} {m q : Nat} {ok : Bool} {r : Res} (hT : SoundT P T)
    (h : Steps1 r L M t get fix fv m q ok) (hs : (cupto P T stop n todo t0 H0).sel = r.sel) (hok : ok = true) (ht : t = t'.map AV.bare) : ∃ H x, get H = some x ∧ fix H = fv ∧ Reach P todo t0 H0 L t' H := by
  have hall := h.all
  unfold Res.sound1 at hall
  rw [Bool.and_eq_true] at hall
  obtain ⟨z, h1, h2⟩ := Res.stops_sel hall.1
  rw [← hs] at h2
  have hmem : leafOf M fix z ∈ List.replicate m (L, t, fv) := by
    rw [← h.eqs]
    exact List.mem_map.2 ⟨z, h1, rfl⟩
  have e := List.eq_of_mem_replicate hmem
  simp only [leafOf, Prod.mk.injEq] at e
  obtain ⟨e1, e2, e5⟩ := e
  have e4 : allT z.nd = true := allT_of fun b hb => by
    have := Res.nds_mem h1 b hb
    rw [h.nds, hok] at this
    exact List.eq_of_mem_replicate this
  have e3 := List.all_eq_true.1 hall.2 z h1
  cases hg : get z.H with
  | none => rw [hg] at e3; cases e3
  | some x =>
    refine ⟨z.H, x, hg, e5, ?_⟩
    rw [e1] at h2
    refine ((cupto_reach hT h2 e4).weak (blur_eqv M z.t)).weak (eqv_of_bare ?_)
    rw [← ht, ← e2]; rfl
theorem Steps1.reach {α β : Type} {P : Program} {T : Table} {n : Nat} {todo : List Item} {t0 : List AV} {H0 : List AB} {L : List Item} {M : List Bool} {t t' : List AV} {get : List AB → Option α} {fix : List AB → β} {fv : β} {m q : Nat} {ok : Bool} (hT : SoundT P T)
    (h : Steps1 (cupto P T atLoop n todo t0 H0) L M t get fix fv m q ok) (hok : ok = true) (ht : t = t'.map AV.bare) : ∃ H x, get H = some x ∧ fix H = fv ∧ Reach P todo t0 H0 L t' H := h.reach_sel hT rfl hok ht
/-- The end of a call: results and memory. -/
noncomputable def endOf (P : Program) (rs : List ResultVar) (r : Res) : Option (Option (List AV × List Bool) × List AB × List Bool) :=
  match r with
  | .ret v H nd => match v with
    | .tup t => some (resV P t H rs, H, nd)
    | _ => none
  | _ => none
theorem endOf_ends {P : Program} {T : Table} {stop : List Item → Bool} {n : Nat} {todo : List Item} {t0 : List AV} {H0 : List AB} {rs : List ResultVar} {r : Res} {x : Option (List AV × List Bool)} {H : List AB} {nd : List Bool} (hT : SoundT P T)
    (h : endOf P rs r = some (x, H, nd)) (hs : (cupto P T stop n todo t0 H0).sel = r.sel) (hn : allT nd = true) : ∃ t, Ends P todo t0 H0 t H ∧ resV P t H rs = x := by
  unfold endOf at h
  split at h <;> (try (cases h; done))
  split at h <;> cases h
  exact ⟨_, cupto_ends hT hs hn, rfl⟩

/-! ### One way -/
def Res.isStop : Res → Bool
  | .stop _ _ _ _ => true
  | _ => false
def Res.tOf : Res → List AV
  | .stop _ t _ _ => t
  | _ => []
def Res.HOf : Res → List AB
  | .stop _ _ H _ => H
  | _ => []
theorem Res.isStop_eq : ∀ {r : Res}, r.isStop = true → r = .stop r.todo r.tOf r.HOf r.nds
  | .stop _ _ _ _, _ => rfl
  | .ite _ _ _, h => by cases h
  | .ret _ _ _, h => by cases h
  | .fail, h => by cases h
def atReg (n : Nat) : List Item → Bool
  | .code (.region id _ _) :: _ => Nat.beq id n
  | _ => false
theorem one_reach {P : Program} {T : Table} {stop : List Item → Bool} {n : Nat} {todo : List Item} {t0 : List AV} {H0 : List AB} {r : Res} (hT : SoundT P T) (hr : (cupto P T stop n todo t0 H0).sel = r.sel) (hs : r.isStop = true) (hn : allT r.nds = true) : Reach P todo t0 H0 r.todo r.tOf r.HOf := by
  have e := Res.isStop_eq hs
  have h1 : (cupto P T stop n todo t0 H0).sel = .stop r.todo r.tOf r.HOf r.nds := by
    rw [hr]
    conv => lhs; rw [e]
    rfl
  exact cupto_reach hT h1 hn
end Go.Ax

/- A call's answer along one way through its tests. -/
namespace Go.Ax
open Go

/-- Finite. -/
noncomputable def finB (x : Nat) : Bool := feq .f32 (fsub .f32 x x) 0
def plusF (x : Nat) : Nat := bif feq .f32 x 0 then 0 else x
/-- What must hold along a way. -/
def condsP : Res → List Bool → List Bool
  | .ite b x y, d :: l => match d with
    | true => b :: condsP x l
    | false => (!b) :: condsP y l
  | _, _ => []
def leafP : Res → Option (AV × List Bool)
  | .ret v _ nd => some (v, nd)
  | _ => none
theorem sel_of_conds : ∀ (r : Res) (l : List Bool), allT (condsP r l) = true → r.sel = (r.at l).sel
  | .ite b x y, d :: l, h => by
    cases d with
    | true =>
      simp only [condsP, allT, Bool.and_eq_true] at h
      simp only [Res.sel, Res.at, h.1, if_true]
      exact sel_of_conds x l h.2
    | false =>
      simp only [condsP, allT, Bool.and_eq_true, Bool.not_eq_true'] at h
      simp only [Res.sel, Res.at, h.1]
      exact sel_of_conds y l h.2
  | .ite _ _ _, [], _ => rfl
  | .ret _ _ _, _, _ => by simp [Res.at]
  | .stop _ _ _ _, _, _ => by simp [Res.at]
  | .fail, _, _ => by simp [Res.at]
theorem call_of_path {P : Program} {T : Table} {f : FuncId} {args : List AV} {H : List AB} {dirs conds nd : List Bool} {v : AV} (hT : SoundT P T)
    (h : (condsP (T f args H [] fun v H nd => .ret v H nd) dirs, leafP ((T f args H [] fun v H nd => .ret v H nd).at dirs)) = (conds, some (v, nd))) (hc : allT conds = true) (hn : allT nd = true) : ∃ H', CallOK P f args H v H' := by
  simp only [Prod.mk.injEq] at h
  obtain ⟨h1, h2⟩ := h
  have e := sel_of_conds _ dirs (by rw [h1]; exact hc)
  generalize hl : (T f args H [] fun v H nd => .ret v H nd).at dirs = r at h2 e
  unfold leafP at h2
  split at h2 <;> cases h2
  exact ⟨_, call_of_sel hT e hn⟩

noncomputable def lfM (M : List Bool) (r : Res) : Bool × List Item × List AV × List AB × List Bool := (r.isStop, r.todo, bareBlur M r.tOf, r.HOf, r.nds)
theorem isStop_at {r : Res} {L : List Bool} (h : (r.at L).isStop = true) (hc : allT (condsP r L) = true) : r.sel = .stop (r.at L).todo (r.at L).tOf (r.at L).HOf (r.at L).nds := by
  rw [sel_of_conds r L hc]
  conv => lhs; rw [Res.isStop_eq h]
  rfl
end Go.Ax

/- What is known of a call in a small memory holds in every memory that begins with it. -/
namespace Go.Ax
open Go

mutual
/-- Names from k on are moved up by r. -/
def upV (k r : Nat) : AV → AV
  | .p l id off => .p l (match decide (id < k) with
    | true => id
    | false => id + r) off
  | .sl l id off len z => .sl l (match decide (id < k) with
    | true => id
    | false => id + r) off len z
  | .fn g f c => .fn g (upL k r f) (upL k r c)
  | .ifc t v => .ifc t (upV k r v)
  | .agg l => .agg (upL k r l)
  | .tup l => .tup (upL k r l)
  | v => v
def upL (k r : Nat) : List AV → List AV
  | [] => []
  | a :: l => upV k r a :: upL k r l
end
def upB (k r : Nat) : AB → AB
  | .cells rw (.lit l) => .cells rw (.lit (upL k r l))
  | b => b
def upH (k r : Nat) : List AB → List AB
  | [] => []
  | b :: l => upB k r b :: upH k r l
theorem upL_map (k r : Nat) : ∀ (l : List AV), upL k r l = l.map (upV k r)
  | [] => rfl
  | a :: l => by simp [upL, upL_map k r l]
theorem upH_get (k r : Nat) : ∀ (l : List AB) (i : Nat), getB (upH k r l) i = upB k r (getB l i)
  | [], _ => rfl
  | _ :: _, 0 => rfl
  | _ :: l, i + 1 => upH_get k r l i
theorem upH_length (k r : Nat) : ∀ (l : List AB), (upH k r l).length = l.length
  | [] => rfl
  | _ :: l => by simp [upH, upH_length k r l]
theorem upB_rw (k r : Nat) (B : AB) : (upB k r B).rw = B.rw ∧ (upB k r B).live = B.live := by
  cases B with
  | dead => exact ⟨rfl, rfl⟩
  | cells r A => cases A <;> exact ⟨rfl, rfl⟩
  | code _ _ => exact ⟨rfl, rfl⟩

section
variable {σ τ : List (Nat × Nat)} {k r : Nat}
def Up (k r : Nat) (σ τ : List (Nat × Nat)) : Prop := ∀ (i : Nat) (b : Nat × Nat), σ[i]? = some b → τ[if i < k then i else i + r]? = some b
theorem up_get (u : Up k r σ τ) {i : Nat} {b : Nat × Nat} (h : σ[i]? = some b) : τ[match decide (i < k) with
    | true => i
    | false => i + r]? = some b := by
  have := u i b h
  by_cases hi : i < k
  · simp only [hi, decide_true, if_true] at this ⊢; exact this
  · simp only [hi, decide_false, if_false] at this ⊢; exact this
mutual
theorem upV_rel (u : Up k r σ τ) : ∀ {a : AV} {v : Value}, Rel σ a v → Rel τ (upV k r a) v
  | _, _, .b x => .b x
  | _, _, .i k n => .i k n
  | _, _, .f h => .f h
  | _, _, .c h h' => .c h h'
  | _, _, .s l => .s l
  | _, _, .p h => .p (up_get u h)
  | _, _, .pnil => .pnil
  | _, _, .sl h hc hz => .sl (up_get u h) hc hz
  | _, _, .slz => .slz
  | _, _, .slnil => .slnil
  | _, _, .sle => .sle
  | _, _, .fn h h' => .fn (upL_rel u h) (upL_rel u h')
  | _, _, .fnil => .fnil
  | _, _, .ifc h => .ifc (upV_rel u h)
  | _, _, .inil => .inil
  | _, _, .agg h => .agg (upL_rel u h)
  | _, _, .tup h => .tup (upL_rel u h)
  | _, _, .any => .any
theorem upL_rel (u : Up k r σ τ) : ∀ {a : List AV} {v : List Value}, RelL σ a v → RelL τ (upL k r a) v
  | _, _, .nil => .nil
  | _, _, .cons h hs => .cons (upV_rel u h) (upL_rel u hs)
end
theorem upB_blk (u : Up k r σ τ) {z : Nat} {B : AB} {o : Option Obj} (h : BlkRel σ z B o) : BlkRel τ z (upB k r B) o := by
  cases B with
  | dead => trivial
  | code _ _ => exact h
  | cells rw A =>
    obtain ⟨c, e, fr, h1, h2, h3⟩ := h
    cases A with
    | lit l =>
      refine ⟨c, e, fr, h1, fun j a ha => ?_, h3⟩
      simp only [Cells.toL, upL_map, List.getElem?_map, Option.map_eq_some_iff] at ha
      obtain ⟨a0, ha0, rfl⟩ := ha
      obtain ⟨v, hv, hr⟩ := h2 j a0 ha0
      exact ⟨v, hv, upV_rel u hr⟩
    | _ =>
      refine ⟨c, e, fr, h1, fun j a ha => ?_, h3⟩
      obtain ⟨v, hv, hr⟩ := h2 j a ha
      refine ⟨v, hv, ?_⟩
      simp only [Cells.toL, List.getElem?_map, Option.map_eq_some_iff] at ha
      obtain ⟨y, _, rfl⟩ := ha
      have := upV_rel u hr
      exact this
end

def allLive : List AB → Bool
  | [] => true
  | b :: l => b.live && allLive l
theorem allLive_get : ∀ {l : List AB}, allLive l = true → ∀ i, i < l.length → (getB l i).live = true
  | [], _, i, h => by simp at h
  | b :: l, hl, 0, _ => by simp only [allLive, Bool.and_eq_true] at hl; exact hl.1
  | b :: l, hl, i + 1, h => by
    simp only [allLive, Bool.and_eq_true] at hl
    exact allLive_get hl.2 i (by simpa using h)

def lowB (n : Nat) : AB → Bool
  | .cells _ (.lit l) => belowL n l
  | _ => true
def lowH (n : Nat) : List AB → Bool
  | [] => true
  | b :: l => lowB n b && lowH n l
theorem lowH_get {n : Nat} : ∀ {l : List AB}, lowH n l = true → ∀ i, lowB n (getB l i) = true
  | [], _, i => rfl
  | b :: l, hl, 0 => by simp only [lowH, Bool.and_eq_true] at hl; exact hl.1
  | b :: l, hl, i + 1 => by
    simp only [lowH, Bool.and_eq_true] at hl
    exact lowH_get hl.2 i
theorem belowL_get {n : Nat} : ∀ {l : List AV}, belowL n l = true → ∀ (j : Nat) (a : AV), l[j]? = some a → below n a = true
  | [], _, j, a, h => by simp at h
  | x :: l, hl, 0, a, h => by
    simp only [belowL, Bool.and_eq_true] at hl
    simp at h; subst h; exact hl.1
  | x :: l, hl, j + 1, a, h => by
    simp only [belowL, Bool.and_eq_true] at hl
    exact belowL_get hl.2 j a (by simpa using h)
theorem low_blk {σ τ : List (Nat × Nat)} {n z : Nat} (e : Ext σ τ) (hn : σ.length = n) {B : AB} {o : Option Obj} (hb : lowB n B = true) (h : BlkRel τ z B o) : BlkRel σ z B o := by
  cases B with
  | dead => trivial
  | code _ _ => exact h
  | cells rw A =>
    obtain ⟨c, t, fr, h1, h2, h3⟩ := h
    refine ⟨c, t, fr, h1, fun j a ha => ?_, h3⟩
    obtain ⟨v, hv, hr⟩ := h2 j a ha
    refine ⟨v, hv, below_rel e hn ?_ hr⟩
    cases A with
    | lit l => exact belowL_get hb j a ha
    | _ =>
      simp only [Cells.toL, List.getElem?_map, Option.map_eq_some_iff] at ha
      obtain ⟨y, _, rfl⟩ := ha
      rfl

/-- The memory behind a call: the old part, what was besides it, and what is new. -/
def frameH (H0 Hr H1 : List AB) : List AB := upH H0.length Hr.length (H1.take H0.length) ++ (Hr ++ upH H0.length Hr.length (H1.drop H0.length))

theorem getB_take : ∀ (l : List AB) (k i : Nat), i < k → getB (l.take k) i = getB l i
  | [], k, i, _ => by simp
  | _ :: _, 0, _, h => by omega
  | _ :: _, k + 1, 0, _ => rfl
  | _ :: l, k + 1, i + 1, h => getB_take l k i (by omega)
theorem getB_drop : ∀ (l : List AB) (k i : Nat), getB (l.drop k) i = getB l (k + i)
  | [], k, i => by simp [getB]
  | _ :: _, 0, i => by simp
  | _ :: l, k + 1, i => by
    rw [List.drop_succ_cons, getB_drop l k i, show k + 1 + i = (k + i) + 1 by omega]; rfl

variable {P : Program}
theorem CallOK.frame {f : FuncId} {args : List AV} {v : AV} {H0 H1 : List AB} (h : CallOK P f args H0 v H1) (ha : belowL H0.length args = true) (hl : allLive H0 = true) (hlow : lowH H0.length H0 = true) (Hr : List AB) :
    CallOK P f args (H0 ++ Hr) (upV H0.length Hr.length v) (frameH H0 Hr H1) := fun σ w rargs s hra => by
  have hσl : σ.length = H0.length + Hr.length := by rw [s.len]; simp
  have hσ0 : (σ.take H0.length).length = H0.length := by simp; omega
  have t0 : ∀ i, i < H0.length → (σ.take H0.length)[i]? = σ[i]? := fun i hi => List.getElem?_take_of_lt hi
  have l0 : ∀ {i : Nat} {b : Nat × Nat}, (σ.take H0.length)[i]? = some b → i < H0.length := fun hb => by have := isSome_lt hb; omega
  have e0 : Ext (σ.take H0.length) σ := fun i b hb => by rw [← t0 i (l0 hb)]; exact hb
  have g0 : ∀ i, i < H0.length → getB (H0 ++ Hr) i = getB H0 i := fun i hi => getB_append_left hi
  have gr : ∀ i, H0.length ≤ i → getB (H0 ++ Hr) i = getB Hr (i - H0.length) := fun i hi => getB_append_right hi
  have s0 : Sim (σ.take H0.length) H0 w := by
    refine ⟨hσ0, fun i b z hb => ?_, fun i j b z z' hi hj hr hl' => ?_, fun g hg => ⟨(s.base g hg).1, fun i z h => by have h1 := (s.base g hg).2 i z (e0 i _ h); rw [g0 i (l0 h)] at h1; exact h1⟩⟩
    · have hbl := s.blk i b z (e0 i _ hb)
      rw [g0 i (l0 hb)] at hbl
      exact low_blk e0 hσ0 (lowH_get hlow i) hbl
    · exact s.inj i j b z z' (e0 i _ hi) (e0 j _ hj) (by rw [g0 i (l0 hi)]; exact hr) (by rw [g0 j (l0 hj)]; exact hl')
  refine (h (σ.take H0.length) w rargs s0 (belowL_rel e0 hσ0 ha hra)).mono ?_
  rintro e w' ⟨rv, rfl, σ1, r1, s1, F⟩
  have hk1 : H0.length ≤ σ1.length := by have := F.ext.length; omega
  have hH1 : H0.length ≤ H1.length := by rw [← s1.len]; exact hk1
  have x1 : ∀ i, i < H0.length → σ1[i]? = σ[i]? := fun i hi => by
    have hi' : i < (σ.take H0.length).length := by omega
    rw [F.ext i _ (List.getElem?_eq_getElem hi'), ← t0 i hi, List.getElem?_eq_getElem hi']
  -- the new naming
  have tl : ∀ i, i < σ.length → (σ ++ σ1.drop H0.length)[i]? = σ[i]? := fun i hi => List.getElem?_append_left hi
  have tr : ∀ i, H0.length ≤ i → (σ ++ σ1.drop H0.length)[i + Hr.length]? = σ1[i]? := fun i hi => by
    rw [List.getElem?_append_right (by omega), List.getElem?_drop]
    congr 1; omega
  have u : Up H0.length Hr.length σ1 (σ ++ σ1.drop H0.length) := fun i b hb => by
    by_cases hi : i < H0.length
    · rw [if_pos hi, tl i (by omega), ← x1 i hi]; exact hb
    · rw [if_neg hi, tr i (by omega)]; exact hb
  have hlenT : (H1.take H0.length).length = H0.length := by simp; omega
  have q0 : ∀ i, i < H0.length → getB (frameH H0 Hr H1) i = upB H0.length Hr.length (getB H1 i) := fun i hi => by
    unfold frameH
    rw [getB_append_left (by rw [upH_length, hlenT]; exact hi), upH_get, getB_take _ _ _ hi]
  have qr : ∀ i, H0.length ≤ i → i < H0.length + Hr.length → getB (frameH H0 Hr H1) i = getB Hr (i - H0.length) := fun i h1 h2 => by
    unfold frameH
    rw [getB_append_right (by rw [upH_length, hlenT]; exact h1), upH_length, hlenT, getB_append_left (by omega)]
  have qn : ∀ i, H0.length ≤ i → getB (frameH H0 Hr H1) (i + Hr.length) = upB H0.length Hr.length (getB H1 i) := fun i h1 => by
    unfold frameH
    rw [getB_append_right (by rw [upH_length, hlenT]; omega), upH_length, hlenT, getB_append_right (by omega), upH_get, getB_drop]
    congr 2; omega
  have hold : ∀ b, b < w.heap.size → (∀ i z, (getB H0 i).rw = true → σ[i]? ≠ some (b, z)) → w'.heap[b]? = w.heap[b]? := fun b hb hno => F.old b hb fun i z hr hi => by
    exact hno i z hr (e0 i _ hi)
  -- a block besides: it stands apart from what was written
  have apart : ∀ i b z, H0.length ≤ i → σ[i]? = some (b, z) → (getB Hr (i - H0.length)).live = true → b < w.heap.size ∧ (∀ j z', (getB H0 j).rw = true → σ[j]? ≠ some (b, z')) := fun i b z hi hb hlv => by
    have hlv' : (getB (H0 ++ Hr) i).live = true := by rw [gr i hi]; exact hlv
    refine ⟨s.lt hb hlv', fun j z' hr hj => ?_⟩
    have hjl : j < H0.length := by
      rcases Nat.lt_or_ge j H0.length with h' | h'
      · exact h'
      · rw [getB_none h'] at hr; cases hr
    have := s.inj j i b z' z hj hb (by rw [g0 j hjl]; exact hr) hlv'
    omega
  have low1 : ∀ i b z, σ1[i]? = some (b, z) → H0.length ≤ i → w.heap.size ≤ b ∨ ∃ j z', j < H0.length ∧ (getB H0 j).rw = true ∧ σ[j]? = some (b, z') := fun i b z hb hi => by
    rcases F.new i b z hb (List.getElem?_eq_none (by omega)) with h' | ⟨j, z', hj, hj'⟩
    · exact .inl h'
    · exact .inr ⟨j, z', l0 hj', hj, e0 j _ hj'⟩
  -- a place in the new naming comes from a place of the call's or from one besides
  have place : ∀ i b z, (σ ++ σ1.drop H0.length)[i]? = some (b, z) → (∃ i1, (i = if i1 < H0.length then i1 else i1 + Hr.length) ∧ σ1[i1]? = some (b, z) ∧ getB (frameH H0 Hr H1) i = upB H0.length Hr.length (getB H1 i1)) ∨
      (H0.length ≤ i ∧ i < H0.length + Hr.length ∧ σ[i]? = some (b, z) ∧ getB (frameH H0 Hr H1) i = getB Hr (i - H0.length)) := fun i b z hb => by
    rcases Nat.lt_or_ge i H0.length with h1 | h1
    · exact .inl ⟨i, by rw [if_pos h1], by rw [x1 i h1, ← tl i (by omega)]; exact hb, q0 i h1⟩
    · rcases Nat.lt_or_ge i (H0.length + Hr.length) with h2 | h2
      · exact .inr ⟨h1, h2, by rw [← tl i (by omega)]; exact hb, qr i h1 h2⟩
      · have hi : i = (i - Hr.length) + Hr.length := by omega
        refine .inl ⟨i - Hr.length, by rw [if_neg (by omega)]; exact hi, ?_, ?_⟩
        · rw [← tr _ (by omega), ← hi]; exact hb
        · rw [hi, qn _ (by omega), ← hi]
  refine ⟨rv, rfl, σ ++ σ1.drop H0.length, upV_rel u r1, sim_fr s ?_ (fun i b z hb => ?_) (fun i j b z z' hi hj hr hlv => ?_) ⟨F.os, F.tape, F.output, F.size, fun b hb hno => ?_, Ext.append _ _, fun i b z hb hn => ?_, fun i hi hr => ?_⟩⟩
  · simp only [frameH, List.length_append, upH_length, List.length_drop, hlenT, hσl, s1.len]; omega
  · rcases place i b z hb with ⟨i1, _, h1, h2⟩ | ⟨h1, h2, h3, h4⟩
    · rw [h2]; exact upB_blk u (s1.blk i1 b z h1)
    · rw [h4]
      have hbl := s.blk i b z h3
      rw [gr i h1] at hbl
      cases hg : getB Hr (i - H0.length) with
      | dead => trivial
      | cells r A =>
        rw [hg] at hbl
        obtain ⟨p1, p2⟩ := apart i b z h1 h3 (by rw [hg]; rfl)
        rw [hold b p1 p2]
        exact hbl.mono (Ext.append _ _)
      | code o0 xs0 =>
        rw [hg] at hbl
        obtain ⟨p1, p2⟩ := apart i b z h1 h3 (by rw [hg]; rfl)
        rw [hold b p1 p2]
        exact hbl.mono (Ext.append _ _)
  · rcases place i b z hi with ⟨i1, a1, a2, a3⟩ | ⟨a1, a2, a3, a4⟩ <;> rcases place j b z' hj with ⟨j1, b1, b2, b3⟩ | ⟨b1, b2, b3, b4⟩
    · rw [a3, (upB_rw _ _ _).1] at hr
      rw [b3, (upB_rw _ _ _).2] at hlv
      have := s1.inj i1 j1 b z z' a2 b2 hr hlv
      rw [a1, b1, this]
    · exfalso
      rw [b4] at hlv
      obtain ⟨p1, p2⟩ := apart j b z' b1 b3 hlv
      rw [a3, (upB_rw _ _ _).1] at hr
      rcases Nat.lt_or_ge i1 H0.length with hi1 | hi1
      · have := F.mono i1 (by omega) hr
        exact p2 i1 z this (by rw [← x1 i1 hi1]; exact a2)
      · rcases low1 i1 b z a2 hi1 with h' | ⟨j', z2, _, h1, h2⟩
        · omega
        · exact p2 j' z2 h1 h2
    · exfalso
      rw [a4] at hr
      obtain ⟨p1, p2⟩ := apart i b z a1 a3 (rw_live hr)
      have hri : (getB (H0 ++ Hr) i).rw = true := by rw [gr i a1]; exact hr
      rcases Nat.lt_or_ge j1 H0.length with hj1 | hj1
      · have hlj : (getB H0 j1).live = true := allLive_get hl j1 hj1
        have := s.inj i j1 b z z' a3 (by rw [← x1 j1 hj1]; exact b2) hri (by rw [g0 j1 hj1]; exact hlj)
        omega
      · rcases low1 j1 b z' b2 hj1 with h' | ⟨j', z2, _, h1, h2⟩
        · omega
        · exact p2 j' z2 h1 h2
    · rw [a4] at hr
      rw [b4] at hlv
      exact s.inj i j b z z' a3 b3 (by rw [gr i a1]; exact hr) (by rw [gr j b1]; exact hlv)
  · exact hold b hb fun i z hr hi => by
      have hil : i < H0.length := by
        rcases Nat.lt_or_ge i H0.length with h' | h'
        · exact h'
        · rw [getB_none h'] at hr; cases hr
      exact hno i z (by rw [g0 i hil]; exact hr) hi
  · have hge : σ.length ≤ i := by
      rcases Nat.lt_or_ge i σ.length with h' | h'
      · rw [List.getElem?_eq_getElem h'] at hn; cases hn
      · exact h'
    rcases place i b z hb with ⟨i1, a1, a2, _⟩ | ⟨a1, a2, _, _⟩
    · have hi1 : H0.length ≤ i1 := by
        rcases Nat.lt_or_ge i1 H0.length with h' | h'
        · rw [if_pos h'] at a1; omega
        · exact h'
      rcases low1 i1 b z a2 hi1 with h' | ⟨j, z2, hj0, h1, h2⟩
      · exact .inl h'
      · exact .inr ⟨j, z2, by rw [g0 j hj0]; exact h1, h2⟩
    · omega
  · rcases Nat.lt_or_ge i H0.length with h1 | h1
    · rw [q0 i h1, (upB_rw _ _ _).1] at hr
      rw [g0 i h1]
      exact F.mono i (by omega) hr
    · rw [qr i h1 (by omega)] at hr
      rw [gr i h1]; exact hr
end Go.Ax

/- What is known of a call that reads some blocks holds in every memory that has these blocks somewhere. -/
namespace Go.Ax
open Go

mutual
/-- Names turned. -/
def mapV (g : Nat → Nat) : AV → AV
  | .p l id off => .p l (g id) off
  | .sl l id off len z => .sl l (g id) off len z
  | .fn h f c => .fn h (mapL g f) (mapL g c)
  | .ifc t v => .ifc t (mapV g v)
  | .agg l => .agg (mapL g l)
  | .tup l => .tup (mapL g l)
  | v => v
def mapL (g : Nat → Nat) : List AV → List AV
  | [] => []
  | a :: l => mapV g a :: mapL g l
end
def mapB (g : Nat → Nat) : AB → AB
  | .cells rw (.lit l) => .cells rw (.lit (mapL g l))
  | b => b
theorem mapL_map (g : Nat → Nat) : ∀ (l : List AV), mapL g l = l.map (mapV g)
  | [] => rfl
  | a :: l => by simp [mapL, mapL_map g l]
theorem mapB_rw (g : Nat → Nat) (B : AB) : (mapB g B).rw = B.rw ∧ (mapB g B).live = B.live := by
  cases B with
  | dead => exact ⟨rfl, rfl⟩
  | cells r A => cases A <;> exact ⟨rfl, rfl⟩
  | code _ _ => exact ⟨rfl, rfl⟩
section
variable {σ τ : List (Nat × Nat)} {g : Nat → Nat}
def Via (g : Nat → Nat) (σ τ : List (Nat × Nat)) : Prop := ∀ (i : Nat) (b : Nat × Nat), σ[i]? = some b → τ[g i]? = some b
mutual
theorem mapV_rel (u : Via g σ τ) : ∀ {a : AV} {v : Value}, Rel σ a v → Rel τ (mapV g a) v
  | _, _, .b x => .b x
  | _, _, .i k n => .i k n
  | _, _, .f h => .f h
  | _, _, .c h h' => .c h h'
  | _, _, .s l => .s l
  | _, _, .p h => .p (u _ _ h)
  | _, _, .pnil => .pnil
  | _, _, .sl h hc hz => .sl (u _ _ h) hc hz
  | _, _, .slz => .slz
  | _, _, .slnil => .slnil
  | _, _, .sle => .sle
  | _, _, .fn h h' => .fn (mapL_rel u h) (mapL_rel u h')
  | _, _, .fnil => .fnil
  | _, _, .ifc h => .ifc (mapV_rel u h)
  | _, _, .inil => .inil
  | _, _, .agg h => .agg (mapL_rel u h)
  | _, _, .tup h => .tup (mapL_rel u h)
  | _, _, .any => .any
theorem mapL_rel (u : Via g σ τ) : ∀ {a : List AV} {v : List Value}, RelL σ a v → RelL τ (mapL g a) v
  | _, _, .nil => .nil
  | _, _, .cons h hs => .cons (mapV_rel u h) (mapL_rel u hs)
end
/-- Values that name no block, pointers and slices: read back. -/
def plainV (n : Nat) : AV → Bool
  | .p _ id _ => decide (id < n)
  | .sl _ id _ _ _ => decide (id < n)
  | a => below 0 a
theorem below_free {σ τ : List (Nat × Nat)} {a : AV} {v : Value} (h : below 0 a = true) (r : Rel τ a v) : Rel σ a v := (below_rel (σ := []) (n := 0) (τ := τ) (fun i b hb => by simp at hb) rfl h r).mono fun i b hb => by simp at hb
mutual
theorem mapV_low (g : Nat → Nat) : ∀ {a : AV}, below 0 a = true → mapV g a = a
  | .b _ _, _ => rfl
  | .i _ _ _, _ => rfl
  | .f _ _ _, _ => rfl
  | .c _ _ _ _, _ => rfl
  | .s _ _, _ => rfl
  | .p _ id _, h => by simp [below] at h
  | .pnil, _ => rfl
  | .sl _ id _ _ _, h => by simp [below] at h
  | .slnil, _ => rfl
  | .sle, _ => rfl
  | .fn _ f c, h => by
    simp only [below, Bool.and_eq_true] at h
    simp only [mapV, mapL_low g h.1, mapL_low g h.2]
  | .fnil, _ => rfl
  | .ifc _ v, h => by
    simp only [below] at h
    simp only [mapV, mapV_low g h]
  | .inil, _ => rfl
  | .agg l, h => by
    simp only [below] at h
    simp only [mapV, mapL_low g h]
  | .tup l, h => by
    simp only [below] at h
    simp only [mapV, mapL_low g h]
  | .any, _ => rfl
theorem mapL_low (g : Nat → Nat) : ∀ {l : List AV}, belowL 0 l = true → mapL g l = l
  | [], _ => rfl
  | a :: l, h => by
    simp only [belowL, Bool.and_eq_true] at h
    simp only [mapL, mapV_low g h.1, mapL_low g h.2]
end
theorem mapV_back {n : Nat} (u : ∀ i, i < n → σ[i]? = τ[g i]?) {a : AV} {v : Value} (h : plainV n a = true) (r : Rel τ (mapV g a) v) : Rel σ a v := by
  cases a
  case p l id off =>
    simp only [plainV, decide_eq_true_eq] at h
    cases r with | p hr => exact .p (by rw [u id h]; exact hr)
  case sl l id off len z =>
    simp only [plainV, decide_eq_true_eq] at h
    cases r with
    | sl hr hc hz => exact .sl (by rw [u id h]; exact hr) hc hz
    | slz => exact .slz
  all_goals
    rw [mapV_low g h] at r
    exact below_free h r
theorem mapL_back {n : Nat} (u : ∀ i, i < n → σ[i]? = τ[g i]?) : ∀ {a : List AV} {v : List Value}, a.all (plainV n) = true → RelL τ (mapL g a) v → RelL σ a v
  | [], _, _, r => by cases r; exact .nil
  | a :: l, _, h, r => by
    simp only [List.all_cons, Bool.and_eq_true] at h
    simp only [mapL] at r
    cases r with | cons h1 h2 => exact .cons (mapV_back u h.1 h1) (mapL_back u h.2 h2)
theorem mapB_blk (u : Via g σ τ) {z : Nat} {B : AB} {o : Option Obj} (h : BlkRel σ z B o) : BlkRel τ z (mapB g B) o := by
  cases B with
  | dead => trivial
  | code _ _ => exact h
  | cells r A =>
    obtain ⟨c, e, fr, h1, h2, h3⟩ := h
    have key : RelA τ (match A with | .lit l => mapL g l | A => A.toL) c := by
      cases A
      case lit l =>
        intro j a ha
        dsimp only at ha
        rw [mapL_map, List.getElem?_map, Option.map_eq_some_iff] at ha
        obtain ⟨x, hx, rfl⟩ := ha
        obtain ⟨v, hv, hr⟩ := h2 j x hx
        exact ⟨v, hv, mapV_rel u hr⟩
      all_goals
        intro j a ha
        obtain ⟨v, hv, hr⟩ := h2 j a ha
        refine ⟨v, hv, below_free ?_ hr⟩
        simp only [Cells.toL, List.getElem?_map, Option.map_eq_some_iff] at ha
        obtain ⟨y, _, rfl⟩ := ha
        rfl
    cases A <;> exact ⟨c, e, fr, h1, key, h3⟩
end
/-- The name of a block among others: the ones that are read, and new ones. -/
def pickI (k r : Nat) (ids : List Nat) (i : Nat) : Nat :=
  match decide (i < k) with
  | true => ids.getD i 0
  | false => i - k + r
theorem pickI_lt {k r i : Nat} {ids : List Nat} (h : i < k) : pickI k r ids i = ids.getD i 0 := by simp [pickI, h]
theorem pickI_ge {k r i : Nat} {ids : List Nat} (h : k ≤ i) : pickI k r ids i = i - k + r := by simp [pickI, Nat.not_lt.2 h]
theorem getB_map (f : AB → AB) (hf : f .dead = .dead) : ∀ (l : List AB) (i : Nat), getB (l.map f) i = f (getB l i)
  | [], _ => hf.symm
  | _ :: _, 0 => rfl
  | _ :: l, i + 1 => getB_map f hf l i
variable {P : Program}
theorem CallOK.pick {f : FuncId} {args : List AV} {v : AV} {H0 H1 : List AB} (h : CallOK P f args H0 v H1) (hro : ∀ i, (getB H0 i).rw = false) (ha : args.all (plainV H0.length) = true) (ids : List Nat) (hid : ids.length = H0.length) (H : List AB)
    (hb : ∀ i, i < H0.length → ids.getD i 0 < H.length ∧ ∀ (σ τ : List (Nat × Nat)) (z : Nat) (o : Option Obj), BlkRel σ z (getB H (ids.getD i 0)) o → BlkRel τ z (getB H0 i) o) :
    CallOK P f (mapL (pickI H0.length H.length ids) args) H (mapV (pickI H0.length H.length ids) v) (H ++ (H1.drop H0.length).map (mapB (pickI H0.length H.length ids))) := fun σ w rargs s hra => by
  have hσl := s.len
  let σ0 := ids.map fun j => σ.getD j (0, 0)
  have hσ0 : σ0.length = H0.length := by simp [σ0, hid]
  have u0 : ∀ i, i < H0.length → σ0[i]? = σ[pickI H0.length H.length ids i]? := fun i hi => by
    rw [pickI_lt hi]
    have hlt := (hb i hi).1
    have hi' : i < ids.length := by omega
    simp only [σ0, List.getElem?_map, List.getElem?_eq_getElem hi', Option.map_some, List.getD_eq_getElem?_getD, Option.getD_some]
    rw [List.getD_eq_getElem?_getD, List.getElem?_eq_getElem hi', Option.getD_some] at hlt
    rw [List.getElem?_eq_getElem (by omega), Option.getD_some]
  have s0 : Sim σ0 H0 w := by
    refine ⟨hσ0, fun i b z hbz => ?_, fun i j b z z' hi hj hr _ => (by rw [hro] at hr; cases hr), fun g hg => ⟨(s.base g hg).1, fun i z _ => hro i⟩⟩
    have hi : i < H0.length := by have := isSome_lt hbz; omega
    rw [u0 i hi, pickI_lt hi] at hbz
    exact (hb i hi).2 _ _ _ _ (s.blk _ _ _ hbz)
  refine (h σ0 w rargs s0 (mapL_back u0 ha hra)).mono ?_
  rintro e w' ⟨rv, rfl, σ1, r1, s1, F⟩
  have hold : ∀ b, b < w.heap.size → w'.heap[b]? = w.heap[b]? := fun b hb => F.old b hb fun i z hr => by rw [hro] at hr; cases hr
  have hk1 : H0.length ≤ σ1.length := by have := F.ext.length; omega
  have hl1 := s1.len
  have x1 : ∀ i, i < H0.length → σ1[i]? = σ0[i]? := fun i hi => by
    have hi' : i < σ0.length := by omega
    rw [F.ext i _ (List.getElem?_eq_getElem hi'), List.getElem?_eq_getElem hi']
  have tl : ∀ i, i < σ.length → (σ ++ σ1.drop H0.length)[i]? = σ[i]? := fun i hi => List.getElem?_append_left hi
  have tr : ∀ i, σ.length ≤ i → (σ ++ σ1.drop H0.length)[i]? = σ1[H0.length + (i - σ.length)]? := fun i hi => by
    rw [List.getElem?_append_right hi, List.getElem?_drop]
  have u : Via (pickI H0.length H.length ids) σ1 (σ ++ σ1.drop H0.length) := fun i b hbz => by
    by_cases hi : i < H0.length
    · have hlt := (hb i hi).1
      have e1 := u0 i hi
      rw [pickI_lt hi] at e1 ⊢
      rw [tl _ (by omega), ← e1, ← x1 i hi]; exact hbz
    · rw [pickI_ge (by omega), tr _ (by omega)]
      have : H0.length + (i - H0.length + H.length - σ.length) = i := by omega
      rw [this]; exact hbz
  have ge : ∀ i b z, H0.length ≤ i → σ1[i]? = some (b, z) → w.heap.size ≤ b := fun i b z hi hbz => by
    rcases F.new i b z hbz (List.getElem?_eq_none (by omega)) with h' | ⟨j, z', hj, _⟩
    · exact h'
    · rw [hro] at hj; cases hj
  have gl : ∀ i, i < H.length → getB (H ++ (H1.drop H0.length).map (mapB (pickI H0.length H.length ids))) i = getB H i := fun i hi => getB_append_left hi
  have gr : ∀ i, H.length ≤ i → getB (H ++ (H1.drop H0.length).map (mapB (pickI H0.length H.length ids))) i = mapB (pickI H0.length H.length ids) (getB H1 (H0.length + (i - σ.length))) := fun i hi => by
    rw [getB_append_right hi, getB_map _ rfl, getB_drop, hσl]
  refine ⟨_, rfl, σ ++ σ1.drop H0.length, mapV_rel u r1, sim_fr s ?_ (fun i b z hbz => ?_) (fun i j b z z' hi hj hri hlj => ?_) ⟨F.os, F.tape, F.output, F.size, fun b hlt _ => hold b hlt, Ext.append _ _, fun i b z hbz hn => ?_, fun i hi hr => ?_⟩⟩
  · simp; omega
  · by_cases hi : i < σ.length
    · rw [tl i hi] at hbz
      rw [gl i (by omega)]
      have hbl := (s.blk i b z hbz).mono (Ext.append σ (σ1.drop H0.length))
      cases hg : getB H i with
      | dead => trivial
      | cells r A =>
        rw [hold b (s.lt hbz (by rw [hg]; rfl)), ← hg]; exact hbl
      | code o xs =>
        rw [hold b (s.lt hbz (by rw [hg]; rfl)), ← hg]; exact hbl
    · rw [tr i (by omega)] at hbz
      rw [gr i (by omega)]
      exact mapB_blk u (s1.blk _ b z hbz)
  · by_cases hi' : i < σ.length
    · rw [tl i hi'] at hi
      rw [gl i (by omega)] at hri
      by_cases hj' : j < σ.length
      · rw [tl j hj'] at hj
        rw [gl j (by omega)] at hlj
        exact s.inj i j b z z' hi hj hri hlj
      · rw [tr j (by omega)] at hj
        have h1 := s.lt hi (rw_live hri)
        have h2 := ge _ _ _ (by omega) hj
        omega
    · rw [tr i (by omega)] at hi
      by_cases hj' : j < σ.length
      · rw [tl j hj'] at hj
        rw [gl j (by omega)] at hlj
        have h1 := s.lt hj hlj
        have h2 := ge _ _ _ (by omega) hi
        omega
      · rw [tr j (by omega)] at hj
        rw [gr i (by omega), (mapB_rw _ _).1] at hri
        rw [gr j (by omega), (mapB_rw _ _).2] at hlj
        have := s1.inj _ _ b z z' hi hj hri hlj
        omega
  · have hi : ¬ i < σ.length := fun hi => by
      rw [List.getElem?_eq_getElem hi] at hn; cases hn
    rw [tr i (by omega)] at hbz
    exact .inl (ge _ _ _ (by omega) hbz)
  · rwa [gl i (by omega)] at hr
end Go.Ax
