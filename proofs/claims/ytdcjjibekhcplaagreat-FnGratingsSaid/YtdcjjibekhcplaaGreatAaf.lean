/- The same run, prepared: what hangs on the code alone is worked out once, and the kernel keeps it. -/
import Derived.Test.YtdcjjibekhcplaaGreatAae
namespace Go.Ax
open Go

/-- A function behind a constructor: what is closed is worked out once. -/
inductive CF (α : Type) where
  | mk (f : α)
noncomputable def CF.app {α : Type} (c : CF α) : α := CF.rec (motive := fun _ => α) (fun f => f) c

/-! ### Numbers -/
def ikIx : IntKind → Nat
  | .i8 => 0 | .i16 => 1 | .i32 => 2 | .i64 => 3 | .u8 => 4 | .u16 => 5 | .u32 => 6 | .u64 => 7
def fkIx : FloatKind → Nat
  | .f32 => 0 | .f64 => 1
theorem ikIx_inj {k k' : IntKind} (h : Nat.beq (ikIx k) (ikIx k') = true) : k = k' := by cases k <;> cases k' <;> first | rfl | cases h
theorem fkIx_inj {k k' : FloatKind} (h : Nat.beq (fkIx k) (fkIx k') = true) : k = k' := by cases k <;> cases k' <;> first | rfl | cases h
def topK : IntKind → Nat
  | .i8 => 127 | .i16 => 32767 | .i32 => 2147483647 | .i64 => 9223372036854775807 | .u8 => 255 | .u16 => 65535 | .u32 => 4294967295 | .u64 => 18446744073709551615
def wrapL (k : IntKind) (n : Int) : Int :=
  match n with
  | .ofNat m => match Nat.ble m (topK k) with
    | true => .ofNat m
    | false => k.wrap (.ofNat m)
  | .negSucc m => k.wrap (.negSucc m)
theorem wrapL_eq (k : IntKind) (n : Int) : wrapL k n = k.wrap n := by
  unfold wrapL
  split
  · rename_i m
    split
    · rename_i h
      have h := Nat.le_of_ble_eq_true h
      cases k <;> simp only [topK] at h <;> simp [IntKind.wrap, IntKind.bits, IntKind.signed] <;> omega
    · rfl
  · rfl
def wrapQ (l : Bool) (k : IntKind) (n : Int) : Int :=
  match l with
  | true => wrapL k n
  | false => k.wrap n
theorem wrapQ_eq (l : Bool) (k : IntKind) (n : Int) : wrapQ l k n = k.wrap n := by cases l <;> simp [wrapQ, wrapL_eq]
def ltL (a b : Int) : Bool :=
  match a, b with
  | .ofNat x, .ofNat y => Nat.blt x y
  | a, b => decide (a < b)
theorem ltL_eq (a b : Int) : ltL a b = decide (a < b) := by
  unfold ltL
  split
  · rename_i x y
    have : Nat.blt x y = decide (x < y) := by
      unfold Nat.blt
      rw [Bool.eq_iff_iff, Nat.ble_eq]; simp; omega
    rw [this]; simp
  · rfl
def eqL (a b : Int) : Bool :=
  match a, b with
  | .ofNat x, .ofNat y => Nat.beq x y
  | a, b => a == b
theorem eqL_eq (a b : Int) : eqL a b = (a == b) := by
  unfold eqL
  split
  · rename_i x y
    rw [Bool.eq_iff_iff, Nat.beq_eq]; simp; omega
  · rfl
def ltQ (l : Bool) (a b : Int) : Bool :=
  match l with
  | true => ltL a b
  | false => decide (a < b)
def leQ (l : Bool) (a b : Int) : Bool :=
  match l with
  | true => !(ltL b a)
  | false => decide (a ≤ b)
def eqQ (l : Bool) (a b : Int) : Bool :=
  match l with
  | true => eqL a b
  | false => a == b
theorem ltQ_eq (l : Bool) (a b : Int) : ltQ l a b = decide (a < b) := by cases l <;> simp [ltQ, ltL_eq]
theorem leQ_eq (l : Bool) (a b : Int) : leQ l a b = decide (a ≤ b) := by
  cases l
  · rfl
  · simp only [leQ, ltL_eq]
    by_cases h : b < a
    · simp [h]
    · simp [h]; omega
theorem eqQ_eq (l : Bool) (a b : Int) : eqQ l a b = (a == b) := by cases l <;> simp [eqQ, eqL_eq]

/-! ### Operands and two-place operations -/
noncomputable def cOpd : Operand → CF (Tm → AV)
  | .tmp n => .mk fun t => gt t n
  | .const v => .mk fun _ => (ofV v).getD (.tup [])
  | .global _ => .mk fun _ => .tup []
  | .func f => .mk fun _ => .fn f [] []
theorem cOpd_eq (o : Operand) (t : Tm) : (cOpd o).app t = evB t o := by cases o <;> rfl

abbrev OA := Option (AV × List Bool)
/-- Two whole numbers of one kind, two floats of one kind, or something else. -/
def bothI (x y : AV) (g : Bool → IntKind → Int → Int → OA) (d : OA) : OA :=
  match x with
  | .i l k a => match y with
    | .i m k' b => match Nat.beq (ikIx k) (ikIx k') with
      | true => g (l && m) k a b
      | false => d
    | _ => d
  | _ => d
def bothF (x y : AV) (g : Bool → FloatKind → Nat → Nat → OA) (d : OA) : OA :=
  match x with
  | .f l k a => match y with
    | .f m k' b => match Nat.beq (fkIx k) (fkIx k') with
      | true => g (l && m) k a b
      | false => d
    | _ => d
  | _ => d
theorem bothI_eq {x y : AV} {g : Bool → IntKind → Int → Int → OA} {d e : OA} (h : ∀ l m k a b, x = .i l k a → y = .i m k b → g (l && m) k a b = e) (hd : d = e) : bothI x y g d = e := by
  subst hd
  unfold bothI
  split
  · split
    · split
      · rename_i l k a m k' b hk
        have := ikIx_inj hk
        subst this
        exact h _ _ _ _ _ rfl rfl
      · rfl
    · rfl
  · rfl
theorem bothF_eq {x y : AV} {g : Bool → FloatKind → Nat → Nat → OA} {d e : OA} (h : ∀ l m k a b, x = .f l k a → y = .f m k b → g (l && m) k a b = e) (hd : d = e) : bothF x y g d = e := by
  subst hd
  unfold bothF
  split
  · split
    · split
      · rename_i l k a m k' b hk
        have := fkIx_inj hk
        subst this
        exact h _ _ _ _ _ rfl rfl
      · rfl
    · rfl
  · rfl
def nz (m : Bool) (b : Int) (v : OA) (d : OA) : OA :=
  match m with
  | true => match eqL b 0 with
    | true => d
    | false => v
  | false => d
noncomputable def cBin (P : Program) (op : BinOp) (ty : TypeId) : CF (AV → AV → OA) :=
  match op with
  | .add => .mk fun x y => bothI x y (fun l k a b => some (.i l k (wrapQ l k (a + b)), [])) (bothF x y (fun l k a b => some (.f l k (fadd k a b), [])) (aBin P .add ty x y))
  | .sub => .mk fun x y => bothI x y (fun l k a b => some (.i l k (wrapQ l k (a - b)), [])) (bothF x y (fun l k a b => some (.f l k (fsub k a b), [])) (aBin P .sub ty x y))
  | .mul => .mk fun x y => bothI x y (fun l k a b => some (.i l k (wrapQ l k (a * b)), [])) (bothF x y (fun l k a b => some (.f l k (fmul k a b), [])) (aBin P .mul ty x y))
  | .eql => .mk fun x y => bothI x y (fun l _ a b => some (.b l (eqQ l a b), [])) (bothF x y (fun l k a b => some (.b l (feq k a b), [])) (aBin P .eql ty x y))
  | .neq => .mk fun x y => bothI x y (fun l _ a b => some (.b l (!eqQ l a b), [])) (bothF x y (fun l k a b => some (.b l (!feq k a b), [])) (aBin P .neq ty x y))
  | .lss => .mk fun x y => bothI x y (fun l _ a b => some (.b l (ltQ l a b), [])) (bothF x y (fun l k a b => some (.b l (flt k a b), [])) (aBin P .lss ty x y))
  | .leq => .mk fun x y => bothI x y (fun l _ a b => some (.b l (leQ l a b), [])) (aBin P .leq ty x y)
  | .gtr => .mk fun x y => bothI x y (fun l _ a b => some (.b l (ltQ l b a), [])) (aBin P .gtr ty x y)
  | .geq => .mk fun x y => bothI x y (fun l _ a b => some (.b l (leQ l b a), [])) (aBin P .geq ty x y)
  | .quo => .mk fun x y => bothI x y (fun l k a b => nz l b (some (.i l k (wrapQ l k (a.tdiv b)), [])) (aBin P .quo ty x y)) (bothF x y (fun l k a b => some (.f l k (fdiv k a b), [])) (aBin P .quo ty x y))
  | .rem => .mk fun x y => bothI x y (fun l k a b => nz l b (some (.i l k (a.tmod b), [])) (aBin P .rem ty x y)) (aBin P .rem ty x y)
  | op => .mk fun x y => aBin P op ty x y
theorem nz_eq {m : Bool} {b : Int} {v d e : OA} (h : m = true → (b == 0) = false → v = e) (hd : d = e) : nz m b v d = e := by
  unfold nz
  split
  · rw [eqL_eq]
    split
    · exact hd
    · rename_i h'; exact h rfl h'
  · exact hd
theorem cBin_eq (P : Program) (op : BinOp) (ty : TypeId) (x y : AV) : (cBin P op ty).app x y = aBin P op ty x y := by
  cases op <;> dsimp only [cBin, CF.app]
  case add =>
    refine bothI_eq (fun l m k a b hx hy => ?_) (bothF_eq (fun l m k a b hx hy => ?_) rfl) <;> subst hx <;> subst hy <;> simp [aBin, aInt, aFlt, wrapQ_eq]
  case sub =>
    refine bothI_eq (fun l m k a b hx hy => ?_) (bothF_eq (fun l m k a b hx hy => ?_) rfl) <;> subst hx <;> subst hy <;> simp [aBin, aInt, aFlt, wrapQ_eq]
  case mul =>
    refine bothI_eq (fun l m k a b hx hy => ?_) (bothF_eq (fun l m k a b hx hy => ?_) rfl) <;> subst hx <;> subst hy <;> simp [aBin, aInt, aFlt, wrapQ_eq]
  case eql =>
    refine bothI_eq (fun l m k a b hx hy => ?_) (bothF_eq (fun l m k a b hx hy => ?_) rfl) <;> subst hx <;> subst hy <;> simp [aBin, aInt, aFlt, eqQ_eq]
  case neq =>
    refine bothI_eq (fun l m k a b hx hy => ?_) (bothF_eq (fun l m k a b hx hy => ?_) rfl) <;> subst hx <;> subst hy <;> simp [aBin, aInt, aFlt, eqQ_eq]
  case lss =>
    refine bothI_eq (fun l m k a b hx hy => ?_) (bothF_eq (fun l m k a b hx hy => ?_) rfl) <;> subst hx <;> subst hy <;> simp [aBin, aInt, aFlt, ltQ_eq]
  case leq =>
    refine bothI_eq (fun l m k a b hx hy => ?_) rfl; subst hx; subst hy; simp [aBin, aInt, leQ_eq]
  case gtr =>
    refine bothI_eq (fun l m k a b hx hy => ?_) rfl; subst hx; subst hy; simp [aBin, aInt, ltQ_eq]
  case geq =>
    refine bothI_eq (fun l m k a b hx hy => ?_) rfl; subst hx; subst hy; simp [aBin, aInt, leQ_eq]
  case quo =>
    refine bothI_eq (fun l m k a b hx hy => nz_eq (fun hm hb => ?_) rfl) (bothF_eq (fun l m k a b hx hy => ?_) rfl) <;> subst hx <;> subst hy
    · simp only [Bool.and_eq_true] at hm
      obtain ⟨rfl, rfl⟩ := hm
      simp [aBin, aInt, wrapQ_eq, chk, hb, withN]
    · simp [aBin, aFlt]
  case rem =>
    refine bothI_eq (fun l m k a b hx hy => nz_eq (fun hm hb => ?_) rfl) rfl; subst hx; subst hy
    simp only [Bool.and_eq_true] at hm
    obtain ⟨rfl, rfl⟩ := hm
    simp [aBin, aInt, chk, hb, withN]
  all_goals rfl

/-! ### Memory -/
noncomputable def nthR (l : List AV) : Nat → Option AV := List.rec (motive := fun _ => Nat → Option AV) (fun _ => none) (fun a _ ih n => Nat.rec (motive := fun _ => Option AV) (some a) (fun m _ => ih m) n) l
noncomputable def setR (l : List AV) : Nat → AV → List AV := List.rec (motive := fun _ => Nat → AV → List AV) (fun _ _ => []) (fun a l ih n v => Nat.rec (motive := fun _ => List AV) (v :: l) (fun m _ => a :: ih m v) n) l
theorem nthR_eq : ∀ (l : List AV) (n : Nat), nthR l n = l[n]?
  | [], _ => rfl
  | _ :: _, 0 => rfl
  | a :: l, n + 1 => by
    show nthR l n = _
    rw [nthR_eq l n]; simp
theorem setR_eq : ∀ (l : List AV) (n : Nat) (v : AV), setR l n v = setL l n v
  | [], _, _ => rfl
  | _ :: _, 0, _ => rfl
  | a :: l, n + 1, v => by
    show a :: setR l n v = a :: setL l n v
    rw [setR_eq l n v]
noncomputable def cLoad (P : Program) (ty : TypeId) : CF (AV → List AB → OA) :=
  match szA P ty, aggA P ty with
  | some _, some false => .mk fun v H => match v with
    | .p l id off => match l with
      | true => match getB H id with
        | .cells _ A => match A with
          | .lit L => match nthR L off with
            | some a => some (a, [])
            | none => aLoad P ty v H
          | _ => aLoad P ty v H
        | .dead => none
        | .code _ _ => aLoad P ty v H
      | false => aLoad P ty v H
    | _ => none
  | _, _ => .mk fun v H => aLoad P ty v H
theorem nthR_some {l : List AV} {n : Nat} {a : AV} (h : nthR l n = some a) : n < l.length ∧ getL l n = a := by
  rw [nthR_eq] at h
  have hn : n < l.length := (List.getElem?_eq_some_iff.1 h).1
  rw [getL_some hn] at h
  exact ⟨hn, by simpa using h⟩
theorem cLoad_eq (P : Program) (ty : TypeId) (v : AV) (H : List AB) : (cLoad P ty).app v H = aLoad P ty v H := by
  unfold cLoad
  cases hs : szA P ty with
  | none => rfl
  | some n => cases ha : aggA P ty with
    | none => rfl
    | some b => cases b with
      | true => rfl
      | false =>
        dsimp only [CF.app]
        cases v
        case p l id off =>
          cases l with
          | false => rfl
          | true =>
            dsimp only
            cases hg : getB H id with
            | dead => simp [aLoad, hg]
            | code o0 xs0 => rfl
            | cells r A =>
              cases A
              case lit L =>
                dsimp only
                cases hn : nthR L off with
                | none => rfl
                | some a =>
                  obtain ⟨h1, h2⟩ := nthR_some hn
                  simp [aLoad, hg, hs, ha, Cells.isLit, Cells.get, Cells.len, h1, h2, chk, withN]
              all_goals rfl
        all_goals rfl
noncomputable def cFieldAddr (P : Program) (ty : TypeId) (f : Nat) : CF (AV → OA) :=
  match P.underlying ty with
  | some (.struct fields) => match fields[f]? with
    | some fd => match szA P fd.type with
      | some (_ + 1) => .mk fun x => match x with
        | .p l id off => some (.p l id (off + fd.offset), [])
        | _ => none
      | _ => .mk fun x => just (aFieldAddr P ty x f)
    | none => .mk fun x => just (aFieldAddr P ty x f)
  | _ => .mk fun x => just (aFieldAddr P ty x f)
theorem cFieldAddr_eq (P : Program) (ty : TypeId) (f : Nat) (x : AV) : (cFieldAddr P ty f).app x = just (aFieldAddr P ty x f) := by
  unfold cFieldAddr
  cases hu : P.underlying ty with
  | none => rfl
  | some d => cases d
              case struct fields =>
                dsimp only
                cases hf : fields[f]? with
                | none => rfl
                | some fd =>
                  dsimp only
                  cases hs : szA P fd.type with
                  | none => rfl
                  | some n => cases n with
                    | zero => rfl
                    | succ n => dsimp only [CF.app]; cases x <;> simp [aFieldAddr, hu, hf, hs, just]
              all_goals rfl
noncomputable def cIndexAddr (P : Program) (ty : TypeId) : CF (AV → AV → OA) :=
  match P.underlying ty with
  | some (.array len e) => match szA P e with
    | some z => .mk fun x i => match x with
      | .p l id off => match i with
        | .i m _ n => match m with
          | true => match n with
            | .ofNat k => match Nat.blt k len with
              | true => some (.p (l && true) id (off + k * z), [])
              | false => none
            | .negSucc _ => none
          | false => aIndexAddr P ty x i
        | _ => none
      | _ => none
    | none => .mk fun x i => aIndexAddr P ty x i
  | some (.slice e) => match szA P e with
    | some z => .mk fun x i => match x with
      | .sl l id off len _ => match i with
        | .i m _ n => match l && m with
          | true => match n with
            | .ofNat k => match Nat.blt k len with
              | true => some (.p (l && m) id (off + k * z), [])
              | false => none
            | .negSucc _ => none
          | false => aIndexAddr P ty x i
        | _ => none
      | _ => none
    | none => .mk fun x i => aIndexAddr P ty x i
  | _ => .mk fun x i => aIndexAddr P ty x i
theorem blt_true {k n : Nat} (h : Nat.blt k n = true) : k < n := by
  unfold Nat.blt at h
  exact Nat.le_of_ble_eq_true h
theorem blt_false {k n : Nat} (h : Nat.blt k n = false) : ¬ k < n := fun h' => by
  have : Nat.blt k n = true := Nat.ble_eq_true_of_le h'
  rw [this] at h; cases h
theorem cIndexAddr_eq (P : Program) (ty : TypeId) (x i : AV) : (cIndexAddr P ty).app x i = aIndexAddr P ty x i := by
  unfold cIndexAddr
  cases hu : P.underlying ty with
  | none => rfl
  | some d =>
    cases d
    case array len e =>
      dsimp only
      cases hz : szA P e with
      | none => rfl
      | some z =>
        dsimp only [CF.app]
        cases x
        case p l id off =>
          cases i
          case i m k n =>
            cases m with
            | false => rfl
            | true =>
              cases n with
              | ofNat k =>
                dsimp only
                cases hb : Nat.blt k len with
                | true => have := blt_true hb; simp [aIndexAddr, hu, hz, chk, withN, this]
                | false => have := blt_false hb; simp [aIndexAddr, hu, hz, chk, withN, this]
              | negSucc k => simp [aIndexAddr, hu, hz, chk, withN]
          all_goals simp [aIndexAddr, hu]
        all_goals simp [aIndexAddr, hu]
    case slice e =>
      dsimp only
      cases hz : szA P e with
      | none => rfl
      | some z =>
        dsimp only [CF.app]
        cases x
        case sl l id off len w =>
          cases i
          case i m k n =>
            dsimp only
            cases hlm : l && m with
            | false => rfl
            | true =>
              cases n with
              | ofNat k =>
                dsimp only
                cases hb : Nat.blt k len with
                | true => have := blt_true hb; simp [aIndexAddr, hu, hz, chk, withN, this, hlm]
                | false => have := blt_false hb; simp [aIndexAddr, hu, hz, chk, withN, this, hlm]
              | negSucc k => simp [aIndexAddr, hu, hz, chk, withN, hlm]
          all_goals simp [aIndexAddr, hu]
        all_goals simp [aIndexAddr, hu]
    all_goals rfl

/-- A store into a row of literal length at a literal place. -/
noncomputable def cStore (P : Program) (ty : TypeId) : CF (AV → AV → List AB → Option (List AB)) :=
  match szA P ty with
  | some 1 => .mk fun a x H => match a with
    | .p l id off => match l with
      | true => match getB H id with
        | .cells r A => match r with
          | true => match A with
            | .lit L => match okCell x with
              | true => match nthR L off with
                | some _ => some (setB H id (.cells true (.lit (setR L off x))))
                | none => none
              | false => none
            | _ => none
          | false => none
        | _ => none
      | false => none
    | _ => none
  | _ => .mk fun _ _ _ => none
theorem okCell_cells {x : AV} (h : okCell x = true) : cellsA x = [x] := by cases x <;> first | rfl | cases h
theorem cStore_eq {P : Program} {ty : TypeId} {a x : AV} {H H' : List AB} (h : (cStore P ty).app a x H = some H') : aStore P ty a x H = some (.tup [], H', []) := by
  unfold cStore at h
  split at h
  case h_2 => cases h
  rename_i hs
  dsimp only [CF.app] at h
  split at h <;> (try (cases h; done))
  split at h <;> (try (cases h; done))
  split at h <;> (try (cases h; done))
  rename_i hg
  split at h <;> (try (cases h; done))
  split at h <;> (try (cases h; done))
  split at h <;> (try (cases h; done))
  rename_i hok
  split at h <;> cases h
  rename_i L _ _ _ hn
  obtain ⟨h1, _⟩ := nthR_some hn
  rw [setR_eq]
  unfold aStore
  simp only [hg, hs, Bool.true_or]
  have hc : ∀ off, off < L.length → (decide ((cellsA x).length = 1) && decide (off + 1 ≤ (Cells.lit L).len)) = true := fun off h => by
    rw [okCell_cells hok, Bool.and_eq_true]
    exact ⟨rfl, decide_eq_true (show off + 1 ≤ L.length from h)⟩
  rw [hc _ h1]
  simp [okCell_cells hok, Cells.put, Cells.set, allCell, hok, Cells.isLit, chk, consN]

/-! ### Operations -/
section
variable (P : Program) (T : Table)
abbrev KO := Tm → List AB → List Bool → KB → Res
def nil? : List Bool → Bool
  | [] => true
  | _ => false
/-- What a quiet operation hands on. -/
noncomputable def pass (d : Nat) (r : OA) (t : Tm) (H : List AB) (nd : List Bool) (K : KB) (slow : Res) : Res :=
  match r with
  | some z => match z with
    | (v, n) => match n with
      | [] => K (st t d v) H nd
      | b :: n => K (st t d v) H (b :: n ++ nd)
  | none => slow
noncomputable def cArgs : List Operand → CF (Tm → List AV)
  | [] => .mk fun _ => []
  | o :: l => match cOpd o, cArgs l with
    | .mk f, .mk g => .mk fun t => f t :: g t
theorem cArgs_eq : ∀ (l : List Operand) (t : Tm), (cArgs l).app t = l.map (evB t)
  | [], _ => rfl
  | o :: l, t => by
    have h1 := cOpd_eq o t
    have h2 := cArgs_eq l t
    unfold cArgs
    cases hf : cOpd o with
    | mk f => cases hg : cArgs l with
      | mk g =>
        rw [hf] at h1; rw [hg] at h2
        show f t :: g t = _
        rw [List.map_cons, ← h1, ← h2]; rfl
/-- A call of a function that the text names. -/
noncomputable def cCall (c : Call) : Option (FuncId × CF (Tm → List AV)) :=
  match c.callee with
  | .value f => match f with
    | .func g => match P.funcs[g]? with
      | some fn => match fn.body with
        | some _ => match fn.name == "runtime.NumGoroutine" with
          | true => none
          | false => some (g, cArgs c.args.toList)
        | none => none
      | none => none
    | _ => none
  | _ => none
noncomputable def cOp (o : Oper) : CF KO :=
  match o.op.operands.all okOpd with
  | false => .mk fun _ _ _ _ => .fail
  | true => match o.dst with
    | some d => match o.op with
      | .move x => match cOpd x with
        | .mk f => .mk fun t H nd K => K (st t d (f t)) H nd
      | .assign x => match cOpd x with
        | .mk f => .mk fun t H nd K => K (st t d (f t)) H nd
      | .binOp op ty x y _ => match cBin P op ty, cOpd x, cOpd y with
        | .mk b, .mk f, .mk g => .mk fun t H nd K => pass d (b (f t) (g t)) t H nd K .fail
      | .load ty a => match cLoad P ty, cOpd a with
        | .mk b, .mk f => .mk fun t H nd K => pass d (b (f t) H) t H nd K .fail
      | .fieldAddr ty a i => match cFieldAddr P ty i, cOpd a with
        | .mk b, .mk f => .mk fun t H nd K => pass d (b (f t)) t H nd K .fail
      | .indexAddr ty a i => match cIndexAddr P ty, cOpd a, cOpd i with
        | .mk b, .mk f, .mk g => .mk fun t H nd K => pass d (b (f t) (g t)) t H nd K .fail
      | .unOp op _ x => match cOpd x with
        | .mk f => .mk fun t H nd K => pass d (just (aUn op (f t))) t H nd K .fail
      | .call c => match cCall P c with
        | some (g, .mk f) => .mk fun t H nd K => T g (f t) H nd fun v H' nd' => K (st t d v) H' nd'
        | none => .mk fun t H nd K => bStepOp P T o t H nd K
      | _ => .mk fun t H nd K => bStepOp P T o t H nd K
    | none => match o.op with
      | .store ty a x => match cStore P ty, cOpd a, cOpd x with
        | .mk b, .mk f, .mk g => .mk fun t H nd K => match b (f t) (g t) H with
          | some H' => K t H' nd
          | none => bStepOp P T o t H nd K
      | _ => .mk fun t H nd K => bStepOp P T o t H nd K
/-- One that must leave memory alone. -/
noncomputable def cOpQ (o : Oper) : CF (Tm → List AB → List Bool → (Tm → List Bool → Res) → Res) :=
  match o.op.operands.all okOpd with
  | false => .mk fun _ _ _ _ => .fail
  | true => match o.dst with
    | some d => match o.op with
      | .move x => match cOpd x with
        | .mk f => .mk fun t _ nd K => K (st t d (f t)) nd
      | .assign x => match cOpd x with
        | .mk f => .mk fun t _ nd K => K (st t d (f t)) nd
      | .binOp op ty x y _ => match cBin P op ty, cOpd x, cOpd y with
        | .mk b, .mk f, .mk g => .mk fun t H nd K => pass d (b (f t) (g t)) t H nd (fun t _ nd => K t nd) .fail
      | .load ty a => match cLoad P ty, cOpd a with
        | .mk b, .mk f => .mk fun t H nd K => pass d (b (f t) H) t H nd (fun t _ nd => K t nd) .fail
      | .fieldAddr ty a i => match cFieldAddr P ty i, cOpd a with
        | .mk b, .mk f => .mk fun t H nd K => pass d (b (f t)) t H nd (fun t _ nd => K t nd) .fail
      | .indexAddr ty a i => match cIndexAddr P ty, cOpd a, cOpd i with
        | .mk b, .mk f, .mk g => .mk fun t H nd K => pass d (b (f t) (g t)) t H nd (fun t _ nd => K t nd) .fail
      | _ => .mk fun t H nd K => bStepQ P T o t H nd K
    | none => .mk fun t H nd K => bStepQ P T o t H nd K
end
section
variable {P : Program} {T : Table}
theorem pass_eq {op : Op} {d : Nat} {r : OA} {t : Tm} {H : List AB} {nd : List Bool} {K : KB} (h : aop P op (evB t) H = r) (he : eop P op (evB t) H = none) : pass d r t H nd K .fail = bStepA P op (some d) t H nd K := by
  unfold pass bStepA
  rw [h]
  cases r with
  | none => rw [he]
  | some z =>
    obtain ⟨v, n⟩ := z
    cases n <;> rfl
theorem passQ_eq {op : Op} {d : Nat} {r : OA} {t : Tm} {H : List AB} {nd : List Bool} {K : Tm → List Bool → Res} (h : aop P op (evB t) H = r) : pass d r t H nd (fun t _ nd => K t nd) .fail = bStepAQ P op (some d) t H nd K := by
  unfold pass bStepAQ
  rw [h]
  cases r with
  | none => rfl
  | some z =>
    obtain ⟨v, n⟩ := z
    cases n <;> rfl
theorem bStepOp_pure {o : Oper} {op : Op} {t : Tm} {H : List AB} {nd : List Bool} {K : KB} (hok : o.op.operands.all okOpd = true) (ho : o.op = op) (hn : ∀ c, op ≠ .call c) : bStepOp P T o t H nd K = bStepA P op o.dst t H nd K := by
  unfold bStepOp
  rw [if_pos hok, ho]
  cases op <;> first | rfl | exact absurd rfl (hn _)
theorem bStepQ_pure {o : Oper} {op : Op} {t : Tm} {H : List AB} {nd : List Bool} {K : Tm → List Bool → Res} (hok : o.op.operands.all okOpd = true) (ho : o.op = op) (hn : ∀ c, op ≠ .call c) : bStepQ P T o t H nd K = bStepAQ P op o.dst t H nd K := by
  unfold bStepQ
  rw [if_pos hok, ho]
  cases op <;> first | rfl | exact absurd rfl (hn _)
theorem cOp_eq (o : Oper) (t : Tm) (H : List AB) (nd : List Bool) (K : KB) : (cOp P T o).app t H nd K = bStepOp P T o t H nd K := by
  have hop := fun x => cOpd_eq x t
  unfold cOp
  cases hok : o.op.operands.all okOpd with
  | false =>
    unfold bStepOp
    rw [if_neg (by rw [hok]; decide)]; rfl
  | true =>
    cases hd : o.dst with
    | none =>
      dsimp only
      cases ho : o.op
      case store ty a x =>
        dsimp only
        have h1 := hop a
        have h2 := hop x
        cases hb : cStore P ty with
        | mk b => cases hf : cOpd a with
          | mk f => cases hg : cOpd x with
            | mk g =>
              rw [hf] at h1; rw [hg] at h2
              dsimp only [CF.app] at h1 h2 ⊢
              cases hr : b (f t) (g t) H with
              | none => rfl
              | some H' =>
                have h3 : (cStore P ty).app (f t) (g t) H = some H' := by rw [hb]; exact hr
                have h4 := cStore_eq h3
                rw [h1, h2] at h4
                rw [bStepOp_pure hok ho (by simp), hd]
                simp [bStepA, aop, eop, h4, putB]
      all_goals rfl
    | some d =>
      dsimp only
      cases ho : o.op
      case move x =>
        have h1 := hop x
        dsimp only
        cases hf : cOpd x with
        | mk f =>
          rw [hf] at h1
          dsimp only [CF.app] at h1 ⊢
          rw [h1]
          rw [bStepOp_pure hok ho (by simp), hd]
          simp [bStepA, aop, putB]
      case assign x =>
        have h1 := hop x
        dsimp only
        cases hf : cOpd x with
        | mk f =>
          rw [hf] at h1
          dsimp only [CF.app] at h1 ⊢
          rw [h1]
          rw [bStepOp_pure hok ho (by simp), hd]
          simp [bStepA, aop, putB]
      case binOp op ty x y yt =>
        have h1 := hop x
        have h2 := hop y
        dsimp only
        cases hb : cBin P op ty with
        | mk b => cases hf : cOpd x with
          | mk f => cases hg : cOpd y with
            | mk g =>
              have h3 := cBin_eq P op ty (evB t x) (evB t y)
              rw [hf] at h1; rw [hg] at h2; rw [hb] at h3
              dsimp only [CF.app] at h1 h2 h3 ⊢
              rw [h1, h2, h3]
              have := pass_eq (P := P) (op := .binOp op ty x y yt) (d := d) (r := aBin P op ty (evB t x) (evB t y)) (t := t) (H := H) (nd := nd) (K := K) rfl rfl
              rw [this, bStepOp_pure hok ho (by simp), hd]
      case load ty a =>
        have h1 := hop a
        dsimp only
        cases hb : cLoad P ty with
        | mk b => cases hf : cOpd a with
          | mk f =>
            have h3 := cLoad_eq P ty (evB t a) H
            rw [hf] at h1; rw [hb] at h3
            dsimp only [CF.app] at h1 h3 ⊢
            rw [h1, h3]
            have := pass_eq (P := P) (op := .load ty a) (d := d) (r := aLoad P ty (evB t a) H) (t := t) (H := H) (nd := nd) (K := K) rfl rfl
            rw [this, bStepOp_pure hok ho (by simp), hd]
      case fieldAddr ty a i =>
        have h1 := hop a
        dsimp only
        cases hb : cFieldAddr P ty i with
        | mk b => cases hf : cOpd a with
          | mk f =>
            have h3 := cFieldAddr_eq P ty i (evB t a)
            rw [hf] at h1; rw [hb] at h3
            dsimp only [CF.app] at h1 h3 ⊢
            rw [h1, h3]
            have := pass_eq (P := P) (op := .fieldAddr ty a i) (d := d) (r := just (aFieldAddr P ty (evB t a) i)) (t := t) (H := H) (nd := nd) (K := K) rfl rfl
            rw [this, bStepOp_pure hok ho (by simp), hd]
      case indexAddr ty a i =>
        have h1 := hop a
        have h2 := hop i
        dsimp only
        cases hb : cIndexAddr P ty with
        | mk b => cases hf : cOpd a with
          | mk f => cases hg : cOpd i with
            | mk g =>
              have h3 := cIndexAddr_eq P ty (evB t a) (evB t i)
              rw [hf] at h1; rw [hg] at h2; rw [hb] at h3
              dsimp only [CF.app] at h1 h2 h3 ⊢
              rw [h1, h2, h3]
              have := pass_eq (P := P) (op := .indexAddr ty a i) (d := d) (r := aIndexAddr P ty (evB t a) (evB t i)) (t := t) (H := H) (nd := nd) (K := K) rfl rfl
              rw [this, bStepOp_pure hok ho (by simp), hd]
      case unOp op ty x =>
        have h1 := hop x
        dsimp only
        cases hf : cOpd x with
        | mk f =>
          rw [hf] at h1
          dsimp only [CF.app] at h1 ⊢
          rw [h1]
          have := pass_eq (P := P) (op := .unOp op ty x) (d := d) (r := just (aUn op (evB t x))) (t := t) (H := H) (nd := nd) (K := K) rfl rfl
          rw [this, bStepOp_pure hok ho (by simp), hd]
      case call c =>
        dsimp only
        cases hc : cCall P c with
        | none => rfl
        | some z =>
          obtain ⟨g, cf⟩ := z
          cases cf with
          | mk f =>
            unfold cCall at hc
            split at hc <;> (try (cases hc; done))
            rename_i f0 hcal
            split at hc <;> (try (cases hc; done))
            rename_i g0
            split at hc <;> (try (cases hc; done))
            rename_i fn hfn
            split at hc <;> (try (cases hc; done))
            rename_i body hbody
            split at hc <;> (try (cases hc; done))
            rename_i hname
            simp only [Option.some.injEq, Prod.mk.injEq] at hc
            obtain ⟨rfl, hargs⟩ := hc
            have h4 := cArgs_eq c.args.toList t
            rw [hargs] at h4
            dsimp only [CF.app] at h4 ⊢
            rw [h4]
            unfold bStepOp
            rw [if_pos hok, ho]
            simp [aCall, hcal, evB, hfn, hbody, hname, putB, hd]
      all_goals rfl
theorem cOpQ_eq (o : Oper) (t : Tm) (H : List AB) (nd : List Bool) (K : Tm → List Bool → Res) : (cOpQ P T o).app t H nd K = bStepQ P T o t H nd K := by
  have hop := fun x => cOpd_eq x t
  unfold cOpQ
  cases hok : o.op.operands.all okOpd with
  | false =>
    unfold bStepQ
    rw [if_neg (by rw [hok]; decide)]; rfl
  | true =>
    cases hd : o.dst with
    | none => rfl
    | some d =>
      dsimp only
      cases ho : o.op
      case move x =>
        have h1 := hop x
        dsimp only
        cases hf : cOpd x with
        | mk f =>
          rw [hf] at h1
          dsimp only [CF.app] at h1 ⊢
          rw [h1]
          rw [bStepQ_pure hok ho (by simp), hd]
          simp [bStepAQ, aop, putB]
      case assign x =>
        have h1 := hop x
        dsimp only
        cases hf : cOpd x with
        | mk f =>
          rw [hf] at h1
          dsimp only [CF.app] at h1 ⊢
          rw [h1]
          rw [bStepQ_pure hok ho (by simp), hd]
          simp [bStepAQ, aop, putB]
      case binOp op ty x y yt =>
        have h1 := hop x
        have h2 := hop y
        dsimp only
        cases hb : cBin P op ty with
        | mk b => cases hf : cOpd x with
          | mk f => cases hg : cOpd y with
            | mk g =>
              have h3 := cBin_eq P op ty (evB t x) (evB t y)
              rw [hf] at h1; rw [hg] at h2; rw [hb] at h3
              dsimp only [CF.app] at h1 h2 h3 ⊢
              rw [h1, h2, h3]
              have := passQ_eq (P := P) (op := .binOp op ty x y yt) (d := d) (r := aBin P op ty (evB t x) (evB t y)) (t := t) (H := H) (nd := nd) (K := K) rfl
              rw [this, bStepQ_pure hok ho (by simp), hd]
      case load ty a =>
        have h1 := hop a
        dsimp only
        cases hb : cLoad P ty with
        | mk b => cases hf : cOpd a with
          | mk f =>
            have h3 := cLoad_eq P ty (evB t a) H
            rw [hf] at h1; rw [hb] at h3
            dsimp only [CF.app] at h1 h3 ⊢
            rw [h1, h3]
            have := passQ_eq (P := P) (op := .load ty a) (d := d) (r := aLoad P ty (evB t a) H) (t := t) (H := H) (nd := nd) (K := K) rfl
            rw [this, bStepQ_pure hok ho (by simp), hd]
      case fieldAddr ty a i =>
        have h1 := hop a
        dsimp only
        cases hb : cFieldAddr P ty i with
        | mk b => cases hf : cOpd a with
          | mk f =>
            have h3 := cFieldAddr_eq P ty i (evB t a)
            rw [hf] at h1; rw [hb] at h3
            dsimp only [CF.app] at h1 h3 ⊢
            rw [h1, h3]
            have := passQ_eq (P := P) (op := .fieldAddr ty a i) (d := d) (r := just (aFieldAddr P ty (evB t a) i)) (t := t) (H := H) (nd := nd) (K := K) rfl
            rw [this, bStepQ_pure hok ho (by simp), hd]
      case indexAddr ty a i =>
        have h1 := hop a
        have h2 := hop i
        dsimp only
        cases hb : cIndexAddr P ty with
        | mk b => cases hf : cOpd a with
          | mk f => cases hg : cOpd i with
            | mk g =>
              have h3 := cIndexAddr_eq P ty (evB t a) (evB t i)
              rw [hf] at h1; rw [hg] at h2; rw [hb] at h3
              dsimp only [CF.app] at h1 h2 h3 ⊢
              rw [h1, h2, h3]
              have := passQ_eq (P := P) (op := .indexAddr ty a i) (d := d) (r := aIndexAddr P ty (evB t a) (evB t i)) (t := t) (H := H) (nd := nd) (K := K) rfl
              rw [this, bStepQ_pure hok ho (by simp), hd]
      all_goals rfl
end

/-! ### Regions and code -/
section
variable (P : Program) (T : Table)
noncomputable def cGuard (ops : Array Oper) (o : Oper) : CF (Tm → (Tm → Res) → (Tm → Res) → Res) :=
  match o.guard with
  | none => .mk fun t yes _ => yes t
  | some (j, want) => match gDst ops j with
    | none => .mk fun _ _ _ => .fail
    | some d => match want with
      | true => .mk fun t yes no => match gt t d with
        | .b l x => match l with
          | true => match x with
            | true => yes t
            | false => no t
          | false => .ite x (yes (st t d (.b true true))) (no (st t d (.b true false)))
        | .tup [] => no t
        | _ => .fail
      | false => .mk fun t yes no => match gt t d with
        | .b l x => match l with
          | true => match x with
            | true => no t
            | false => yes t
          | false => .ite x (no (st t d (.b true true))) (yes (st t d (.b true false)))
        | .tup [] => no t
        | _ => .fail
noncomputable def cOps (ops : Array Oper) : List Oper → CF KO
  | [] => .mk fun t H nd K => K t H nd
  | o :: rest => match o.guard with
    | none => match cOp P T o, cOps ops rest with
      | .mk f, .mk g => .mk fun t H nd K => f t H nd fun t H nd => g t H nd K
    | some _ => match cGuard ops o, cOp P T o, cOps ops rest with
      | .mk q, .mk f, .mk g => .mk fun t H nd K => q t (fun t => f t H nd fun t H nd => g t H nd K) (fun t => g (putB t o.dst (.tup [])) H nd K)
abbrev KQ := Tm → List AB → List Bool → (Tm → List Bool → Res) → Res
noncomputable def cOpsQ (ops : Array Oper) : List Oper → CF KQ
  | [] => .mk fun t _ nd K => K t nd
  | o :: rest => match o.guard with
    | none => match cOpQ P T o, cOpsQ ops rest with
      | .mk f, .mk g => .mk fun t H nd K => f t H nd fun t nd => g t H nd K
    | some _ => match cGuard ops o, cOpQ P T o, cOpsQ ops rest with
      | .mk q, .mk f, .mk g => .mk fun t H nd K => q t (fun t => f t H nd fun t nd => g t H nd K) (fun t => g (putB t o.dst (.tup [])) H nd K)
noncomputable def cRegion (ops : Array Oper) (draw : Bool) : CF KO :=
  match draw with
  | false => cOps P T ops ops.toList
  | true => match P.follows .mixedOrders && drawOK ops (qN ops) with
    | true => match cOpsQ P T ops (ops.toList.take (qN ops)), cOps P T ops (ops.toList.drop (qN ops)) with
      | .mk f, .mk g => .mk fun t H nd K => f t H nd fun t nd => g t H nd K
    | false => .mk fun _ _ _ _ => .fail
end
section
variable {P : Program} {T : Table}
theorem cGuard_eq (ops : Array Oper) (o : Oper) (t : Tm) (yes no : Tm → Res) : (cGuard ops o).app t yes no = bGuarded ops o t yes no := by
  unfold cGuard bGuarded
  cases o.guard with
  | none => rfl
  | some g =>
    obtain ⟨j, want⟩ := g
    dsimp only
    cases gDst ops j with
    | none => rfl
    | some d =>
      cases want <;> dsimp only [CF.app] <;> cases gt t d <;> first | rfl | (rename_i l x; cases l <;> cases x <;> rfl) | (rename_i l; cases l <;> rfl)
theorem cOps_eq (ops : Array Oper) : ∀ (l : List Oper) (t : Tm) (H : List AB) (nd : List Bool) (K : KB), (cOps P T ops l).app t H nd K = bRunOps P T ops l t H nd K
  | [], _, _, _, _ => rfl
  | o :: rest, t, H, nd, K => by
    have h1 := cGuard_eq ops o
    have h2 := cOp_eq (P := P) (T := T) o
    have h3 := cOps_eq ops rest
    unfold cOps bRunOps
    cases hq : cGuard ops o with
    | mk q => cases hf : cOp P T o with
      | mk f => cases hg : cOps P T ops rest with
        | mk g =>
          rw [hq] at h1; rw [hf] at h2; rw [hg] at h3
          dsimp only [CF.app] at h1 h2 h3
          have key : (q t (fun t => f t H nd fun t H nd => g t H nd K) fun t => g (putB t o.dst (.tup [])) H nd K) = bGuarded ops o t (fun t => bStepOp P T o t H nd fun t H nd => bRunOps P T ops rest t H nd K) (fun t => bRunOps P T ops rest (putB t o.dst (.tup [])) H nd K) := by
            rw [h1]
            congr 1
            · funext t
              rw [h2]
              congr 1
              funext t H nd
              exact h3 t H nd K
            · funext t
              exact h3 _ H nd K
          rw [← key]
          cases hgu : o.guard with
          | some x => rfl
          | none =>
            dsimp only [CF.app]
            rw [h1]
            unfold bGuarded
            rw [hgu]
theorem cOpsQ_eq (ops : Array Oper) : ∀ (l : List Oper) (t : Tm) (H : List AB) (nd : List Bool) (K : Tm → List Bool → Res), (cOpsQ P T ops l).app t H nd K = bRunQ P T ops l t H nd K
  | [], _, _, _, _ => rfl
  | o :: rest, t, H, nd, K => by
    have h1 := cGuard_eq ops o
    have h2 := cOpQ_eq (P := P) (T := T) o
    have h3 := cOpsQ_eq ops rest
    unfold cOpsQ bRunQ
    cases hq : cGuard ops o with
    | mk q => cases hf : cOpQ P T o with
      | mk f => cases hg : cOpsQ P T ops rest with
        | mk g =>
          rw [hq] at h1; rw [hf] at h2; rw [hg] at h3
          dsimp only [CF.app] at h1 h2 h3
          have key : (q t (fun t => f t H nd fun t nd => g t H nd K) fun t => g (putB t o.dst (.tup [])) H nd K) = bGuarded ops o t (fun t => bStepQ P T o t H nd fun t nd => bRunQ P T ops rest t H nd K) (fun t => bRunQ P T ops rest (putB t o.dst (.tup [])) H nd K) := by
            rw [h1]
            congr 1
            · funext t
              rw [h2]
              congr 1
              funext t nd
              exact h3 t H nd K
            · funext t
              exact h3 _ H nd K
          rw [← key]
          cases hgu : o.guard with
          | some x => rfl
          | none =>
            dsimp only [CF.app]
            rw [h1]
            unfold bGuarded
            rw [hgu]
theorem cRegion_eq (ops : Array Oper) (draw : Bool) (t : Tm) (H : List AB) (nd : List Bool) (K : KB) : (cRegion P T ops draw).app t H nd K = bRunRegion P T ops draw t H nd K := by
  unfold cRegion bRunRegion
  cases draw with
  | false => exact cOps_eq ops _ t H nd K
  | true =>
    dsimp only
    cases (P.follows .mixedOrders && drawOK ops (qN ops)) with
    | false => rfl
    | true =>
      dsimp only
      have h1 := cOpsQ_eq (P := P) (T := T) ops (ops.toList.take (qN ops))
      have h2 := cOps_eq (P := P) (T := T) ops (ops.toList.drop (qN ops))
      cases hf : cOpsQ P T ops (ops.toList.take (qN ops)) with
      | mk f => cases hg : cOps P T ops (ops.toList.drop (qN ops)) with
        | mk g =>
          rw [hf] at h1; rw [hg] at h2
          dsimp only [CF.app] at h1 h2 ⊢
          rw [h1]
          congr 1
          funext t nd
          exact h2 t H nd K
end

/-- The next thing that does something. -/
inductive CN where
  | done
  | stop (k : List Item)
  | region (id : Nat) (ops : Array Oper) (draw : Bool) (k : List Item)
  | cond (c : Operand) (a b : Code) (k : List Item)
  | fail
def cNext (stop : List Item → Bool) : Nat → List Item → CN
  | 0, _ => .fail
  | n + 1, todo =>
    let next : List Item → CN := fun k => match stop k with
      | true => .stop k
      | false => cNext stop n k
    match todo with
    | [] => .done
    | .inBlock _ :: k => next k
    | .inLoop c :: k => next (.code c :: .inLoop c :: k)
    | .code c :: k =>
      match c with
      | .skip => next k
      | .label _ => next k
      | .ret => .done
      | .seq a b => next (.code a :: .code b :: k)
      | .cond c a b => .cond c a b k
      | .block id c => next (.code c :: .inBlock id :: k)
      | .loop c => next (.code c :: .inLoop c :: k)
      | .exit id => match exitTo id k with
        | some k' => next k'
        | none => .fail
      | .region id ops draw => .region id ops draw k
      | _ => .fail
    | _ => .fail
section
variable (P : Program) (T : Table) (stop : List Item → Bool)
/-- Like 'runS'. -/
noncomputable def cRun : Nat → List Item → Tm → List AB → List Bool → KB → (List Item → KB) → Res
  | 0, _, _, _, _, _, _ => .fail
  | n + 1, todo, t, H, nd, KE, KS =>
    match cNext stop 100 todo with
    | .done => KE t H nd
    | .stop k => KS k t H nd
    | .region _ ops draw k => match cRegion P T ops draw, stop k with
      | .mk f, true => f t H nd (KS k)
      | .mk f, false => f t H nd fun t H nd => cRun n k t H nd KE KS
    | .cond c a b k => match okOpd c, cOpd c, stop (.code a :: k), stop (.code b :: k) with
      | true, .mk f, sa, sb => match f t with
        | .b l x => match l with
          | true => match x with
            | true => match sa with
              | true => KS (.code a :: k) t H nd
              | false => cRun n (.code a :: k) t H nd KE KS
            | false => match sb with
              | true => KS (.code b :: k) t H nd
              | false => cRun n (.code b :: k) t H nd KE KS
          | false => .ite x
            (match sa with
              | true => KS (.code a :: k) t H nd
              | false => cRun n (.code a :: k) t H nd KE KS)
            (match sb with
              | true => KS (.code b :: k) t H nd
              | false => cRun n (.code b :: k) t H nd KE KS)
        | _ => .fail
      | false, _, _, _ => .fail
    | .fail => .fail
end

/-! ### What it says -/
theorem Tm.ext' : ∀ (a b : Tm), (∀ n, hasT a n = hasT b n) → (∀ n, gt a n = gt b n) → a = b
  | .nil, .nil, _, _ => rfl
  | .nil, .node v l r, h, _ => by have := h 0; cases this
  | .node v l r, .nil, h, _ => by have := h 0; cases this
  | .node v l r, .node v' l' r', h, g => by
    have e : ∀ n, Nat.mod (2 * n) 2 = 0 := fun n => by show 2 * n % 2 = 0; omega
    have o : ∀ n, Nat.mod (2 * n + 1) 2 = 1 := fun n => by show (2 * n + 1) % 2 = 1; omega
    have e2 : ∀ n, 2 * n / 2 = n := fun n => by omega
    have o2 : ∀ n, (2 * n + 1) / 2 = n := fun n => by omega
    have hv : v = v' := g 0
    have hl := Tm.ext' l l' (fun n => by have := h (2 * n + 1); rwa [has_even (e n), has_even (e n), e2] at this) (fun n => by have := g (2 * n + 1); rwa [gt_even (e n), gt_even (e n), e2] at this)
    have hr := Tm.ext' r r' (fun n => by have := h (2 * n + 1 + 1); rwa [has_odd (o n), has_odd (o n), o2] at this) (fun n => by have := g (2 * n + 1 + 1); rwa [gt_odd (o n), gt_odd (o n), o2] at this)
    rw [hv, hl, hr]
theorem R.uniq {τ : Tm} {t : List AV} (h : R τ t) : τ = ofL t := Tm.ext' _ _ (fun n => by rw [h.has, (ofL_R t).has]) (fun n => by rw [h.get, (ofL_R t).get])
theorem KR.all (K : KB) : KR K fun t H nd => K (ofL t) H nd := fun τ t H nd h => by rw [h.uniq]

section
variable {P : Program} {T : Table}
theorem region_reach {id : Nat} {ops : Array Oper} {draw : Bool} {k : List Item} {t t1 : List AV} {H H1 : List AB} (h : RegionOK P id ops draw t H t1 H1) : Reach P (.code (.region id ops draw) :: k) t H k t1 H1 := fun σ w a b cs s r => by
  obtain ⟨e, a1, w1, ⟨he, σ1, r1, d1, s1, f1⟩, harr⟩ := h σ w a (fun e a1 w1 => e = .normal ∧ ∃ σ1, RelL σ1 t1 a1.tmps.toList ∧ a1.defers = a.defers ∧ Sim σ1 H1 w1 ∧ Fr σ H w σ1 H1 w1) s r
    (fun a1 w1 σ1 r1 d1 s1 f1 => ⟨rfl, σ1, r1, d1, s1, f1⟩) b k cs
  subst he
  exact ⟨a1, w1, σ1, harr, r1, d1, s1, f1⟩
theorem cond_reach {c : Operand} {x y : Code} {k : List Item} {t : List AV} {H : List AB} {l v : Bool} (hok : okOpd c = true) (hv : evA t c = .b l v) : Reach P (.code (.cond c x y) :: k) t H (.code (if v then x else y) :: k) t H := fun σ w a b cs s r => by
  have hc : a.eval c = .bool v := by
    have := evA_rel r hok
    rw [hv] at this
    cases hx : a.eval c <;> rw [hx] at this <;> cases this
    rfl
  exact ⟨a, w, σ, .head (step_cond hc) (.refl _ _), r, rfl, s, Fr.refl _ _ _⟩
theorem cRegion_sound (hT : SoundT P T) (id : Nat) (ops : Array Oper) (draw : Bool) (k : List Item) {τ : Tm} {t : List AV} (h : R τ t) (H : List AB) (nd : List Bool) (K : KB) : ((cRegion P T ops draw).app τ H nd K).sel = .fail ∨
    ∃ t' H' nd', ((cRegion P T ops draw).app τ H nd K).sel = (K (ofL t') H' nd').sel ∧ (allT nd' = true → allT nd = true ∧ Reach P (.code (.region id ops draw) :: k) t H k t' H') := by
  rw [cRegion_eq, bRunRegion_eq h (KR.all K)]
  rcases runRegion_sound (ops := ops) (H := H) hT id draw t nd (fun t H nd => K (ofL t) H nd) with h1 | ⟨t', H', nd', h1, h2⟩
  · exact .inl h1
  · exact .inr ⟨t', H', nd', h1, fun hn => ⟨(h2 hn).1, region_reach (h2 hn).2⟩⟩

def NextOK (P : Program) (todo : List Item) (t : List AV) (H : List AB) : CN → Prop
  | .done => Ends P todo t H t H
  | .stop k => Reach P todo t H k t H
  | .region id ops draw k => Reach P todo t H (.code (.region id ops draw) :: k) t H
  | .cond c a b k => Reach P todo t H (.code (.cond c a b) :: k) t H
  | .fail => True
theorem NextOK.head {todo todo1 : List Item} {t : List AV} {H : List AB} {c : CN} (h : NextOK P todo1 t H c)
    (hs : ∀ (w : World) (a : Act) (b : Frame) (cs : List Frame), step P (lone (b.at a todo) cs w) = .next (lone (b.at a todo1) cs w)) : NextOK P todo t H c := by
  cases c
  case done => exact Ends.head h hs
  case stop => exact Reach.head h hs
  case region => exact Reach.head h hs
  case cond => exact Reach.head h hs
  case fail => trivial
theorem cNext_ok (stop : List Item → Bool) (t : List AV) (H : List AB) : ∀ (n : Nat) (todo : List Item), NextOK P todo t H (cNext stop n todo)
  | 0, _ => trivial
  | n + 1, todo => by
    have nxt : ∀ k, NextOK P k t H (match stop k with
        | true => .stop k
        | false => cNext stop n k) := fun k => by
      cases stop k with
      | true => exact Reach.refl k t H
      | false => exact cNext_ok stop t H n k
    unfold cNext
    cases todo with
    | nil => exact fun σ w a b cs s r => ⟨a, w, σ, [], .one step_end, r, rfl, s, Fr.refl _ _ _⟩
    | cons i k =>
      cases i
      case inBlock => exact (nxt _).head fun _ _ _ _ => step_inBlock
      case inLoop => exact (nxt _).head fun _ _ _ _ => step_inLoop
      case code c =>
        cases c
        case skip => exact (nxt _).head fun _ _ _ _ => step_skip
        case label => exact (nxt _).head fun _ _ _ _ => step_label
        case ret => exact fun σ w a b cs s r => ⟨a, w, σ, _, .one step_ret, r, rfl, s, Fr.refl _ _ _⟩
        case seq => exact (nxt _).head fun _ _ _ _ => step_seq
        case block => exact (nxt _).head fun _ _ _ _ => step_block
        case loop => exact (nxt _).head fun _ _ _ _ => step_loop
        case exit id =>
          dsimp only
          cases hk : exitTo id k with
          | some k' => exact (nxt _).head fun _ _ _ _ => step_exit hk
          | none => trivial
        case region id ops draw => exact Reach.refl _ t H
        case cond c a b => exact Reach.refl _ t H
        all_goals trivial
      all_goals trivial

theorem cRun_sound {stop : List Item → Bool} (hT : SoundT P T) (KE : KB) (KS : List Item → KB) : ∀ (n : Nat) (todo : List Item) (τ : Tm) (t : List AV) (H : List AB) (nd : List Bool), R τ t → (cRun P T stop n todo τ H nd KE KS).sel = .fail ∨
    (∃ t' H' nd', (cRun P T stop n todo τ H nd KE KS).sel = (KE (ofL t') H' nd').sel ∧ (allT nd' = true → allT nd = true ∧ Ends P todo t H t' H')) ∨
    (∃ todo' t' H' nd', (cRun P T stop n todo τ H nd KE KS).sel = (KS todo' (ofL t') H' nd').sel ∧ (allT nd' = true → allT nd = true ∧ Reach P todo t H todo' t' H'))
  | 0, _, _, _, _, _, _ => .inl rfl
  | n + 1, todo, τ, t, H, nd, h => by
    have hN := cNext_ok (P := P) stop t H 100 todo
    have goon : ∀ (k : List Item) (τ1 : Tm) (t1 : List AV) (H1 : List AB) (nd1 : List Bool), R τ1 t1 →
        ((match stop k with
          | true => KS k τ1 H1 nd1
          | false => cRun P T stop n k τ1 H1 nd1 KE KS).sel = .fail ∨
        (∃ t' H' nd', (match stop k with
          | true => KS k τ1 H1 nd1
          | false => cRun P T stop n k τ1 H1 nd1 KE KS).sel = (KE (ofL t') H' nd').sel ∧ (allT nd' = true → allT nd1 = true ∧ Ends P k t1 H1 t' H')) ∨
        (∃ todo' t' H' nd', (match stop k with
          | true => KS k τ1 H1 nd1
          | false => cRun P T stop n k τ1 H1 nd1 KE KS).sel = (KS todo' (ofL t') H' nd').sel ∧ (allT nd' = true → allT nd1 = true ∧ Reach P k t1 H1 todo' t' H'))) := fun k τ1 t1 H1 nd1 h1 => by
      cases stop k with
      | true => exact .inr (.inr ⟨k, t1, H1, nd1, by rw [h1.uniq], fun hn => ⟨hn, .refl _ _ _⟩⟩)
      | false => exact cRun_sound hT KE KS n k τ1 t1 H1 nd1 h1
    unfold cRun
    cases hc : cNext stop 100 todo with
    | done =>
      rw [hc] at hN
      exact .inr (.inl ⟨t, H, nd, by rw [h.uniq], fun hn => ⟨hn, hN⟩⟩)
    | stop k =>
      rw [hc] at hN
      exact .inr (.inr ⟨k, t, H, nd, by rw [h.uniq], fun hn => ⟨hn, hN⟩⟩)
    | fail => exact .inl rfl
    | region id ops draw k =>
      rw [hc] at hN
      have hN : Reach P todo t H (.code (.region id ops draw) :: k) t H := hN
      dsimp only
      have hR := fun K => cRegion_sound hT id ops draw k h H nd K
      cases hf : cRegion P T ops draw with
      | mk f =>
        rw [hf] at hR
        dsimp only [CF.app] at hR
        cases hs : stop k with
        | true =>
          dsimp only
          rcases hR (KS k) with h1 | ⟨t1, H1, nd1, h1, h2⟩
          · exact .inl h1
          · exact .inr (.inr ⟨k, t1, H1, nd1, h1, fun hn => ⟨(h2 hn).1, hN.trans (h2 hn).2⟩⟩)
        | false =>
          dsimp only
          rcases hR (fun t H nd => cRun P T stop n k t H nd KE KS) with h1 | ⟨t1, H1, nd1, h1, h2⟩
          · exact .inl h1
          rw [h1]
          have := goon k (ofL t1) t1 H1 nd1 (ofL_R t1)
          rw [hs] at this
          rcases this with h3 | ⟨t', H', nd', h3, h4⟩ | ⟨todo', t', H', nd', h3, h4⟩
          · exact .inl h3
          · refine .inr (.inl ⟨t', H', nd', h3, fun hn => ?_⟩)
            obtain ⟨h5, h6⟩ := h4 hn
            exact ⟨(h2 h5).1, (hN.trans (h2 h5).2).ends h6⟩
          · refine .inr (.inr ⟨todo', t', H', nd', h3, fun hn => ?_⟩)
            obtain ⟨h5, h6⟩ := h4 hn
            exact ⟨(h2 h5).1, (hN.trans (h2 h5).2).trans h6⟩
    | cond c a b k =>
      rw [hc] at hN
      have hN : Reach P todo t H (.code (.cond c a b) :: k) t H := hN
      dsimp only
      have hO := cOpd_eq c τ
      rw [h.ev] at hO
      cases hok : okOpd c with
      | false => exact .inl rfl
      | true =>
        cases hf : cOpd c with
        | mk f =>
          rw [hf] at hO
          dsimp only [CF.app] at hO ⊢
          rw [hO]
          cases hv : evA t c
          case b l v =>
            have two : ∀ z : Code, z = (if v then a else b) →
                ((match stop (.code z :: k) with
                  | true => KS (.code z :: k) τ H nd
                  | false => cRun P T stop n (.code z :: k) τ H nd KE KS).sel = .fail ∨
                (∃ t' H' nd', (match stop (.code z :: k) with
                  | true => KS (.code z :: k) τ H nd
                  | false => cRun P T stop n (.code z :: k) τ H nd KE KS).sel = (KE (ofL t') H' nd').sel ∧ (allT nd' = true → allT nd = true ∧ Ends P todo t H t' H')) ∨
                (∃ todo' t' H' nd', (match stop (.code z :: k) with
                  | true => KS (.code z :: k) τ H nd
                  | false => cRun P T stop n (.code z :: k) τ H nd KE KS).sel = (KS todo' (ofL t') H' nd').sel ∧ (allT nd' = true → allT nd = true ∧ Reach P todo t H todo' t' H'))) := fun z hz => by
              have hcr := hN.trans (cond_reach (P := P) (x := a) (y := b) (k := k) (H := H) hok hv)
              rw [← hz] at hcr
              rcases goon (.code z :: k) τ t H nd h with h3 | ⟨t', H', nd', h3, h4⟩ | ⟨todo', t', H', nd', h3, h4⟩
              · exact .inl h3
              · exact .inr (.inl ⟨t', H', nd', h3, fun hn => ⟨(h4 hn).1, hcr.ends (h4 hn).2⟩⟩)
              · exact .inr (.inr ⟨todo', t', H', nd', h3, fun hn => ⟨(h4 hn).1, hcr.trans (h4 hn).2⟩⟩)
            cases l with
            | true => cases v with
              | true => exact two _ rfl
              | false => exact two _ rfl
            | false => cases v with
              | true => exact two _ rfl
              | false => exact two _ rfl
          all_goals exact .inl rfl
end

/-! ### Calls -/
abbrev CTab := FuncId → CF (List AV → List AB → List Bool → KF → Res)
noncomputable def tabOf (C : CTab) : Table := fun f args H nd K => (C f).app args H nd K
section
variable (P : Program)
noncomputable def cFun (T : Table) (n : Nat) (f : FuncId) : CF (List AV → List AB → List Bool → KF → Res) :=
  match P.funcs[f]? with
  | some fn => match fn.body with
    | some c => .mk fun args H nd K => match Nat.ble args.length fn.ntmps with
      | true => cRun P T (fun _ => false) n [.code c] (stAll (mkT fn.ntmps fn.ntmps) 0 args) H nd (retB P fn K) (fun _ _ _ _ => .fail)
      | false => .fail
    | none => .mk fun _ _ _ _ => .fail
  | none => .mk fun _ _ _ _ => .fail
def lookC : List (FuncId × Table) → FuncId → Option Table
  | [], _ => none
  | (g, T) :: l, f => match Nat.beq f g with
    | true => some T
    | false => lookC l f
/-- Like 'deep'. -/
noncomputable def cdeep (l : List (FuncId × Table)) (inl : List FuncId) (n : Nat) : Nat → CTab
  | 0 => fun _ => .mk fun _ _ _ _ => .fail
  | d + 1 => fun f => match lookC l f with
    | some T => .mk (T f)
    | none => match cFun P (tabOf (cdeep l inl n d)) n f with
      | .mk F => match inl.any (Nat.beq f) with
        | true => .mk F
        | false => .mk fun args H nd K => match joinR H.length (F args (roH H) [] fun v H' nd' => .ret v H' nd') with
          | some (v, nd') => K v H (nd' ++ nd)
          | none => .fail
end
section
variable {P : Program}
theorem cFun_sound {T : Table} (hT : SoundT P T) (n : Nat) : SoundT P (tabOf (cFun P T n)) := by
  intro f args H nd K
  unfold tabOf cFun
  cases hf : P.funcs[f]? with
  | none => exact .inl rfl
  | some fn =>
    dsimp only
    cases hc : fn.body with
    | none => exact .inl rfl
    | some c =>
      dsimp only [CF.app]
      cases hle : Nat.ble args.length fn.ntmps with
      | false => exact .inl rfl
      | true =>
        have hle := Nat.le_of_ble_eq_true hle
        have hR := stAll_R args _ _ 0 (mkT_R fn.ntmps fn.ntmps (Nat.le_refl _))
        rw [args_list args fn.ntmps hle] at hR
        dsimp only
        rcases cRun_sound hT (retB P fn K) (fun _ _ _ _ => .fail) n [.code c] _ _ H nd hR with h | ⟨t', H', nd', h1, h2⟩ | ⟨_, _, _, _, h1, _⟩
        · exact .inl h
        · rw [h1]
          unfold retB
          rw [resB_eq P (ofL_R t')]
          cases hr : resV P t' H' fn.results.toList with
          | none => exact .inl rfl
          | some z =>
            obtain ⟨vs, m⟩ := z
            refine .inr ⟨tupV vs, H', m ++ nd', rfl, fun hn => ?_⟩
            rw [allT_append, Bool.and_eq_true] at hn
            exact ⟨(h2 hn.2).1, call_of_ends hf hc (h2 hn.2).2 hr hn.1⟩
        · exact .inl h1
theorem lookC_some : ∀ {l : List (FuncId × Table)} {f : FuncId} {T : Table}, lookC l f = some T → (f, T) ∈ l
  | [], _, _, h => by cases h
  | (g, T') :: l, f, T, h => by
    unfold lookC at h
    split at h
    · rename_i hb
      have : f = g := Nat.eq_of_beq_eq_true hb
      subst this
      cases h
      exact List.mem_cons_self
    · exact List.mem_cons_of_mem _ (lookC_some h)
theorem cdeep_sound {l : List (FuncId × Table)} {inl : List FuncId} {n : Nat} (h : ∀ p ∈ l, SoundAt P p.1 p.2) : ∀ d, SoundT P (tabOf (cdeep P l inl n d))
  | 0 => fun _ _ _ _ _ => .inl rfl
  | d + 1 => fun f args H nd K => by
    have ih := cFun_sound (cdeep_sound (inl := inl) (n := n) h d) n
    have hq := quiet_sound ih
    unfold tabOf cdeep
    cases hl : lookC l f with
    | some T => exact h _ (lookC_some hl) args H nd K
    | none =>
      have h1 := ih f args H nd K
      have h2 := hq f args H nd K
      unfold quiet at h2
      unfold tabOf at h1 h2
      dsimp only
      cases hF : cFun P (tabOf (cdeep P l inl n d)) n f with
      | mk F =>
        have e : cFun P (fun f args H nd K => (cdeep P l inl n d f).app args H nd K) n f = .mk F := hF
        rw [e] at h1 h2
        dsimp only [CF.app] at h1 h2
        cases inl.any (Nat.beq f) with
        | true => exact h1
        | false => exact h2
/-- Like 'toLoop', to any place. -/
noncomputable def cupto (P : Program) (T : Table) (stop : List Item → Bool) (n : Nat) (todo : List Item) (t : List AV) (H : List AB) : Res :=
  cRun P T stop n todo (ofL t) H [] (fun τ H nd => .ret (.tup (listT τ)) H nd) (fun todo τ H nd => .stop todo (listT τ) H nd)
theorem cupto_reach {T : Table} {stop : List Item → Bool} {n : Nat} {todo todo' : List Item} {t t' : List AV} {H H' : List AB} {nd : List Bool} (hT : SoundT P T) (h : (cupto P T stop n todo t H).sel = .stop todo' t' H' nd) (hn : allT nd = true) : Reach P todo t H todo' t' H' := by
  rcases cRun_sound (stop := stop) hT (fun τ H nd => .ret (.tup (listT τ)) H nd) (fun todo τ H nd => .stop todo (listT τ) H nd) n todo _ t H [] (ofL_R t) with h1 | ⟨t1, H1, nd1, h1, h2⟩ | ⟨todo1, t1, H1, nd1, h1, h2⟩
  · unfold cupto at h; rw [h] at h1; cases h1
  · unfold cupto at h; rw [h] at h1; cases h1
  · unfold cupto at h; rw [h, (ofL_R t1).list] at h1; cases h1
    exact (h2 hn).2
theorem cupto_ends {T : Table} {stop : List Item → Bool} {n : Nat} {todo : List Item} {t t' : List AV} {H H' : List AB} {nd : List Bool} (hT : SoundT P T) (h : (cupto P T stop n todo t H).sel = .ret (.tup t') H' nd) (hn : allT nd = true) : Ends P todo t H t' H' := by
  rcases cRun_sound (stop := stop) hT (fun τ H nd => .ret (.tup (listT τ)) H nd) (fun todo τ H nd => .stop todo (listT τ) H nd) n todo _ t H [] (ofL_R t) with h1 | ⟨t1, H1, nd1, h1, h2⟩ | ⟨todo1, t1, H1, nd1, h1, h2⟩
  · unfold cupto at h; rw [h] at h1; cases h1
  · unfold cupto at h; rw [h, (ofL_R t1).list] at h1; cases h1
    exact (h2 hn).2
  · unfold cupto at h; rw [h] at h1; cases h1
end
end Go.Ax

/- Memories that say the same. -/
namespace Go.Ax
open Go

/-! ### Memories that say the same -/
def HEq (H G : List AB) : Prop := H.length = G.length ∧ ∀ i, (getB H i).rw = (getB G i).rw ∧ (getB H i).live = (getB G i).live ∧ ∀ σ z o, BlkRel σ z (getB H i) o → BlkRel σ z (getB G i) o
theorem HEq.sim {σ : List (Nat × Nat)} {H G : List AB} {w : World} (e : HEq H G) (s : Sim σ H w) : Sim σ G w :=
  ⟨by rw [s.len, e.1], fun i b z hb => (e.2 i).2.2 _ _ _ (s.blk i b z hb), fun i j b z z' hi hj hr hl => s.inj i j b z z' hi hj (by rw [(e.2 i).1]; exact hr) (by rw [(e.2 j).2.1]; exact hl)⟩
theorem HEq.refl (H : List AB) : HEq H H := ⟨rfl, fun _ => ⟨rfl, rfl, fun _ _ _ h => h⟩⟩
theorem HEq.cons {A B : AB} {H G : List AB} (h : A.rw = B.rw ∧ A.live = B.live ∧ ∀ σ z o, BlkRel σ z A o → BlkRel σ z B o) (k : HEq H G) : HEq (A :: H) (B :: G) :=
  ⟨by simp [k.1], fun i => by cases i with
    | zero => exact h
    | succ i => exact k.2 i⟩
theorem HEq.fr {σ σ' : List (Nat × Nat)} {H G H' : List AB} {w w' : World} (e : HEq G H') (F : Fr σ H w σ' G w') : Fr σ H w σ' H' w' :=
  ⟨F.os, F.tape, F.output, F.size, F.old, F.ext, F.new, fun i hi hr => F.mono i hi (by rw [(e.2 i).1]; exact hr)⟩
theorem Reach.post {P : Program} {todo todo' : List Item} {t t' : List AV} {H G H' : List AB} (h : Reach P todo t H todo' t' G) (e : HEq G H') : Reach P todo t H todo' t' H' := fun σ w a b cs s r =>
  let ⟨a', w', σ', h1, h2, h3, h4, h5⟩ := h σ w a b cs s r; ⟨a', w', σ', h1, h2, h3, e.sim h4, e.fr h5⟩
theorem Ends.post {P : Program} {todo : List Item} {t t' : List AV} {H G H' : List AB} (h : Ends P todo t H t' G) (e : HEq G H') : Ends P todo t H t' H' := fun σ w a b cs s r =>
  let ⟨a', w', σ', todo', h1, h2, h3, h4, h5⟩ := h σ w a b cs s r; ⟨a', w', σ', todo', h1, h2, h3, e.sim h4, e.fr h5⟩
theorem relA_bare {σ : List (Nat × Nat)} {A B : List AV} {c : Array Value} (h : A.map AV.bare = B.map AV.bare) (r : RelA σ A c) : RelA σ B c := fun j a ha => by
  have hj := congrArg (·[j]?) h
  simp only [List.getElem?_map, ha, Option.map_some] at hj
  cases hA : A[j]? with
  | none => rw [hA] at hj; cases hj
  | some x =>
    rw [hA] at hj
    obtain ⟨v, hv, hr⟩ := r j x hA
    simp only [Option.map_some, Option.some.injEq] at hj
    exact ⟨v, hv, Rel.unbare (hj ▸ hr.bare)⟩
theorem blk_bare {rw : Bool} {A B : List AV} (h : A.map AV.bare = B.map AV.bare) : (AB.cells rw (.lit A)).rw = (AB.cells rw (.lit B)).rw ∧ (AB.cells rw (.lit A)).live = (AB.cells rw (.lit B)).live ∧ ∀ σ z o, BlkRel σ z (AB.cells rw (.lit A)) o → BlkRel σ z (AB.cells rw (.lit B)) o :=
  ⟨rfl, rfl, fun _ _ _ ⟨c, e, fr, h1, h2, h3⟩ => ⟨c, e, fr, h1, relA_bare h h2, h3⟩⟩
/-- Cells of complex numbers. -/
def cx (X : Nat → Nat × Nat) (j : Nat) : AV := .c false .f32 (X j).1 (X j).2
theorem asC64_bare : ∀ {l : List AV} {xs : List (Nat × Nat)}, asC64 l = some xs → l.map AV.bare = xs.map fun z => .c false .f32 z.1 z.2
  | [], xs, h => by cases h; rfl
  | a :: l, xs, h => by
    unfold asC64 at h
    split at h <;> (try (cases h; done))
    · rename_i e; cases e
    · rename_i x y l' e
      cases e
      split at h <;> cases h
      rename_i r hr
      simp [AV.bare, asC64_bare hr]
theorem map_range_getD {α β : Type} (f : α → β) (d : α) (xs : List α) (n : Nat) (h : xs.length = n) : xs.map f = (List.range n).map fun j => f (xs.getD j d) := by
  subst h
  apply List.ext_getElem?
  intro j
  simp only [List.getElem?_map]
  by_cases hj : j < xs.length
  · simp [hj]
  · simp [hj]
end Go.Ax

/- Table rows for spec.l01From and spec.l10Draw. -/
namespace Go.Ax
open Go Go.Proofs

theorem CallOK.pre {P : Program} {f : FuncId} {args : List AV} {v : AV} {H G H' : List AB} (h : CallOK P f args G v H') (e : HEq H G) : CallOK P f args H v H' := fun σ w rargs s hra => by
  refine (h σ w rargs (e.sim s) hra).mono ?_
  rintro e' w' ⟨rv, rfl, σ', r1, s1, F⟩
  exact ⟨rv, rfl, σ', r1, s1, ⟨F.os, F.tape, F.output, F.size, fun b hb hno => F.old b hb fun i z hr => hno i z (by rw [(e.2 i).1]; exact hr), F.ext,
    fun i b z hb hn => (F.new i b z hb hn).imp id fun ⟨j, z', hj, hj'⟩ => ⟨j, z', by rw [(e.2 j).1]; exact hj, hj'⟩, fun i hi hr => by rw [(e.2 i).1]; exact F.mono i hi hr⟩⟩
theorem CallOK.post {P : Program} {f : FuncId} {args : List AV} {v : AV} {H G H' : List AB} (h : CallOK P f args H v G) (e : HEq G H') : CallOK P f args H v H' := fun σ w rargs s hra => by
  refine (h σ w rargs s hra).mono ?_
  rintro e' w' ⟨rv, rfl, σ', r1, s1, F⟩
  exact ⟨rv, rfl, σ', r1, e.sim s1, ⟨F.os, F.tape, F.output, F.size, F.old, F.ext, F.new, fun i hi hr => F.mono i hi (by rw [(e.2 i).1]; exact hr)⟩⟩
theorem src_same {o m a : Nat} {h : Int} {l1 l2 l3 m1 m2 m3 : Bool} :
    (AB.cells true (.lit [.sl l1 0 o m 0, .i l2 .i64 (Int.ofNat a), .i l3 .u64 h])).rw = (AB.cells true (.lit [.sl m1 0 o m 0, .i m2 .i64 (Int.ofNat a), .i m3 .u64 h])).rw ∧
    (AB.cells true (.lit [.sl l1 0 o m 0, .i l2 .i64 (Int.ofNat a), .i l3 .u64 h])).live = (AB.cells true (.lit [.sl m1 0 o m 0, .i m2 .i64 (Int.ofNat a), .i m3 .u64 h])).live ∧
    ∀ σ z ob, BlkRel σ z (AB.cells true (.lit [.sl l1 0 o m 0, .i l2 .i64 (Int.ofNat a), .i l3 .u64 h])) ob → BlkRel σ z (AB.cells true (.lit [.sl m1 0 o m 0, .i m2 .i64 (Int.ofNat a), .i m3 .u64 h])) ob :=
  ⟨rfl, rfl, fun _ _ _ ⟨c, e, fr, e1, e2, e3⟩ => ⟨c, e, fr, e1, src_rel e2, e3⟩⟩

noncomputable def fromV (c : Cd) : Int := open Classical in if hx : ∃ h, CallOK Tryz.prog 64 [.sl false 0 c.off c.len 0] [codeB c false] (.p true 1 0) [codeB c false, srcZ c h] then hx.choose else 0
theorem fromV_ok {c : Cd} (hc : goodB c = true) : CallOK Tryz.prog 64 [.sl false 0 c.off c.len 0] [codeB c false] (.p true 1 0) [codeB c false, srcZ c (fromV c)] := by
  have he := from_ok hc
  unfold fromV
  rw [dif_pos he]
  exact he.choose_spec
noncomputable def fromT : Table := fun _ args H nd K =>
  match args, H with
  | [s], B :: Hr => match readSl s, readCode B with
    | some (o, n), some (o', b) => K (.p true (Hr.length + 1) 0) (B :: (Hr ++ [srcR o n 0 (fromV ⟨b, o', n⟩)])) (okB ⟨b, o', n⟩ o n :: nd)
    | _, _ => .fail
  | _, _ => .fail
theorem readSl_spec {s : AV} {o n : Nat} (h : readSl s = some (o, n)) : ∃ l, s = .sl l 0 o n 0 := by
  unfold readSl at h
  split at h <;> (try (cases h; done))
  split at h <;> cases h
  rename_i hh
  simp at hh
  obtain ⟨rfl, rfl⟩ := hh
  exact ⟨_, rfl⟩
theorem from_at : SoundAt Tryz.prog 64 fromT := fun args H nd K => by
  unfold fromT
  split
  case h_2 => exact .inl rfl
  rename_i s B Hr
  split
  case h_2 => exact .inl rfl
  rename_i o n o' b hs hb
  refine .inr ⟨_, _, _, rfl, fun hn => ?_⟩
  simp only [allT, Bool.and_eq_true, okB] at hn
  obtain ⟨⟨⟨hg, ho⟩, _⟩, hnd⟩ := hn
  have ho : o = o' := of_decide_eq_true ho
  subst ho
  refine ⟨hnd, ?_⟩
  obtain ⟨l, rfl⟩ := readSl_spec hs
  have hB := readCode_spec hb
  subst hB
  have h1 := ((fromV_ok hg).frame rfl rfl rfl Hr).bare (args' := [.sl l 0 o n 0]) rfl
  have h2 := h1.post (H' := AB.code o b :: (Hr ++ [srcR o n 0 (fromV ⟨b, o, n⟩)])) (by
    refine HEq.cons ⟨rfl, rfl, fun _ _ _ h => h⟩ ?_
    have : ∀ (Hr : List AB) (X Y : AB), HEq [X] [Y] → HEq (Hr ++ [X]) (Hr ++ [Y]) := by
      intro Hr X Y h
      induction Hr with
      | nil => exact h
      | cons A Hr ih => exact HEq.cons ⟨rfl, rfl, fun _ _ _ h => h⟩ ih
    exact this Hr _ _ (HEq.cons src_same (HEq.refl [])))
  have e : upV ([codeB ⟨b, o, n⟩ false] : List AB).length Hr.length (.p true 1 0) = .p true (Hr.length + 1) 0 := by
    show AV.p true (1 + Hr.length) 0 = _
    rw [Nat.add_comm]
  rw [e] at h2
  exact h2

noncomputable def rows3 : List (FuncId × Table) := (64, fromT) :: rows2
theorem rows3_at : allAt Tryz.prog rows3 := ⟨from_at, rows2_at⟩
end Go.Ax

/- Functions that draw a value out of a text of bytes: table rows. -/
namespace Go.Ax
open Go Go.Proofs

/-- A call that only reads the bytes leaves every memory that begins with them as it was. -/
theorem CallOK.read {P : Program} {f : FuncId} {args : List AV} {v : AV} {c : Cd} {H1 : List AB} (h : CallOK P f args [codeB c false] v H1) (hv : below 0 v = true) (ha : belowL 1 args = true) (Hr : List AB) :
    CallOK P f args (codeB c false :: Hr) v (codeB c false :: Hr) := fun σ w rargs s hra => by
  have hl : 0 < σ.length := by rw [s.len]; simp
  obtain ⟨x, hx⟩ : ∃ x, σ[0]? = some x := ⟨_, List.getElem?_eq_getElem hl⟩
  have e0 : Ext [x] σ := fun i b hb => by
    match i, hb with
    | 0, hb => cases hb; exact hx
    | i + 1, hb => simp at hb
  have s0 : Sim [x] [codeB c false] w := by
    refine ⟨rfl, fun i b z hb => ?_, fun i j b z z' hi hj hr _ => ?_⟩
    · match i, hb with
      | 0, hb =>
        cases hb
        exact low_blk e0 rfl (by rfl : lowB 1 (codeB c false) = true) (s.blk 0 b z hx)
      | i + 1, hb => simp at hb
    · match i, hi with
      | 0, _ => simp [getB, codeB, AB.rw] at hr
      | i + 1, hi => simp at hi
  refine (h [x] w rargs s0 (belowL_rel e0 rfl ha hra)).mono ?_
  rintro e w' ⟨rv, rfl, σ', r1, s1, f1⟩
  have hE : ∀ τ : List (Nat × Nat), Ext [] τ := fun τ i b hb => by simp at hb
  refine ⟨rv, rfl, σ, (below_rel (σ := []) (τ := σ') (hE _) rfl hv r1).mono (hE _), ?_⟩
  have f2 : Fr σ (roH (codeB c false :: Hr)) w σ (roH (codeB c false :: Hr)) w' := ⟨f1.os, f1.tape, f1.output, f1.size, fun b hb _ => f1.old b hb fun i z hr => by
      match i with
      | 0 => simp [getB, codeB, AB.rw] at hr
      | i + 1 => simp [getB, AB.rw] at hr, Ext.refl σ, fun i b z h h' => (by rw [h'] at h; cases h), fun i _ h => h⟩
  exact s.ro_back f2

/-- The ways of a result joined; what is asked is asked on all ways. -/
def flatR : Res → Option (AV × List Bool)
  | .ret v _ nd => match below 0 v with
    | true => some (v, nd)
    | false => none
  | .fail => none
  | .stop _ _ _ _ => none
  | .ite b x y => match flatR x, flatR y with
    | some (v, nd), some (v', nd') => match mergeV b v v' with
      | some z => some (z, nd ++ nd')
      | none => none
    | _, _ => none
theorem flatR_spec : ∀ {r : Res} {v : AV} {nd : List Bool}, flatR r = some (v, nd) → allT nd = true →
    ∃ v' H' nd', r.sel = .ret v' H' nd' ∧ allT nd' = true ∧ below 0 v' = true ∧ ∀ (σ : List (Nat × Nat)) (x : Value), Rel σ v' x → Rel σ v x
  | .ret v0 H0 nd0, v, nd, hj, hn => by
    simp only [flatR] at hj
    split at hj <;> cases hj
    rename_i hb
    exact ⟨_, H0, _, rfl, hn, hb, fun _ _ r => r⟩
  | .fail, v, nd, hj, hn => by simp [flatR] at hj
  | .stop _ _ _ _, v, nd, hj, hn => by simp [flatR] at hj
  | .ite b x y, v, nd, hj, hn => by
    simp only [flatR] at hj
    split at hj <;> (try (cases hj; done))
    rename_i v1 nd1 v2 nd2 e1 e2
    split at hj <;> cases hj
    rename_i hz
    rw [allT_append, Bool.and_eq_true] at hn
    cases b with
    | true =>
      obtain ⟨v', H', nd', g1, g2, g3, g4⟩ := flatR_spec e1 hn.1
      exact ⟨v', H', nd', g1, g2, g3, fun σ x r => mergeV_left hz (g4 σ x r)⟩
    | false =>
      obtain ⟨v', H', nd', g1, g2, g3, g4⟩ := flatR_spec e2 hn.2
      exact ⟨v', H', nd', g1, g2, g3, fun σ x r => mergeV_right hz (g4 σ x r)⟩

/-- What a drawing function must be: some value of a form, whatever memory is behind the bytes. -/
def DrawOK (P : Program) (f : FuncId) (c : Cd) (v : AV) : Prop := ∀ Hr, CallOK P f [.sl false 0 c.off c.len 0] (codeB c false :: Hr) v (codeB c false :: Hr)
def drawEx {α : Type} (F : Form α) (r : Res) : Option (α × List Bool) :=
  match flatR r with
  | some (v, nd) => match F.get v with
    | some x => some (x, nd)
    | none => none
  | none => none
theorem drawOK_of {α : Type} {F : Form α} {P : Program} {T : Table} {f : FuncId} {c : Cd} {x : α} {nd : List Bool} (hT : SoundT P T)
    (he : drawEx F (T f [.sl false 0 c.off c.len 0] [codeB c false] [] fun v H nd => .ret v H nd) = some (x, nd)) (hn : allT nd = true) : DrawOK P f c (F.val x) := fun Hr => by
  unfold drawEx at he
  split at he <;> (try (cases he; done))
  rename_i v nd1 hj
  split at he <;> cases he
  rename_i hx
  obtain ⟨v', H', nd', g1, g2, g3, g4⟩ := flatR_spec hj hn
  exact ((call_of_sel hT g1 g2).read g3 rfl Hr).weaken fun σ y r => F.rel hx σ y (g4 σ y r)
theorem drawOK_some {α : Type} {F : Form α} {P : Program} {T : Table} {f : FuncId} {c : Cd} {m : Nat} (hT : SoundT P T) (hc : goodB c = true)
    (hn : ((drawEx F (T f [.sl false 0 c.off c.len 0] [codeB c false] [] fun v H nd => .ret v H nd)).map fun r => r.2) = some (List.replicate m (okB c c.off c.len))) : ∃ x, DrawOK P f c (F.val x) := by
  cases hr : drawEx F (T f [.sl false 0 c.off c.len 0] [codeB c false] [] fun v H nd => .ret v H nd) with
  | none => rw [hr] at hn; cases hn
  | some r =>
    obtain ⟨x, nd⟩ := r
    rw [hr] at hn
    simp only [Option.map_some, Option.some.injEq] at hn
    refine ⟨x, drawOK_of hT hr ?_⟩
    have hok : okB c c.off c.len = true := by simp [okB, hc]
    rw [hn, hok]
    exact allT_rep m

def formI : Form Int where
  get := fun | .i _ .i64 x => some x | _ => none
  val := fun x => .i false .i64 x
  rel := fun {v x} h σ y r => by
    split at h <;> cases h
    cases r; exact .i _ _
  low := fun _ => rfl
noncomputable def tab3 : Table := deep Tryz.prog rows3 [73] 2000 6
theorem tab3_sound : SoundT Tryz.prog tab3 := deep_sound (allAt_mem rows3_at) 6
end Go.Ax

/- spec.l01Next as a table's row: numbers below a bound are told one by one. -/
namespace Go.Ax
open Go Go.Proofs

noncomputable def nextM (mx : Int) : Table := fun _ args H nd K =>
  match args with
  | [p, .i l .i64 n] => match p with
    | .p _ id off => match readCode (getB H 0), readSrc (getB H id), decide (off = 0) && !decide (id = 0) with
      | some (o', b), some (o, m, a, h), true =>
        match l && decide (1 ≤ n) && decide (n ≤ mx) with
        | true => splitK (fun v => K v (setB H id (srcR o m (nxA ⟨b, o', m⟩ a n) (nxS h n))) (okB ⟨b, o', m⟩ o m :: nd)) (nxV ⟨b, o', m⟩ a h n) (n.toNat - 1)
        | false => K (.i false .i64 (nxV ⟨b, o', m⟩ a h n)) (setB H id (srcR o m (nxA ⟨b, o', m⟩ a n) (nxS h n))) (okB ⟨b, o', m⟩ o m :: nd)
      | _, _, _ => .fail
    | _ => .fail
  | _ => .fail

theorem nextM_at (mx : Int) : SoundAt Tryz.prog 72 (nextM mx) := fun args H nd K => by
  unfold nextM
  split
  case h_2 => exact .inl rfl
  rename_i p l n
  split
  case h_2 => exact .inl rfl
  rename_i lp id off
  split
  case h_2 => exact .inl rfl
  rename_i o' b o m a h hc hs h0
  simp only [Bool.and_eq_true, decide_eq_true_eq, Bool.not_eq_true', decide_eq_false_iff_not] at h0
  obtain ⟨rfl, h0⟩ := h0
  have main : ∀ v : AV, (okB ⟨b, o', m⟩ o m = true → v.bare = .i false .i64 (nxV ⟨b, o', m⟩ a h n)) → allT (okB ⟨b, o', m⟩ o m :: nd) = true →
      allT nd = true ∧ CallOK Tryz.prog 72 [.p lp id 0, .i l .i64 n] H v (setB H id (srcR o m (nxA ⟨b, o', m⟩ a n) (nxS h n))) := fun v hv hn => by
    simp only [allT, Bool.and_eq_true] at hn
    have hg : goodB ⟨b, o', m⟩ = true := by have := hn.1; simp only [okB, Bool.and_eq_true] at this; exact this.1.1
    have ho : o = o' := by have := hn.1; simp only [okB, Bool.and_eq_true, decide_eq_true_eq] at this; exact this.1.2
    subst ho
    obtain ⟨H2, k, e1, e2, e3⟩ := next_ok hg a h n
    refine ⟨hn.2, ?_⟩
    have hk := (k.src e1 e2 e3 (l := lp) (id := id) (H := H) hc h0 hs).bare (args' := [.p lp id 0, .i l .i64 n]) rfl
    refine hk.weaken fun σ x r => ?_
    have := hv hn.1
    rw [← this] at r
    exact r.unbare
  split
  · rename_i hl
    simp only [Bool.and_eq_true, decide_eq_true_eq] at hl
    obtain ⟨k, e1, e2⟩ := splitK_sel (fun v => K v (setB H id (srcR o m (nxA ⟨b, o', m⟩ a n) (nxS h n))) (okB ⟨b, o', m⟩ o m :: nd)) (nxV ⟨b, o', m⟩ a h n) (n.toNat - 1)
    refine .inr ⟨_, _, _, e1, fun hn => main _ (fun hk => ?_) hn⟩
    have hg : goodB ⟨b, o', m⟩ = true := by simp only [okB, Bool.and_eq_true] at hk; exact hk.1.1
    have hb := nxV_bound hg a h n
    have hb2 := hb.2 hl.1.2
    have := e2 hb.1 (by omega)
    rw [this]; rfl
  · exact .inr ⟨_, _, _, rfl, fun hn => main _ (fun _ => rfl) hn⟩


noncomputable def rows4 (mx : Int) : List (FuncId × Table) := (72, nextM mx) :: rows3
theorem rows4_at (mx : Int) : allAt Tryz.prog (rows4 mx) := ⟨nextM_at mx, rows3_at⟩
noncomputable def tab4 (mx : Int) : Table := deep Tryz.prog (rows4 mx) [73] 2000 6
theorem tab4_sound (mx : Int) : SoundT Tryz.prog (tab4 mx) := deep_sound (allAt_mem (rows4_at mx)) 6
def formI3 : Form (Int × Int × Int) where
  get := fun
    | .tup [a, b, c] => match formI.get a, formI.get b, formI.get c with
      | some x, some y, some z => some (x, y, z)
      | _, _, _ => none
    | _ => none
  val := fun x => .tup [.i false .i64 x.1, .i false .i64 x.2.1, .i false .i64 x.2.2]
  rel := fun {v x} h σ y r => by
    split at h <;> (try (cases h; done))
    split at h <;> cases h
    rename_i a b c x1 x2 x3 h1 h2 h3
    cases r with | tup hr =>
    generalize hal : Array.toList _ = al at hr
    cases hr with | cons r1 hr => cases hr with | cons r2 hr => cases hr with | cons r3 hr => cases hr with | nil =>
    refine .tup ?_
    rw [hal]
    exact .cons (formI.rel h1 σ _ r1) (.cons (formI.rel h2 σ _ r2) (.cons (formI.rel h3 σ _ r3) .nil))
  low := fun _ => rfl
end Go.Ax

/- spec.l01DrawUnit: some number. -/
namespace Go.Ax
open Go Go.Proofs

noncomputable def uF (x : Int) (d : Nat) : Bool := fcvtOK .f64 .f32 (fdiv .f64 (FloatKind.f64.nearest (IntKind.i64.wrap x)) d)
noncomputable def unitNd (k : Bool) (x1 x2 : Int) : List Bool := [k, uF (x1 - 16777216) 4715268809856909312, k, k, k, uF (x1 - 16777216) 4715268809856909312, k, k, k, uF (x1 - 16777216) 4715268809856909312, k, k, k, uF (x1 - 16777216) 4769312005385355264, k, k, k,
  uF (x2 - 64) 4634204016564240384, k, k, k, k, k, k, k, k, k, k, k]
theorem uF_true (x : Int) (k : Int) (d : Nat) (hd : d = pow2 k) (h0 : fcvtOK .f64 .f32 (fdiv .f64 (FloatKind.f64.nearest 0) d) = true) (hx : -67108863 ≤ x ∧ x ≤ 67108863) (hk : 0 ≤ k) (hk' : k ≤ 100) : uF x d = true := by
  unfold uF
  rw [wrap64_id (by omega) (by omega)]
  by_cases hz : x = 0
  · subst hz; exact h0
  · rw [hd]; exact unit_ok x k (by omega) hz hk hk'
noncomputable def unitR (c : Cd) (a : Nat) (h : Int) : Option (Nat × Nat × Int × List Bool) :=
  srcEx formF c (runF Tryz.prog (tab4 7) 1000 182 [.p true 1 0] [codeB c false, srcB c a h] [] fun v H nd => .ret v H nd)
theorem unit_nd (c : Cd) (a : Nat) (h : Int) : (unitR c a h).map (fun r => r.2.2.2) = some (unitNd (okB c c.off c.len) (nxV c (nxA c a 6) (nxS h 6) 33554432) (nxV c (nxA c a 6) (nxS h 6) 129)) := by kernel_rfl
theorem unit_z1 : fcvtOK .f64 .f32 (fdiv .f64 (FloatKind.f64.nearest 0) 4715268809856909312) = true := by kernel_rfl
theorem unit_z2 : fcvtOK .f64 .f32 (fdiv .f64 (FloatKind.f64.nearest 0) 4769312005385355264) = true := by kernel_rfl
theorem unit_z3 : fcvtOK .f64 .f32 (fdiv .f64 (FloatKind.f64.nearest 0) 4634204016564240384) = true := by kernel_rfl
theorem unit_ex {c : Cd} (hc : goodB c = true) (a : Nat) (h : Int) : ∃ x a' h', SrcOK Tryz.prog 182 [] c a h (.f false .f32 x) a' h' := by
  have hn := unit_nd c a h
  have hk : okB c c.off c.len = true := by simp [okB, hc]
  cases hr : unitR c a h with
  | none => rw [hr] at hn; cases hn
  | some r =>
    obtain ⟨x, a', h', nd⟩ := r
    rw [hr] at hn
    simp only [Option.map_some, Option.some.injEq] at hn
    refine ⟨x, a', h', srcOK_of_ex (F := formF) (runF_sound (tab4_sound 7) 1000) hr ?_ rfl⟩
    rw [hn, hk]
    have b1 := nxV_bound hc (nxA c a 6) (nxS h 6) 33554432
    have b2 := nxV_bound hc (nxA c a 6) (nxS h 6) 129
    have b1' := b1.2 (by decide)
    have b2' := b2.2 (by decide)
    have e1 := uF_true (nxV c (nxA c a 6) (nxS h 6) 33554432 - 16777216) 24 4715268809856909312 (by kernel_rfl) unit_z1 (by omega) (by decide) (by decide)
    have e2 := uF_true (nxV c (nxA c a 6) (nxS h 6) 33554432 - 16777216) 36 4769312005385355264 (by kernel_rfl) unit_z2 (by omega) (by decide) (by decide)
    have e3 := uF_true (nxV c (nxA c a 6) (nxS h 6) 129 - 64) 6 4634204016564240384 (by kernel_rfl) unit_z3 (by omega) (by decide) (by decide)
    unfold unitNd
    rw [e1, e2, e3]
    rfl
noncomputable def unitV (c : Cd) (a : Nat) (h : Int) : Nat × Nat × Int :=
  open Classical in if hx : ∃ r : Nat × Nat × Int, SrcOK Tryz.prog 182 [] c a h (.f false .f32 r.1) r.2.1 r.2.2 then hx.choose else (0, a, h)
theorem unitV_ok {c : Cd} (hc : goodB c = true) (a : Nat) (h : Int) : SrcOK Tryz.prog 182 [] c a h (.f false .f32 (unitV c a h).1) (unitV c a h).2.1 (unitV c a h).2.2 := by
  obtain ⟨x, a', h', hx⟩ := unit_ex hc a h
  have he : ∃ r : Nat × Nat × Int, SrcOK Tryz.prog 182 [] c a h (.f false .f32 r.1) r.2.1 r.2.2 := ⟨(x, a', h'), hx⟩
  unfold unitV
  rw [dif_pos he]
  exact he.choose_spec
noncomputable def unitT : Table := srcT fun c a h sc => match sc with
  | [] => some (.f false .f32 (unitV c a h).1, (unitV c a h).2.1, (unitV c a h).2.2, [])
  | _ => none
theorem unit_at : SoundAt Tryz.prog 182 unitT := fun args H nd K => by
  refine srcT_sound (fun c a h sc v a' h' q hc hg _ => ?_) args H nd K
  split at hg <;> cases hg
  exact unitV_ok hc a h
end Go.Ax

/- spec.l01DrawComplex: some complex number. -/
namespace Go.Ax
open Go Go.Proofs

noncomputable def rows5 (mx : Int) : List (FuncId × Table) := (182, unitT) :: rows4 mx
theorem rows5_at (mx : Int) : allAt Tryz.prog (rows5 mx) := ⟨unit_at, rows4_at mx⟩
noncomputable def tab5 (mx : Int) : Table := deep Tryz.prog (rows5 mx) [73, 180] 2000 6
theorem tab5_sound (mx : Int) : SoundT Tryz.prog (tab5 mx) := deep_sound (allAt_mem (rows5_at mx)) 6
def formC : Form (Nat × Nat) where
  get := fun | .c _ .f32 x y => some (x, y) | _ => none
  val := fun x => .c false .f32 x.1 x.2
  rel := fun {v x} h σ y r => by
    split at h <;> cases h
    cases r with | c h1 h2 => exact .c h1 h2
  low := fun _ => rfl
end Go.Ax

/- spec.DrawFlatWave: some number and some complex number. -/
namespace Go.Ax
open Go Go.Proofs

noncomputable def rows6 (mx : Int) : List (FuncId × Table) := rows5 mx
theorem rows6_at (mx : Int) : allAt Tryz.prog (rows6 mx) := rows5_at mx
noncomputable def tab6 (mx : Int) : Table := deep Tryz.prog (rows6 mx) [73, 180] 2000 6
theorem tab6_sound (mx : Int) : SoundT Tryz.prog (tab6 mx) := deep_sound (allAt_mem (rows6_at mx)) 6
def formIC : Form (Int × Nat × Nat) where
  get := fun
    | .tup [a, b] => match formI.get a, formC.get b with
      | some x, some y => some (x, y.1, y.2)
      | _, _ => none
    | _ => none
  val := fun x => .tup [.i false .i64 x.1, .c false .f32 x.2.1 x.2.2]
  rel := fun {v x} h σ y r => by
    split at h <;> (try (cases h; done))
    split at h <;> cases h
    rename_i a b x1 x2 h1 h2
    cases r with | tup hr =>
    generalize hal : Array.toList _ = al at hr
    cases hr with | cons r1 hr => cases hr with | cons r2 hr => cases hr with | nil =>
    refine .tup ?_
    rw [hal]
    exact .cons (formI.rel h1 σ _ r1) (.cons (formC.rel h2 σ _ r2) .nil)
  low := fun _ => rfl
end Go.Ax

/- impl.halved and impl.modulo as table rows. -/
namespace Go.Ax
open Go Go.Proofs

/-- The phases for 8, 4, 2 and 1 parts of a turn. -/
def halvedV : AV := .agg [.c true .f32 1060439283 1060439283, .c true .f32 1064076127 1053028117, .c true .f32 1065030847 1044891073, .c true .f32 1065272429 1036565813]
noncomputable def tabD : Table := deep Tryz.prog [] [] 3000 8
theorem tabD_sound : SoundT Tryz.prog tabD := deep_sound (fun p hp => by cases hp) 8
theorem halved_run : joinR 0 (runF Tryz.prog tabD 3000 214 [] [] [] fun v H nd => .ret v H nd) = some (halvedV, []) := by kernel_rfl
theorem halved_ok (H : List AB) : CallOK Tryz.prog 214 [] H halvedV H := call_of_join (runF_sound tabD_sound 3000) halved_run rfl rfl H
def gHalved : List AV → Option (AV × List Bool)
  | [] => some (halvedV, [])
  | _ => none
theorem halved_at : SoundAt Tryz.prog 214 (pureT gHalved) := fun args H nd K => by
  refine pureT_sound (fun args v n h hn H => ?_) args H nd K
  unfold gHalved at h
  split at h <;> cases h
  exact halved_ok H

/-- k modulo 64, told one by one. -/
noncomputable def modT : Table := fun _ args H nd K => match args with
  | [.i _ .i64 k, .i l .i64 n] => match l && decide (n = 64) with
    | true => splitK (fun v => K v H nd) (k % 64) 63
    | false => .fail
  | _ => .fail
theorem mod_run (k : Int) : runF Tryz.prog noT 100 206 [.i false .i64 k, .i true .i64 64] [] [] (fun v H nd => .ret v H nd) = .ret (AV.i false IntKind.i64 ((IntKind.i64.wrap (k.tmod 64 + 64)).tmod 64)) [] [] := by kernel_rfl
theorem mod_val (k : Int) : (IntKind.i64.wrap (k.tmod 64 + 64)).tmod 64 = k % 64 := by
  have h1 : k.tmod 64 < 64 := Int.tmod_lt_of_pos k (by decide)
  have h2 : -64 < k.tmod 64 := by
    have := Int.lt_tmod_of_pos k (show (0 : Int) < 64 by decide); omega
  rw [wrap64_id (by omega) (by omega), Int.tmod_eq_emod_of_nonneg (by omega)]
  have h3 : k.tmod 64 = k - 64 * k.tdiv 64 := by have := Int.tmod_add_mul_tdiv k 64; omega
  omega
theorem mod_ok (k : Int) (H : List AB) : CallOK Tryz.prog 206 [.i false .i64 k, .i true .i64 64] H (.i false .i64 (k % 64)) H := by
  have h := mod_run k
  have := (call_of_sel (T := runF Tryz.prog noT 100) (H' := []) (runF_sound (noT_sound _) 100) (by rw [h]; rfl) rfl : CallOK Tryz.prog 206 [.i false .i64 k, .i true .i64 64] [] (AV.i false IntKind.i64 ((IntKind.i64.wrap (k.tmod 64 + 64)).tmod 64)) [])
  rw [mod_val] at this
  exact this.lift rfl rfl H rfl
theorem mod_at : SoundAt Tryz.prog 206 modT := fun args H nd K => by
  unfold modT
  split
  case h_2 => exact .inl rfl
  rename_i lk k l n
  split
  case h_2 => exact .inl rfl
  rename_i hl
  simp only [Bool.and_eq_true, decide_eq_true_eq] at hl
  obtain ⟨rfl, rfl⟩ := hl
  obtain ⟨j, e1, e2⟩ := splitK_sel (fun v => K v H nd) (k % 64) 63
  refine .inr ⟨_, _, _, e1, fun hn => ⟨hn, ?_⟩⟩
  have := e2 (by omega) (by omega)
  have h := (mod_ok k H).bare (args' := [.i lk .i64 k, .i true .i64 64]) rfl
  rw [this] at h
  exact h.weaken fun σ x r => (by cases r; exact .i _ _)
noncomputable def rowsP : List (FuncId × Table) := [(206, modT), (214, pureT gHalved)]
theorem rowsP_at : allAt Tryz.prog rowsP := ⟨mod_at, halved_at, trivial⟩
noncomputable def tabP : Table := deep Tryz.prog rowsP [] 3000 8
theorem tabP_sound : SoundT Tryz.prog tabP := deep_sound (allAt_mem rowsP_at) 8
end Go.Ax
