/- impl.UnwrapFlood: the queue cut, and appended to. -/
import Derived.Test.YtdcjjibekhcplaaEbb
namespace Go.Ax
open Go Go.Proofs

def qId (b : Bool) : Nat := cond b 5 4
/-! ### The append -/
section
variable (A B C D a d : AB) (qs : List Int) (off L : Nat) (b : Bool) (n : Int) (N p i : Nat) (v u : Int)
def q24H (Q : AB) : List AB := A :: B :: C :: D :: (qMem b Q a ++ [d])
def w24T (s : AV) : List AV := uiTl b n N p i s [(182, s), (186, .sl true 7 0 1 2)]
def w24M : List Bool := maskOf 193 [(0, .any), (1, .any), (7, .any), (13, .any), (14, .any), (15, .any), (16, .any), (17, .any), (120, .any), (121, .any), (182, .any), (186, .any)]
def litVU : AB := .cells true (.lit [.i true .i64 v, .i true .i64 u])
noncomputable def w24 : Res := runOps Try.prog tabUf (opsOf u24L) ((opsOf u24L).toList.take 5) (v24T b n N p i (.sl false (qId b) off L 2) v u) (q24H A B C D a d b (.cells true (.ints .i64 qs))) [] fun t H nd => .stop [] t H nd
theorem w24_ok : lfM w24M (w24 A B C D a d qs off L b n N p i v u) = (true, [], (w24T b n N p i (.sl false (qId b) off L 2)).map AV.bare, q24H A B C D a d b (.cells true (.ints .i64 qs)) ++ [litVU v u], []) := by cases b <;> kernel_rfl
/-- The queue behind the append. -/
def litQ (qs' : List Int) : AB := .cells true (.lit (qs'.map (AV.i false .i64) ++ [.i true .i64 v, .i true .i64 u]))
def x24 (off' : Nat) (qs' : List Int) : AV × List AB := (.sl false 8 off' (L + 1) 2, q24H A B C D a d b .dead ++ [litVU v u, litQ v u qs'])
theorem a24_ok : aAppO Try.prog #[130, 130] [.sl false (qId b) off L 2, .sl true 7 0 1 2] (q24H A B C D a d b (.cells true (.ints .i64 qs)) ++ [litVU v u]) =
    some (x24 A B C D a d L b v u off qs, x24 A B C D a d L b v u 0 ((qs.drop off).take (L * 2)), [decide (2 = 2) && decide (off + L * 2 = qs.length) && decide ((2 * (L + 1) + 1024) * 16 ≤ 2 ^ 48)]) := by cases b <;> kernel_rfl
theorem p24_ok (s : AV) (s' : AV) (H : List AB) : lfM uiM (runOps Try.prog tabUf (opsOf u24L) ((opsOf u24L).toList.drop 6) (putT (w24T b n N p i s) (some 187) s') H [] fun t H nd => .stop [] t H nd) = (true, [], (uiTl b n N p i s' []).map AV.bare, H, []) := by cases b <;> kernel_rfl
end
theorem o24_at : (opsOf u24L)[5]?.map (fun o => (o.guard, o.dst, o.op)) = some (none, some 187, .call { callee := .builtin .append, args := #[.tmp 182, .tmp 186], argTypes := #[130, 130] }) := by kernel_rfl
theorem o24_size : (opsOf u24L).size = 7 := by kernel_rfl
theorem reg24 {A B C D a d : AB} {qs : List Int} {off L : Nat} {b : Bool} {n : Int} {N p i : Nat} {v u : Int} (hq : off + L * 2 = qs.length) (hL : L ≤ 64) :
    ReachS Try.prog u24L (v24T b n N p i (.sl false (qId b) off L 2) v u) (q24H A B C D a d b (.cells true (.ints .i64 qs))) (tlOf u24L) fun t H => ∃ off' qs', (off' = off ∧ qs' = qs ∨ off' = 0 ∧ qs' = qs.drop off) ∧
      t = uiTl b n N p i (.sl false 8 off' (L + 1) 2) [] ∧ H = q24H A B C D a d b .dead ++ [litVU v u, litQ v u qs'] := by
  have ho : ∃ o, (opsOf u24L)[5]? = some o ∧ o.guard = none ∧ o.dst = some 187 ∧ o.op = .call { callee := .builtin .append, args := #[.tmp 182, .tmp 186], argTypes := #[130, 130] } := by
    have h := o24_at
    cases ho : (opsOf u24L)[5]? with
    | none => rw [ho] at h; cases h
    | some o =>
      rw [ho] at h
      simp only [Option.map_some, Option.some.injEq, Prod.mk.injEq] at h
      exact ⟨o, rfl, h.1, h.2.1, h.2.2⟩
  obtain ⟨o, ho, hg, hd, hop⟩ := ho
  obtain ⟨t1, e1, q1⟩ := lfM_run (w24_ok A B C D a d qs off L b n N p i v u)
  have htake : (qs.drop off).take (L * 2) = qs.drop off := List.take_of_length_le (by rw [List.length_drop]; omega)
  have ha := a24_ok A B C D a d qs off L b v u
  rw [htake] at ha
  have hnd : allT [decide (2 = 2) && decide (off + L * 2 = qs.length) && decide ((2 * (L + 1) + 1024) * 16 ≤ 2 ^ 48)] = true := by
    have : (2 * (L + 1) + 1024) * 16 ≤ 2 ^ 48 := Nat.le_trans (by omega : _ ≤ 20000) (by decide)
    simp [allT, hq]
    omega
  have hev : (#[Operand.tmp 182, Operand.tmp 186] : Array Operand).toList.map (evA (w24T b n N p i (.sl false (qId b) off L 2))) = [.sl false (qId b) off L 2, .sl true 7 0 1 2] := by cases b <;> rfl
  have hS := appO_op (P := Try.prog) (t := w24T b n N p i (.sl false (qId b) off L 2)) ho hg hop (by rw [hop]; simp [Op.operands, Call.operands, okOpd]) (by rw [hev]; exact ha) hnd
  have hS1 : OpS Try.prog (opsOf u24L) 5 t1 _ _ := fun σ w ac Q next s r q => hS σ w ac Q next s (q1.relL r) q
  rw [hd] at hS1
  rw [u24L_eq]
  refine ReachS.weak (S := fun t H => ∃ t', Eqv t t' ∧ ∃ off' qs', (off' = off ∧ qs' = qs ∨ off' = 0 ∧ qs' = qs.drop off) ∧
      t' = uiTl b n N p i (.sl false 8 off' (L + 1) 2) [] ∧ H = q24H A B C D a d b .dead ++ [litVU v u, litQ v u qs']) ?_ (fun t H h => h)
  refine regionS tabUf_sound (by rw [o24_size]; decide) e1 rfl hS1 fun t2 H2 h2 => ?_
  rcases h2 with ⟨rfl, rfl⟩ | ⟨rfl, rfl⟩
  · obtain ⟨t3, e3, q3⟩ := lfM_run (p24_ok b n N p i (.sl false (qId b) off L 2) (.sl false 8 off (L + 1) 2) (q24H A B C D a d b .dead ++ [litVU v u, litQ v u qs]))
    exact ⟨t3, _, [], e3, rfl, _, q3, off, _, .inl ⟨rfl, rfl⟩, rfl, rfl⟩
  · obtain ⟨t3, e3, q3⟩ := lfM_run (p24_ok b n N p i (.sl false (qId b) off L 2) (.sl false 8 0 (L + 1) 2) (q24H A B C D a d b .dead ++ [litVU v u, litQ v u (qs.drop off)]))
    exact ⟨t3, _, [], e3, rfl, _, q3, 0, _, .inr ⟨rfl, rfl⟩, rfl, rfl⟩
/-- Behind the append. -/
noncomputable def t24 (b : Bool) (n : Int) (N p i : Nat) (s : AV) (H : List AB) : Res := cupto Try.prog tabUf atLoop 200 (tlOf u24L) (uiTl b n N p i s []) H
theorem t24_ok (b : Bool) (n : Int) (N p : Nat) (s : AV) (H : List AB) : (List.range 4).map (fun i => (condsP (t24 b n N p i s H) [], lfM uiM (t24 b n N p i s H))) = (List.range 4).map fun i => ([], true, uiR, (uiTl b n N p (i + 1) s []).map AV.bare, H, []) := by cases b <;> kernel_rfl
/-- The append to an empty slice. -/
noncomputable def e24 (A B C D Q a d : AB) (n : Int) (N p i : Nat) (v u : Int) : Res := cupto Try.prog tabUf atLoop 200 u24L (v24T false n N p i .sle v u) (q24H A B C D a d false Q)
theorem e24_ok (A B C D Q a d : AB) (n : Int) (N p : Nat) (v u : Int) : (List.range 4).map (fun i => (condsP (e24 A B C D Q a d n N p i v u) [], lfM uiM (e24 A B C D Q a d n N p i v u))) =
    (List.range 4).map fun i => ([], true, uiR, (uiTl false n N p (i + 1) (.sl true 8 0 1 2) []).map AV.bare, q24H A B C D a d false Q ++ [litVU v u, litVU v u], []) := by kernel_rfl
/-! ### The cut -/
section
variable (A B C D a : AB) (qs : List Int) (off L : Nat) (n : Int) (N : Nat)
def q13H : List AB := [A, B, C, D, .cells true (.ints .i64 qs), a]
def w13T (s : AV) (r : List (Nat × AV)) : List AV := ugTl n N s ([(16, .p true 5 0)] ++ r)
def w13M : List Bool := maskOf 193 [(0, .any), (1, .any), (7, .any), (13, .any), (14, .any), (15, .any), (16, .any), (107, .any)]
def w13N : List Bool := maskOf 193 [(0, .any), (1, .any), (7, .any), (13, .any), (14, .any), (15, .any), (16, .any)]
noncomputable def w13 : Res := runOps Try.prog tabUf (opsOf u3L) ((opsOf u3L).toList.take 1) (w13T n N (.sl false 4 off L 2) []) (q13H A B C D a qs) [] fun t H nd => .stop [] t H nd
theorem w13_ok : lfM w13M (w13 A B C D a qs off L n N) = (true, [], (w13T n N (.sl false 4 off L 2) [(107, .sl false 4 off L 2)]).map AV.bare, q13H A B C D a qs, []) := by kernel_rfl
theorem p13_ok (s s' : AV) (H : List AB) : lfM w13N (runOps Try.prog tabUf (opsOf u3L) ((opsOf u3L).toList.drop 2) (putT (w13T n N s [(107, s)]) (some 108) s') H [] fun t H nd => .stop [] t H nd) = (true, [], (w13T n N s' []).map AV.bare, H, []) := by kernel_rfl
end
theorem o13_at : (opsOf u3L)[1]?.map (fun o => (o.guard, o.dst, o.op)) = some (none, some 108, .slice 130 (.tmp 107) (some (.const (.int .i64 ((1 : Nat) : Int)))) none none) := by kernel_rfl
theorem o13_size : (opsOf u3L).size = 3 := by kernel_rfl
theorem t130_under : Try.prog.underlying 130 = some (.slice 129) := by kernel_rfl
theorem t129_size : szA Try.prog 129 = some 2 := by kernel_rfl
theorem reg13 {A B C D a : AB} {qs : List Int} {off L : Nat} {n : Int} {N : Nat} (hL : 0 < L) :
    ReachS Try.prog u3L (w13T n N (.sl false 4 off L 2) []) (q13H A B C D a qs) (tlOf u3L) fun t H => ∃ s, (s = .sl false 4 (off + 2) (L - 1) 2 ∨ L = 1 ∧ s = .sle) ∧ t = w13T n N s [] ∧ H = q13H A B C D a qs := by
  have ho : ∃ o, (opsOf u3L)[1]? = some o ∧ o.guard = none ∧ o.dst = some 108 ∧ o.op = .slice 130 (.tmp 107) (some (.const (.int .i64 ((1 : Nat) : Int)))) none none := by
    have h := o13_at
    cases ho : (opsOf u3L)[1]? with
    | none => rw [ho] at h; cases h
    | some o =>
      rw [ho] at h
      simp only [Option.map_some, Option.some.injEq, Prod.mk.injEq] at h
      exact ⟨o, rfl, h.1, h.2.1, h.2.2⟩
  obtain ⟨o, ho, hg, hd, hop⟩ := ho
  obtain ⟨t1, e1, q1⟩ := lfM_run (w13_ok A B C D a qs off L n N)
  have hS := sliceO_op (P := Try.prog) (t := w13T n N (.sl false 4 off L 2) [(107, .sl false 4 off L 2)]) (H := q13H A B C D a qs) (x := .tmp 107) (l := false) (id := 4) (off := off) (len := L) (z := 2) (a := 1) ho hg hop rfl rfl t130_under t129_size hL (by decide)
  have hS1 : OpS Try.prog (opsOf u3L) 1 t1 _ _ := fun σ w ac Q next s r q => hS σ w ac Q next s (q1.relL r) q
  rw [hd] at hS1
  rw [u3L_eq]
  refine ReachS.weak (S := fun t H => ∃ t', Eqv t t' ∧ ∃ s, (s = .sl false 4 (off + 2) (L - 1) 2 ∨ L = 1 ∧ s = .sle) ∧ t' = w13T n N s [] ∧ H = q13H A B C D a qs) ?_ (fun t H h => h)
  refine regionS tabUf_sound (by rw [o13_size]; decide) e1 rfl hS1 fun t2 H2 h2 => ?_
  rcases h2 with ⟨rfl, rfl⟩ | ⟨hl, rfl, rfl⟩
  · obtain ⟨t3, e3, q3⟩ := lfM_run (p13_ok n N (.sl false 4 off L 2) (.sl false 4 (off + 1 * 2) (L - 1) 2) (q13H A B C D a qs))
    exact ⟨t3, _, [], e3, rfl, _, q3, _, .inl rfl, rfl, rfl⟩
  · obtain ⟨t3, e3, q3⟩ := lfM_run (p13_ok n N (.sl false 4 off L 2) .sle (q13H A B C D a qs))
    exact ⟨t3, _, [], e3, rfl, _, q3, _, .inr ⟨hl, rfl⟩, rfl, rfl⟩
end Go.Ax
