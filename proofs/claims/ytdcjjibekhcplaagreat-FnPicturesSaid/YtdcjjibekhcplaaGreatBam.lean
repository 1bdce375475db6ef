/- spec.l01DrawOf: some wave of a side. -/
import Derived.Test.YtdcjjibekhcplaaGreatBal
namespace Go.Ax
open Go Go.Proofs

noncomputable def rows8 (mx : Int) : List (FuncId × Table) := (220, simT) :: rows7 mx
theorem rows8_at (mx : Int) : allAt Tryz.prog (rows8 mx) := ⟨sim_at, rows7_at mx⟩
noncomputable def tab8 (mx : Int) : Table := tabOf (cdeep Tryz.prog (rows8 mx) [73, 180] 2000 6)
theorem tab8_sound (mx : Int) : SoundT Tryz.prog (tab8 mx) := cdeep_sound (allAt_mem (rows8_at mx)) 6

/-- A wave in memory. -/
def waveB (n : Int) (X : Nat → Nat × Nat) : AB := .cells true (.lit (waveL n X))
def getW : AB → Option (AV × List (Nat × Nat))
  | .cells true (.lit (s :: l)) => match asC64 l with
    | some xs => match Nat.beq xs.length 64 with
      | true => some (s.bare, xs)
      | false => none
    | none => none
  | _ => none
theorem getW_spec {B : AB} {n : Int} {xs : List (Nat × Nat)} (h : getW B = some (.i false .i64 n, xs)) : ∃ l, B = .cells true (.lit l) ∧ l.map AV.bare = (waveL n fun j => xs.getD j (0, 0)).map AV.bare := by
  unfold getW at h
  split at h <;> (try (cases h; done))
  rename_i s l
  split at h <;> (try (cases h; done))
  rename_i xs' hx
  split at h <;> (try (cases h; done))
  rename_i hlen
  simp only [Option.some.injEq, Prod.mk.injEq] at h
  obtain ⟨hs, rfl⟩ := h
  refine ⟨_, rfl, ?_⟩
  have hlen := Nat.eq_of_beq_eq_true hlen
  have e1 := asC64_bare hx
  rw [map_range_getD (fun z => AV.c false .f32 z.1 z.2) (0, 0) xs' 64 hlen] at e1
  simp only [waveL, List.map_cons, e1, hs]
  rw [List.map_map]
  rfl
/-- Memory: the bytes, the source, a place for the result, a wave. -/
def getSW (H : List AB) : Option (Nat × Int × List (Nat × Nat)) :=
  match readSrc (getB H 1), getW (getB H 3) with
  | some (_, _, a, h), some (_, xs) => some (a, h, xs)
  | _, _ => none
def fixSW (H : List AB) : Nat × AB × Option (Nat × Nat) × AB × Option AV :=
  (H.length, getB H 0, (readSrc (getB H 1)).map (fun z => (z.1, z.2.1)), getB H 2, (getW (getB H 3)).map (·.1))
def zeroW : AB := .cells true (.lit (.i true .i64 0 :: List.replicate 64 (.c true .f32 0 0)))
def memSW (c : Cd) (a : Nat) (h : Int) (n : Int) (X : Nat → Nat × Nat) : List AB := [codeB c false, srcB c a h, zeroW, waveB n X]
theorem getSW_spec {H : List AB} {c : Cd} {a : Nat} {h n : Int} {xs : List (Nat × Nat)} (hg : getSW H = some (a, h, xs)) (hf : fixSW H = (4, codeB c false, some (c.off, c.len), zeroW, some (.i false .i64 n))) : HEq H (memSW c a h n fun j => xs.getD j (0, 0)) := by
  unfold fixSW at hf
  simp only [Prod.mk.injEq] at hf
  obtain ⟨h1, h2, h3, h4, h5⟩ := hf
  match H, h1 with
  | [A, B, C, D], _ =>
    have e2 : A = codeB c false := h2
    have e4 : C = zeroW := h4
    subst e2; subst e4
    unfold getSW at hg
    have k1 : getB [codeB c false, B, zeroW, D] 1 = B := rfl
    have k3 : getB [codeB c false, B, zeroW, D] 3 = D := rfl
    rw [k1, k3] at hg
    rw [k1] at h3
    rw [k3] at h5
    cases hB : readSrc B with
    | none => rw [hB] at hg; cases hg
    | some s =>
      obtain ⟨o, m, a', h'⟩ := s
      cases hD : getW D with
      | none => rw [hB, hD] at hg; cases hg
      | some w =>
        obtain ⟨s0, xs'⟩ := w
        rw [hB] at h3
        rw [hD] at h5
        rw [hB, hD] at hg
        simp only [Option.map_some, Option.some.injEq, Prod.mk.injEq] at h3 h5 hg
        obtain ⟨rfl, rfl⟩ := h3
        obtain ⟨rfl, rfl, rfl⟩ := hg
        obtain ⟨l1, l2, l3, rfl⟩ := readSrc_spec hB
        rw [h5] at hD
        obtain ⟨l, rfl, hl⟩ := getW_spec hD
        exact HEq.cons ⟨rfl, rfl, fun _ _ _ h => h⟩ (HEq.cons src_same (HEq.cons ⟨rfl, rfl, fun _ _ _ h => h⟩ (HEq.cons (blk_bare hl) (HEq.refl []))))

noncomputable def doC : Code := Tryz.f203.body.getD .skip
noncomputable def doT0 (n : Int) : List AV := .p true 1 0 :: .i true .i64 n :: undefs 63
noncomputable def do0 (c : Cd) (a : Nat) (h n : Int) : Res := cupto Tryz.prog (tab8 7) atLoop 200 [.code doC] (doT0 n) [codeB c false, srcB c a h]
noncomputable def doL : List Item := ((do0 ⟨[], 0, 0⟩ 0 0 1).at [false]).todo
def doT (n kd k : Int) : List AV := [.p true 1 0, .i true .i64 n, .any, .any, .p true 2 0, .p true 3 0, .i false .i64 kd, .i true .i64 k] ++ List.replicate 57 .any
def doM : List Bool := [false, false, true, true, false, false, false, false] ++ List.replicate 57 true
noncomputable def doRd (L : List Item) (c : Cd) (a : Nat) (h n kd k : Int) (X : Nat → Nat × Nat) : Res := cupto Tryz.prog (tab8 7) atLoop 200 L (doT n kd k) (memSW c a h n X)
def hdR : List Leaf → List Item
  | x :: _ => x.todo
  | [] => []
noncomputable def doR : List Item := hdR (doRd doL ⟨[], 0, 0⟩ 0 0 1 0 0 fun _ => (0, 0)).stops
def fvSW (c : Cd) (n : Int) : Nat × AB × Option (Nat × Nat) × AB × Option AV := (4, codeB c false, some (c.off, c.len), zeroW, some (.i false .i64 n))
theorem doR_eq : toLp doL = doR := by kernel_rfl
def doNs : List (Nat × Int) := [(1, 1), (4, 2), (16, 4), (64, 8)]
theorem do_rd (N : Nat) (n : Int) (hn : (N, n) ∈ doNs) (c : Cd) (a : Nat) (h kd : Int) (X : Nat → Nat × Nat) : ((List.range N).map fun k => (doRd doR c a h n kd (Int.ofNat k) X).pack doM getSW fixSW) =
    (List.range N).map fun k => packed doR ((doT n kd (Int.ofNat (k + 1))).map AV.bare) (fvSW c n) 7 18 (okB c c.off c.len) := by
  simp only [doNs, List.mem_cons, Prod.mk.injEq, List.not_mem_nil, or_false] at hn
  rcases hn with ⟨rfl, rfl⟩ | ⟨rfl, rfl⟩ | ⟨rfl, rfl⟩ | ⟨rfl, rfl⟩ <;> kernel_rfl

theorem do_end (N : Nat) (n : Int) (hn : (N, n) ∈ doNs) (c : Cd) (a : Nat) (h kd : Int) (X : Nat → Nat × Nat) : endOf Tryz.prog Tryz.f203.results.toList (doRd doR c a h n kd (Int.ofNat N) X) = some (some ([wv n X], []), [codeB c false, srcB c a h, waveB n X, waveB n X], []) := by
  simp only [doNs, List.mem_cons, Prod.mk.injEq, List.not_mem_nil, or_false] at hn
  rcases hn with ⟨rfl, rfl⟩ | ⟨rfl, rfl⟩ | ⟨rfl, rfl⟩ | ⟨rfl, rfl⟩ <;> kernel_rfl
theorem do_cond (N : Nat) (n : Int) (hn : (N, n) ∈ doNs) (c : Cd) (a : Nat) (h : Int) : (do0 c a h n).conds [false] = [nxV c a h 8 == 0] ∧ (do0 c a h n).conds [true] = [nxV c a h 8 == 0] := by
  simp only [doNs, List.mem_cons, Prod.mk.injEq, List.not_mem_nil, or_false] at hn
  rcases hn with ⟨rfl, rfl⟩ | ⟨rfl, rfl⟩ | ⟨rfl, rfl⟩ | ⟨rfl, rfl⟩ <;> constructor <;> kernel_rfl
theorem do_start (N : Nat) (n : Int) (hn : (N, n) ∈ doNs) (c : Cd) (a : Nat) (h : Int) : ((do0 c a h n).at [false]).pack doM getSW fixSW = packed doL ((doT n (nxV c a h 8) 0).map AV.bare) (fvSW c n) 1 1 (okB c c.off c.len) := by
  simp only [doNs, List.mem_cons, Prod.mk.injEq, List.not_mem_nil, or_false] at hn
  rcases hn with ⟨rfl, rfl⟩ | ⟨rfl, rfl⟩ | ⟨rfl, rfl⟩ | ⟨rfl, rfl⟩ <;> kernel_rfl
/-- One wave: its numbers, and the state of the source. -/
noncomputable def oneW (r : Option (Option (List AV × List Bool) × List AB × List Bool)) : Option (Int × (Nat → Nat × Nat) × Nat × Int × Nat × Nat × List Bool) :=
  match r with
  | some (some ([.agg l], m), H, nd) => match ofW l, readSrc (getB H 1) with
    | some (n, X), some (o, k, a, h) => some (n, X, a, h, o, k, m ++ nd)
    | _, _ => none
  | _ => none
noncomputable def oneW2 (r : Option (Int × (Nat → Nat × Nat) × Nat × Int × Nat × Nat × List Bool)) : Option (Int × Nat × Nat × List Bool) :=
  match r with
  | some (n, _, _, _, o, k, nd) => some (n, o, k, nd)
  | none => none
theorem do_zero (N : Nat) (n : Int) (hn : (N, n) ∈ doNs) (c : Cd) (a : Nat) (h : Int) : oneW2 (oneW (endOf Tryz.prog Tryz.f203.results.toList ((do0 c a h n).at [true]))) = some (n, c.off, c.len, List.replicate 3 (okB c c.off c.len)) := by
  simp only [doNs, List.mem_cons, Prod.mk.injEq, List.not_mem_nil, or_false] at hn
  rcases hn with ⟨rfl, rfl⟩ | ⟨rfl, rfl⟩ | ⟨rfl, rfl⟩ | ⟨rfl, rfl⟩ <;> kernel_rfl
theorem wv_low (n : Int) (X : Nat → Nat × Nat) : below 0 (wv n X) = true := by
  have : ∀ l : List Nat, belowL 0 (l.map (cx X)) = true := fun l => by
    induction l with
    | nil => rfl
    | cons j l ih => simp [belowL, cx, below, ih]
  simp [wv, waveL, below, belowL, this]
theorem srcB_read (c : Cd) (a : Nat) (h : Int) : readSrc (srcB c a h) = some (c.off, c.len, a, h) := rfl
theorem do_rounds {N : Nat} {n : Int} (hn : (N, n) ∈ doNs) {c : Cd} (hc : goodB c = true) {todoS : List Item} {tS : List AV} {HS : List AB} (kd : Int) : ∀ (m k : Nat) (a : Nat) (h : Int) (X : Nat → Nat × Nat), k + m = N →
    Reach Tryz.prog todoS tS HS doR (doT n kd (Int.ofNat k)) (memSW c a h n X) → ∃ a' h' X', Reach Tryz.prog todoS tS HS doR (doT n kd (Int.ofNat N)) (memSW c a' h' n X')
  | 0, k, a, h, X, hk, hr => by
    have : k = N := by omega
    subst this
    exact ⟨a, h, X, hr⟩
  | m + 1, k, a, h, X, hk, hr => by
    have hok : okB c c.off c.len = true := by simp [okB, hc]
    have h1 := map_mem (do_rd N n hn c a h kd X) (x := k) (by simp; omega)
    obtain ⟨H1, x, e1, e2, e3⟩ := (Steps1.of h1).reach (tab8_sound 7) hok rfl
    obtain ⟨a', h', xs⟩ := x
    have e4 := (hr.trans e3).post (getSW_spec e1 e2)
    exact do_rounds hn hc kd m (k + 1) a' h' _ (by omega) e4
theorem drawOf_ex {c : Cd} (hc : goodB c = true) (a : Nat) (h n : Int) (hn : n = 1 ∨ n = 2 ∨ n = 4 ∨ n = 8) : ∃ X a' h', SrcOK Tryz.prog 203 [.i false .i64 n] c a h (wv n X) a' h' := by
  have hok : okB c c.off c.len = true := by simp [okB, hc]
  obtain ⟨N, hN⟩ : ∃ N, (N, n) ∈ doNs := by
    rcases hn with rfl | rfl | rfl | rfl
    · exact ⟨1, by simp [doNs]⟩
    · exact ⟨4, by simp [doNs]⟩
    · exact ⟨16, by simp [doNs]⟩
    · exact ⟨64, by simp [doNs]⟩
  have hb : Tryz.f203.body = some doC := rfl
  obtain ⟨c1, c2⟩ := do_cond N n hN c a h
  have fin : ∀ {t : List AV} {H : List AB} {v : AV} {m : List Bool} {a' : Nat} {h' : Int} {X : Nat → Nat × Nat}, Ends Tryz.prog [.code doC] (doT0 n) [codeB c false, srcB c a h] t H → resV Tryz.prog t H Tryz.f203.results.toList = some ([v], m) → allT m = true →
      (∀ (σ : List (Nat × Nat)) (x : Value), Rel σ v x → Rel σ (wv n X) x) → readSrc (getB H 1) = some (c.off, c.len, a', h') → SrcOK Tryz.prog 203 [.i false .i64 n] c a h (wv n X) a' h' := fun {t H v m a' h' X} he hr hm hv hs => by
    have h1 : CallOK Tryz.prog 203 [.p true 1 0, .i true .i64 n] [codeB c false, srcB c a h] v H := call_of_ends (args := [.p true 1 0, .i true .i64 n]) Tryz.func203 hb he hr hm
    exact ⟨H, (h1.weaken hv).bare (args' := [.p true 1 0, .i false .i64 n]) rfl, hs, wv_low n X, rfl⟩
  by_cases hz : nxV c a h 8 = 0
  · have hz0 := do_zero N n hN c a h
    cases he : oneW (endOf Tryz.prog Tryz.f203.results.toList ((do0 c a h n).at [true])) with
    | none => rw [he] at hz0; cases hz0
    | some z =>
      obtain ⟨n', X, a', h', o, k, nd⟩ := z
      rw [he] at hz0
      simp only [oneW2, Option.some.injEq, Prod.mk.injEq] at hz0
      obtain ⟨rfl, rfl, rfl, hnd⟩ := hz0
      unfold oneW at he
      split at he <;> (try (cases he; done))
      rename_i l m H nd0 hend
      split at he <;> (try (cases he; done))
      rename_i n0 X0 o0 k0 a0 h0 hW hS
      simp only [Option.some.injEq, Prod.mk.injEq] at he
      obtain ⟨rfl, rfl, rfl, rfl, rfl, rfl, hmn⟩ := he
      have hall : allT (m ++ nd0) = true := by rw [hmn, hnd, hok]; rfl
      rw [allT_append, Bool.and_eq_true] at hall
      have hsel : (do0 c a h n0).sel = ((do0 c a h n0).at [true]).sel := Res.sel_at [true] _ (by rw [c2]; simp [hz])
      obtain ⟨t, e1, e2⟩ := endOf_ends (tab8_sound 7) hend hsel hall.2
      exact ⟨X0, a0, h0, fin e1 e2 hall.1 (fun σ x r => by have := r.deep; rw [ofW_spec hW] at this; exact this.undeep) hS⟩
  · have hsel : (do0 c a h n).sel = ((do0 c a h n).at [false]).sel := Res.sel_at [false] _ (by rw [c1]; simp [hz])
    obtain ⟨H1, x, e1, e2, e3⟩ := (Steps1.of (do_start N n hN c a h)).reach_sel (tab8_sound 7) hsel hok rfl
    obtain ⟨a1, h1, xs⟩ := x
    have e4 := e3.post (getSW_spec e1 e2)
    -- the loop's head, by either name
    have e5 : ∃ a' h' X', Reach Tryz.prog [.code doC] (doT0 n) [codeB c false, srcB c a h] doR (doT n (nxV c a h 8) (Int.ofNat N)) (memSW c a' h' n X') := by
      have hN0 : 0 < N := by simp only [doNs, List.mem_cons, Prod.mk.injEq, List.not_mem_nil, or_false] at hN; omega
      have k1 := map_mem (do_rd N n hN c a1 h1 (nxV c a h 8) fun j => xs.getD j (0, 0)) (x := 0) (by simp; omega)
      have k2 : (cupto Tryz.prog (tab8 7) atLoop 200 doL (doT n (nxV c a h 8) (Int.ofNat 0)) (memSW c a1 h1 n fun j => xs.getD j (0, 0))).sel = (doRd doR c a1 h1 n (nxV c a h 8) (Int.ofNat 0) fun j => xs.getD j (0, 0)).sel := by
        unfold doRd
        rw [← doR_eq, cupto_toLp]
      obtain ⟨H2, x2, f1, f2, f3⟩ := (Steps1.of k1).reach_sel (tab8_sound 7) k2 hok rfl
      obtain ⟨a2, h2, xs2⟩ := x2
      exact do_rounds hN hc _ (N - 1) 1 a2 h2 _ (by omega) ((e4.trans f3).post (getSW_spec f1 f2))
    obtain ⟨a', h', X', e6⟩ := e5
    obtain ⟨t, g1, g2⟩ := endOf_ends (tab8_sound 7) (do_end N n hN c a' h' (nxV c a h 8) X') rfl rfl
    exact ⟨X', a', h', fin (e6.ends g1) g2 rfl (fun _ _ r => r) rfl⟩
end Go.Ax
