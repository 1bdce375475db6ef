/- spec.l01Phase and spec.PhaseOf for every k. -/
import Derived.Test.YtdcjjibekhcplaaDas
namespace Go.Ax
open Go Go.Proofs

def spX (k : Int) : Nat := spXs.getD (k % 64).toNat 0
def spY (k : Int) : Nat := spYs.getD (k % 64).toNat 0
theorem sp_leaf (j : Nat) (h : spChk j = true) : ∃ l H nd, spRun j = .ret (.c l .f32 (spXs.getD j 0) (spYs.getD j 0)) H nd ∧ nd = [] ∧ H = [] := by
  unfold spChk at h
  split at h <;> (try (cases h; done))
  rename_i v H nd hr
  split at h <;> (try (cases h; done))
  rename_i l x y
  simp only [Bool.and_eq_true] at h
  obtain ⟨⟨⟨h1, h2⟩, h3⟩, h4⟩ := h
  have e1 := Nat.eq_of_beq_eq_true h1
  have e2 := Nat.eq_of_beq_eq_true h2
  exact ⟨l, H, nd, by rw [hr, e1, e2], by simpa using h3, by simpa using h4⟩
theorem sp_ok (k : Int) (H : List AB) : CallOK Try.prog 195 [.i false .i64 k] H (.c false .f32 (spX k) (spY k)) H := by
  obtain ⟨e1, e2⟩ := sp0_fin k
  rw [mod_val] at e2
  obtain ⟨t0, e3, e4⟩ := leafM_stop e1 e2
  have hj : (k % 64).toNat < 64 := by omega
  have hk : k % 64 = Int.ofNat (k % 64).toNat := by simp; omega
  have hr : Reach Try.prog [.code spC] (.i false .i64 k :: undefs 53) [] spL (spT true (Int.ofNat (k % 64).toNat)) [] := by
    have h1 : Reach Try.prog [.code spC] (.i false .i64 k :: undefs 53) [] spL t0 [] := by
      refine toLoop_reach (n := 100) (nd := []) hT0 (T := noT) ?_ rfl
      have := e3
      unfold sp0 at this
      rw [this]; rfl
    refine (h1.weak (blur_eqv spM t0)).weak (eqv_of_bare ?_)
    rw [← e4, ← hk]
    rfl
  obtain ⟨l, H1, nd, e5, rfl, rfl⟩ := sp_leaf _ (sp_all _ hj)
  have e6 : (run Try.prog tabH 3000 spL (spT true (Int.ofNat (k % 64).toNat)) [] [] (retK Try.prog Try.f195 fun v H nd => .ret v H nd)).sel = .ret (.c l .f32 (spXs.getD (k % 64).toNat 0) (spYs.getD (k % 64).toNat 0)) [] [] := by
    unfold spRun at e5
    rw [e5]; rfl
  have hb : Try.f195.body = some spC := rfl
  have := call_of_stage tabH_sound (args := [.i false .i64 k]) Try.func195 hb hr e6 rfl
  exact (this.lift rfl rfl H rfl).weaken fun σ x r => (by cases r with | c h1 h2 => exact .c h1 h2)
def gSp : List AV → Option (AV × List Bool)
  | [.i _ .i64 k] => some (.c false .f32 (spX k) (spY k), [])
  | _ => none
theorem sp_at : SoundAt Try.prog 195 (pureT gSp) := fun args H nd K => by
  refine pureT_sound (fun args v n h hn H => ?_) args H nd K
  unfold gSp at h
  split at h <;> cases h
  rename_i l k
  exact (sp_ok k H).bare (args' := [.i l .i64 k]) rfl
end Go.Ax

/- spec.PhaseOf: the same as impl.PhaseOf. -/
namespace Go.Ax
open Go Go.Proofs

noncomputable def rowsS : List (FuncId × Table) := [(195, pureT gSp)]
theorem rowsS_at : allAt Try.prog rowsS := ⟨sp_at, trivial⟩
noncomputable def tabS : Table := deep Try.prog rowsS [] 300 5
theorem tabS_sound : SoundT Try.prog tabS := deep_sound (allAt_mem rowsS_at) 5
/-- A zero made positive. -/
theorem spec_run (k : Int) : joinR 0 (runF Try.prog tabS 300 11 [.i false .i64 k] [] [] fun v H nd => .ret v H nd) = some (.c false .f32 (plusF (spX k)) (plusF (spY k)), []) := by kernel_rfl
theorem plus_all : ((List.range 64).all fun j => Nat.beq (plusF (spXs.getD j 0)) (phXs.getD j 0) && Nat.beq (plusF (spYs.getD j 0)) (phYs.getD j 0)) = true := by kernel_rfl
theorem plus_ph (k : Int) : plusF (spX k) = phX k ∧ plusF (spY k) = phY k := by
  have hj : (k % 64).toNat < 64 := by omega
  have h := List.all_eq_true.1 plus_all (k % 64).toNat (by simpa using hj)
  rw [Bool.and_eq_true] at h
  have e1 := Nat.eq_of_beq_eq_true h.1
  have e2 := Nat.eq_of_beq_eq_true h.2
  have hk : k % 64 = ((k % 64).toNat : Int) := by omega
  constructor
  · unfold spX phX
    rw [e1]
    generalize (k % 64).toNat = j at hk hj
    rw [hk, chain_get _ _ 63 (by omega)]
  · unfold spY phY
    rw [e2]
    generalize (k % 64).toNat = j at hk hj
    rw [hk, chain_get _ _ 63 (by omega)]
theorem spec_ok (k : Int) (H : List AB) : CallOK Try.prog 11 [.i false .i64 k] H (.c false .f32 (phX k) (phY k)) H := by
  have h := call_of_join (runF_sound tabS_sound 300) (spec_run k) rfl rfl H
  rwa [(plus_ph k).1, (plus_ph k).2] at h
theorem specPhase_at : SoundAt Try.prog 11 (pureT gPhase) := fun args H nd K => by
  refine pureT_sound (fun args v n h hn H => ?_) args H nd K
  unfold gPhase at h
  split at h <;> cases h
  rename_i l k
  exact (spec_ok k H).bare (args' := [.i l .i64 k]) rfl
end Go.Ax

/- spec.l01Simple: some complex number with simple parts. -/
namespace Go.Ax
open Go Go.Proofs

noncomputable def rows7 (mx : Int) : List (FuncId × Table) := (195, pureT gSp) :: rows6 mx
theorem rows7_at (mx : Int) : allAt Try.prog (rows7 mx) := ⟨sp_at, rows6_at mx⟩
noncomputable def tab7 (mx : Int) : Table := deep Try.prog (rows7 mx) [95, 200] 2000 6
theorem tab7_sound (mx : Int) : SoundT Try.prog (tab7 mx) := deep_sound (allAt_mem (rows7_at mx)) 6
noncomputable def simR (c : Cd) (a : Nat) (h : Int) : Option ((Nat × Nat) × Nat × Int × List Bool) :=
  srcEx formC c (runF Try.prog (tab7 9) 1000 279 [.p true 1 0] [codeB c false, srcB c a h] [] fun v H nd => .ret v H nd)
theorem sim_nd (c : Cd) (a : Nat) (h : Int) : (simR c a h).map (fun r => r.2.2.2) = some (List.replicate 661 (okB c c.off c.len)) := by kernel_rfl
theorem sim_ex {c : Cd} (hc : goodB c = true) (a : Nat) (h : Int) : ∃ (x : Nat × Nat) (a' : Nat) (h' : Int), SrcOK Try.prog 279 [] c a h (.c false .f32 x.1 x.2) a' h' := by
  have hn := sim_nd c a h
  have hk : okB c c.off c.len = true := by simp [okB, hc]
  cases hr : simR c a h with
  | none => rw [hr] at hn; cases hn
  | some r =>
    obtain ⟨x, a', h', nd⟩ := r
    rw [hr] at hn
    simp only [Option.map_some, Option.some.injEq] at hn
    refine ⟨x, a', h', srcOK_of_ex (F := formC) (runF_sound (tab7_sound 9) 1000) hr ?_ rfl⟩
    rw [hn, hk]
    exact allT_rep 661
noncomputable def simV (c : Cd) (a : Nat) (h : Int) : (Nat × Nat) × Nat × Int :=
  open Classical in if hx : ∃ r : (Nat × Nat) × Nat × Int, SrcOK Try.prog 279 [] c a h (.c false .f32 r.1.1 r.1.2) r.2.1 r.2.2 then hx.choose else ((0, 0), a, h)
theorem simV_ok {c : Cd} (hc : goodB c = true) (a : Nat) (h : Int) : SrcOK Try.prog 279 [] c a h (.c false .f32 (simV c a h).1.1 (simV c a h).1.2) (simV c a h).2.1 (simV c a h).2.2 := by
  obtain ⟨x, a', h', hx⟩ := sim_ex hc a h
  have he : ∃ r : (Nat × Nat) × Nat × Int, SrcOK Try.prog 279 [] c a h (.c false .f32 r.1.1 r.1.2) r.2.1 r.2.2 := ⟨(x, a', h'), hx⟩
  unfold simV
  rw [dif_pos he]
  exact he.choose_spec
noncomputable def simT : Table := srcT fun c a h sc => match sc with
  | [] => some (.c false .f32 (simV c a h).1.1 (simV c a h).1.2, (simV c a h).2.1, (simV c a h).2.2, [])
  | _ => none
theorem sim_at : SoundAt Try.prog 279 simT := fun args H nd K => by
  refine srcT_sound (fun c a h sc v a' h' q hc hg _ => ?_) args H nd K
  split at hg <;> cases hg
  exact simV_ok hc a h
end Go.Ax

/- spec.l01DrawOf: some wave of a side. -/
namespace Go.Ax
open Go Go.Proofs

noncomputable def rows8 (mx : Int) : List (FuncId × Table) := (279, simT) :: rows7 mx
theorem rows8_at (mx : Int) : allAt Try.prog (rows8 mx) := ⟨sim_at, rows7_at mx⟩
noncomputable def tab8 (mx : Int) : Table := tabOf (cdeep Try.prog (rows8 mx) [95, 200] 2000 6)
theorem tab8_sound (mx : Int) : SoundT Try.prog (tab8 mx) := cdeep_sound (allAt_mem (rows8_at mx)) 6

/-- A wave in memory. -/
def waveB (n : Int) (X : Nat → Nat × Nat) : AB := .cells true (.lit (waveL n X))
def getW : AB → Option (AV × List (Nat × Nat))
  | .cells true (.lit (s :: l)) => match asC64 l with
    | some xs => match Nat.beq xs.length 64 with
      | true => some (s.bare, xs)
      | false => none
    | none => none
  | _ => none
theorem getW_spec {B : AB} {n : Int} {xs : List (Nat × Nat)} (h : getW B = some (.i false .i64 n, xs)) : ∃ l, B = .cells true (.lit l) ∧ l.map AV.bare = (waveL n fun j => xs.getD j (0, 0)).map AV.bare := by
  unfold getW at h
  split at h <;> (try (cases h; done))
  rename_i s l
  split at h <;> (try (cases h; done))
  rename_i xs' hx
  split at h <;> (try (cases h; done))
  rename_i hlen
  simp only [Option.some.injEq, Prod.mk.injEq] at h
  obtain ⟨hs, rfl⟩ := h
  refine ⟨_, rfl, ?_⟩
  have hlen := Nat.eq_of_beq_eq_true hlen
  have e1 := asC64_bare hx
  rw [map_range_getD (fun z => AV.c false .f32 z.1 z.2) (0, 0) xs' 64 hlen] at e1
  simp only [waveL, List.map_cons, e1, hs]
  rw [List.map_map]
  rfl
/-- Memory: the bytes, the source, a place for the result, a wave. -/
def getSW (H : List AB) : Option (Nat × Int × List (Nat × Nat)) :=
  match readSrc (getB H 1), getW (getB H 3) with
  | some (_, _, a, h), some (_, xs) => some (a, h, xs)
  | _, _ => none
def fixSW (H : List AB) : Nat × AB × Option (Nat × Nat) × AB × Option AV :=
  (H.length, getB H 0, (readSrc (getB H 1)).map (fun z => (z.1, z.2.1)), getB H 2, (getW (getB H 3)).map (·.1))
def zeroW : AB := .cells true (.lit (.i true .i64 0 :: List.replicate 64 (.c true .f32 0 0)))
def memSW (c : Cd) (a : Nat) (h : Int) (n : Int) (X : Nat → Nat × Nat) : List AB := [codeB c false, srcB c a h, zeroW, waveB n X]
theorem getSW_spec {H : List AB} {c : Cd} {a : Nat} {h n : Int} {xs : List (Nat × Nat)} (hg : getSW H = some (a, h, xs)) (hf : fixSW H = (4, codeB c false, some (c.off, c.len), zeroW, some (.i false .i64 n))) : HEq H (memSW c a h n fun j => xs.getD j (0, 0)) := by
  unfold fixSW at hf
  simp only [Prod.mk.injEq] at hf
  obtain ⟨h1, h2, h3, h4, h5⟩ := hf
  match H, h1 with
  | [A, B, C, D], _ =>
    have e2 : A = codeB c false := h2
    have e4 : C = zeroW := h4
    subst e2; subst e4
    unfold getSW at hg
    have k1 : getB [codeB c false, B, zeroW, D] 1 = B := rfl
    have k3 : getB [codeB c false, B, zeroW, D] 3 = D := rfl
    rw [k1, k3] at hg
    rw [k1] at h3
    rw [k3] at h5
    cases hB : readSrc B with
    | none => rw [hB] at hg; cases hg
    | some s =>
      obtain ⟨o, m, a', h'⟩ := s
      cases hD : getW D with
      | none => rw [hB, hD] at hg; cases hg
      | some w =>
        obtain ⟨s0, xs'⟩ := w
        rw [hB] at h3
        rw [hD] at h5
        rw [hB, hD] at hg
        simp only [Option.map_some, Option.some.injEq, Prod.mk.injEq] at h3 h5 hg
        obtain ⟨rfl, rfl⟩ := h3
        obtain ⟨rfl, rfl, rfl⟩ := hg
        obtain ⟨l1, l2, l3, rfl⟩ := readSrc_spec hB
        rw [h5] at hD
        obtain ⟨l, rfl, hl⟩ := getW_spec hD
        exact HEq.cons ⟨rfl, rfl, fun _ _ _ h => h⟩ (HEq.cons src_same (HEq.cons ⟨rfl, rfl, fun _ _ _ h => h⟩ (HEq.cons (blk_bare hl) (HEq.refl []))))

noncomputable def doC : Code := Try.f263.body.getD .skip
noncomputable def doT0 (n : Int) : List AV := .p true 1 0 :: .i true .i64 n :: undefs 63
noncomputable def do0 (c : Cd) (a : Nat) (h n : Int) : Res := cupto Try.prog (tab8 7) atLoop 200 [.code doC] (doT0 n) [codeB c false, srcB c a h]
noncomputable def doL : List Item := ((do0 ⟨[], 0, 0⟩ 0 0 1).at [false]).todo
def doT (n kd k : Int) : List AV := [.p true 1 0, .i true .i64 n, .any, .any, .p true 2 0, .p true 3 0, .i false .i64 kd, .i true .i64 k] ++ List.replicate 57 .any
def doM : List Bool := [false, false, true, true, false, false, false, false] ++ List.replicate 57 true
noncomputable def doRd (L : List Item) (c : Cd) (a : Nat) (h n kd k : Int) (X : Nat → Nat × Nat) : Res := cupto Try.prog (tab8 7) atLoop 200 L (doT n kd k) (memSW c a h n X)
def hdR : List Leaf → List Item
  | x :: _ => x.todo
  | [] => []
noncomputable def doR : List Item := hdR (doRd doL ⟨[], 0, 0⟩ 0 0 1 0 0 fun _ => (0, 0)).stops
def fvSW (c : Cd) (n : Int) : Nat × AB × Option (Nat × Nat) × AB × Option AV := (4, codeB c false, some (c.off, c.len), zeroW, some (.i false .i64 n))
theorem doR_eq : toLp doL = doR := by kernel_rfl
def doNs : List (Nat × Int) := [(1, 1), (4, 2), (16, 4), (64, 8)]
theorem do_rd (N : Nat) (n : Int) (hn : (N, n) ∈ doNs) (c : Cd) (a : Nat) (h kd : Int) (X : Nat → Nat × Nat) : ((List.range N).map fun k => (doRd doR c a h n kd (Int.ofNat k) X).pack doM getSW fixSW) =
    (List.range N).map fun k => packed doR ((doT n kd (Int.ofNat (k + 1))).map AV.bare) (fvSW c n) 7 18 (okB c c.off c.len) := by
  simp only [doNs, List.mem_cons, Prod.mk.injEq, List.not_mem_nil, or_false] at hn
  rcases hn with ⟨rfl, rfl⟩ | ⟨rfl, rfl⟩ | ⟨rfl, rfl⟩ | ⟨rfl, rfl⟩ <;> kernel_rfl

theorem do_end (N : Nat) (n : Int) (hn : (N, n) ∈ doNs) (c : Cd) (a : Nat) (h kd : Int) (X : Nat → Nat × Nat) : endOf Try.prog Try.f263.results.toList (doRd doR c a h n kd (Int.ofNat N) X) = some (some ([wv n X], []), [codeB c false, srcB c a h, waveB n X, waveB n X], []) := by
  simp only [doNs, List.mem_cons, Prod.mk.injEq, List.not_mem_nil, or_false] at hn
  rcases hn with ⟨rfl, rfl⟩ | ⟨rfl, rfl⟩ | ⟨rfl, rfl⟩ | ⟨rfl, rfl⟩ <;> kernel_rfl
theorem do_cond (N : Nat) (n : Int) (hn : (N, n) ∈ doNs) (c : Cd) (a : Nat) (h : Int) : (do0 c a h n).conds [false] = [nxV c a h 8 == 0] ∧ (do0 c a h n).conds [true] = [nxV c a h 8 == 0] := by
  simp only [doNs, List.mem_cons, Prod.mk.injEq, List.not_mem_nil, or_false] at hn
  rcases hn with ⟨rfl, rfl⟩ | ⟨rfl, rfl⟩ | ⟨rfl, rfl⟩ | ⟨rfl, rfl⟩ <;> constructor <;> kernel_rfl
theorem do_start (N : Nat) (n : Int) (hn : (N, n) ∈ doNs) (c : Cd) (a : Nat) (h : Int) : ((do0 c a h n).at [false]).pack doM getSW fixSW = packed doL ((doT n (nxV c a h 8) 0).map AV.bare) (fvSW c n) 1 1 (okB c c.off c.len) := by
  simp only [doNs, List.mem_cons, Prod.mk.injEq, List.not_mem_nil, or_false] at hn
  rcases hn with ⟨rfl, rfl⟩ | ⟨rfl, rfl⟩ | ⟨rfl, rfl⟩ | ⟨rfl, rfl⟩ <;> kernel_rfl
/-- One wave: its numbers, and the state of the source. -/
noncomputable def oneW (r : Option (Option (List AV × List Bool) × List AB × List Bool)) : Option (Int × (Nat → Nat × Nat) × Nat × Int × Nat × Nat × List Bool) :=
  match r with
  | some (some ([.agg l], m), H, nd) => match ofW l, readSrc (getB H 1) with
    | some (n, X), some (o, k, a, h) => some (n, X, a, h, o, k, m ++ nd)
    | _, _ => none
  | _ => none
noncomputable def oneW2 (r : Option (Int × (Nat → Nat × Nat) × Nat × Int × Nat × Nat × List Bool)) : Option (Int × Nat × Nat × List Bool) :=
  match r with
  | some (n, _, _, _, o, k, nd) => some (n, o, k, nd)
  | none => none
theorem do_zero (N : Nat) (n : Int) (hn : (N, n) ∈ doNs) (c : Cd) (a : Nat) (h : Int) : oneW2 (oneW (endOf Try.prog Try.f263.results.toList ((do0 c a h n).at [true]))) = some (n, c.off, c.len, List.replicate 3 (okB c c.off c.len)) := by
  simp only [doNs, List.mem_cons, Prod.mk.injEq, List.not_mem_nil, or_false] at hn
  rcases hn with ⟨rfl, rfl⟩ | ⟨rfl, rfl⟩ | ⟨rfl, rfl⟩ | ⟨rfl, rfl⟩ <;> kernel_rfl
theorem wv_low (n : Int) (X : Nat → Nat × Nat) : below 0 (wv n X) = true := by
  have : ∀ l : List Nat, belowL 0 (l.map (cx X)) = true := fun l => by
    induction l with
    | nil => rfl
    | cons j l ih => simp [belowL, cx, below, ih]
  simp [wv, waveL, below, belowL, this]
theorem srcB_read (c : Cd) (a : Nat) (h : Int) : readSrc (srcB c a h) = some (c.off, c.len, a, h) := rfl
theorem do_rounds {N : Nat} {n : Int} (hn : (N, n) ∈ doNs) {c : Cd} (hc : goodB c = true) {todoS : List Item} {tS : List AV} {HS : List AB} (kd : Int) : ∀ (m k : Nat) (a : Nat) (h : Int) (X : Nat → Nat × Nat), k + m = N →
    Reach Try.prog todoS tS HS doR (doT n kd (Int.ofNat k)) (memSW c a h n X) → ∃ a' h' X', Reach Try.prog todoS tS HS doR (doT n kd (Int.ofNat N)) (memSW c a' h' n X')
  | 0, k, a, h, X, hk, hr => by
    have : k = N := by omega
    subst this
    exact ⟨a, h, X, hr⟩
  | m + 1, k, a, h, X, hk, hr => by
    have hok : okB c c.off c.len = true := by simp [okB, hc]
    have h1 := map_mem (do_rd N n hn c a h kd X) (x := k) (by simp; omega)
    obtain ⟨H1, x, e1, e2, e3⟩ := (Steps1.of h1).reach (tab8_sound 7) hok rfl
    obtain ⟨a', h', xs⟩ := x
    have e4 := (hr.trans e3).post (getSW_spec e1 e2)
    exact do_rounds hn hc kd m (k + 1) a' h' _ (by omega) e4
theorem drawOf_ex {c : Cd} (hc : goodB c = true) (a : Nat) (h n : Int) (hn : n = 1 ∨ n = 2 ∨ n = 4 ∨ n = 8) : ∃ X a' h', SrcOK Try.prog 263 [.i false .i64 n] c a h (wv n X) a' h' := by
  have hok : okB c c.off c.len = true := by simp [okB, hc]
  obtain ⟨N, hN⟩ : ∃ N, (N, n) ∈ doNs := by
    rcases hn with rfl | rfl | rfl | rfl
    · exact ⟨1, by simp [doNs]⟩
    · exact ⟨4, by simp [doNs]⟩
    · exact ⟨16, by simp [doNs]⟩
    · exact ⟨64, by simp [doNs]⟩
  have hb : Try.f263.body = some doC := rfl
  obtain ⟨c1, c2⟩ := do_cond N n hN c a h
  have fin : ∀ {t : List AV} {H : List AB} {v : AV} {m : List Bool} {a' : Nat} {h' : Int} {X : Nat → Nat × Nat}, Ends Try.prog [.code doC] (doT0 n) [codeB c false, srcB c a h] t H → resV Try.prog t H Try.f263.results.toList = some ([v], m) → allT m = true →
      (∀ (σ : List (Nat × Nat)) (x : Value), Rel σ v x → Rel σ (wv n X) x) → readSrc (getB H 1) = some (c.off, c.len, a', h') → SrcOK Try.prog 263 [.i false .i64 n] c a h (wv n X) a' h' := fun {t H v m a' h' X} he hr hm hv hs => by
    have h1 : CallOK Try.prog 263 [.p true 1 0, .i true .i64 n] [codeB c false, srcB c a h] v H := call_of_ends (args := [.p true 1 0, .i true .i64 n]) Try.func263 hb he hr hm
    exact ⟨H, (h1.weaken hv).bare (args' := [.p true 1 0, .i false .i64 n]) rfl, hs, wv_low n X, rfl⟩
  by_cases hz : nxV c a h 8 = 0
  · have hz0 := do_zero N n hN c a h
    cases he : oneW (endOf Try.prog Try.f263.results.toList ((do0 c a h n).at [true])) with
    | none => rw [he] at hz0; cases hz0
    | some z =>
      obtain ⟨n', X, a', h', o, k, nd⟩ := z
      rw [he] at hz0
      simp only [oneW2, Option.some.injEq, Prod.mk.injEq] at hz0
      obtain ⟨rfl, rfl, rfl, hnd⟩ := hz0
      unfold oneW at he
      split at he <;> (try (cases he; done))
      rename_i l m H nd0 hend
      split at he <;> (try (cases he; done))
      rename_i n0 X0 o0 k0 a0 h0 hW hS
      simp only [Option.some.injEq, Prod.mk.injEq] at he
      obtain ⟨rfl, rfl, rfl, rfl, rfl, rfl, hmn⟩ := he
      have hall : allT (m ++ nd0) = true := by rw [hmn, hnd, hok]; rfl
      rw [allT_append, Bool.and_eq_true] at hall
      have hsel : (do0 c a h n0).sel = ((do0 c a h n0).at [true]).sel := Res.sel_at [true] _ (by rw [c2]; simp [hz])
      obtain ⟨t, e1, e2⟩ := endOf_ends (tab8_sound 7) hend hsel hall.2
      exact ⟨X0, a0, h0, fin e1 e2 hall.1 (fun σ x r => by have := r.deep; rw [ofW_spec hW] at this; exact this.undeep) hS⟩
  · have hsel : (do0 c a h n).sel = ((do0 c a h n).at [false]).sel := Res.sel_at [false] _ (by rw [c1]; simp [hz])
    obtain ⟨H1, x, e1, e2, e3⟩ := (Steps1.of (do_start N n hN c a h)).reach_sel (tab8_sound 7) hsel hok rfl
    obtain ⟨a1, h1, xs⟩ := x
    have e4 := e3.post (getSW_spec e1 e2)
    -- the loop's head, by either name
    have e5 : ∃ a' h' X', Reach Try.prog [.code doC] (doT0 n) [codeB c false, srcB c a h] doR (doT n (nxV c a h 8) (Int.ofNat N)) (memSW c a' h' n X') := by
      have hN0 : 0 < N := by simp only [doNs, List.mem_cons, Prod.mk.injEq, List.not_mem_nil, or_false] at hN; omega
      have k1 := map_mem (do_rd N n hN c a1 h1 (nxV c a h 8) fun j => xs.getD j (0, 0)) (x := 0) (by simp; omega)
      have k2 : (cupto Try.prog (tab8 7) atLoop 200 doL (doT n (nxV c a h 8) (Int.ofNat 0)) (memSW c a1 h1 n fun j => xs.getD j (0, 0))).sel = (doRd doR c a1 h1 n (nxV c a h 8) (Int.ofNat 0) fun j => xs.getD j (0, 0)).sel := by
        unfold doRd
        rw [← doR_eq, cupto_toLp]
      obtain ⟨H2, x2, f1, f2, f3⟩ := (Steps1.of k1).reach_sel (tab8_sound 7) k2 hok rfl
      obtain ⟨a2, h2, xs2⟩ := x2
      exact do_rounds hN hc _ (N - 1) 1 a2 h2 _ (by omega) ((e4.trans f3).post (getSW_spec f1 f2))
    obtain ⟨a', h', X', e6⟩ := e5
    obtain ⟨t, g1, g2⟩ := endOf_ends (tab8_sound 7) (do_end N n hN c a' h' (nxV c a h 8) X') rfl rfl
    exact ⟨X', a', h', fin (e6.ends g1) g2 rfl (fun _ _ r => r) rfl⟩
end Go.Ax

/- Rows out of 'some value of a form'; spec.l01Draw, l01Bad, l01Spoil, l01Near, DrawCellOf. -/
namespace Go.Ax
open Go Go.Proofs

/-- The value and the state behind it, of a call that gives some value of a form. -/
noncomputable def pickV {α : Type} [Inhabited α] (F : Form α) (f : FuncId) (sc : List AV) (c : Cd) (a : Nat) (h : Int) : α × Nat × Int :=
  open Classical in if hx : ∃ r : α × Nat × Int, SrcOK Try.prog f sc c a h (F.val r.1) r.2.1 r.2.2 then hx.choose else (default, a, h)
theorem pickV_ok {α : Type} [Inhabited α] {F : Form α} {f : FuncId} {sc : List AV} {c : Cd} {a : Nat} {h : Int} (hx : ∃ x a' h', SrcOK Try.prog f sc c a h (F.val x) a' h') : SrcOK Try.prog f sc c a h (F.val (pickV F f sc c a h).1) (pickV F f sc c a h).2.1 (pickV F f sc c a h).2.2 := by
  have he : ∃ r : α × Nat × Int, SrcOK Try.prog f sc c a h (F.val r.1) r.2.1 r.2.2 := by
    obtain ⟨x, a', h', e⟩ := hx
    exact ⟨(x, a', h'), e⟩
  unfold pickV
  rw [dif_pos he]
  exact he.choose_spec
noncomputable def exT {α : Type} [Inhabited α] (F : Form α) (f : FuncId) (norm : List AV → Option (List AV × List Bool)) : Table := srcT fun c a h sc => match norm sc with
  | some (sc', q) => some (F.val (pickV F f sc' c a h).1, (pickV F f sc' c a h).2.1, (pickV F f sc' c a h).2.2, q)
  | none => none
theorem exT_at {α : Type} [Inhabited α] {F : Form α} {f : FuncId} {norm : List AV → Option (List AV × List Bool)}
    (hn : ∀ sc sc' q, norm sc = some (sc', q) → allT q = true → sc.map AV.deep = sc'.map AV.deep ∧ belowL 0 sc = true ∧ ∀ c a h, goodB c = true → ∃ x a' h', SrcOK Try.prog f sc' c a h (F.val x) a' h') : SoundAt Try.prog f (exT F f norm) := fun args H nd K => by
  refine srcT_sound (fun c a h sc v a' h' q hc hg hq => ?_) args H nd K
  split at hg <;> (try (cases hg; done))
  rename_i sc' q' hns
  cases hg
  obtain ⟨e1, e2, e3⟩ := hn sc sc' q hns hq
  obtain ⟨H2, k, g1, g2, _⟩ := pickV_ok (e3 c a h hc)
  exact ⟨H2, k.deep (by simp only [List.map_cons, e1]), g1, g2, e2⟩
def norm0 : List AV → Option (List AV × List Bool)
  | [] => some ([], [])
  | _ => none
theorem norm0_at {α : Type} [Inhabited α] {F : Form α} {f : FuncId} (h : ∀ c a h, goodB c = true → ∃ x a' h', SrcOK Try.prog f [] c a h (F.val x) a' h') : SoundAt Try.prog f (exT F f norm0) :=
  exT_at fun sc sc' q hs _ => by
    unfold norm0 at hs
    split at hs <;> cases hs
    exact ⟨rfl, rfl, h⟩
def normS : List AV → Option (List AV × List Bool)
  | [.i l .i64 n] => match chk l (sideB n) with
    | some q => some ([.i false .i64 n], q)
    | none => none
  | _ => none
def normI : List AV → Option (List AV × List Bool)
  | [.i _ .i64 n] => some ([.i false .i64 n], [])
  | _ => none
theorem normI_at {α : Type} [Inhabited α] {F : Form α} {f : FuncId} (h : ∀ n c a h, goodB c = true → ∃ x a' h', SrcOK Try.prog f [.i false .i64 n] c a h (F.val x) a' h') : SoundAt Try.prog f (exT F f normI) :=
  exT_at fun sc sc' q hs _ => by
    unfold normI at hs
    split at hs <;> cases hs
    exact ⟨rfl, rfl, h _⟩
def normW : List AV → Option (List AV × List Bool)
  | [.agg l] => match ofW l, belowL 0 l with
    | some (n, X), true => some ([wv n X], [])
    | _, _ => none
  | _ => none
theorem normW_at {α : Type} [Inhabited α] {F : Form α} {f : FuncId} (h : ∀ n X c a h, goodB c = true → ∃ x a' h', SrcOK Try.prog f [wv n X] c a h (F.val x) a' h') : SoundAt Try.prog f (exT F f normW) :=
  exT_at fun sc sc' q hs _ => by
    unfold normW at hs
    split at hs <;> (try (cases hs; done))
    split at hs <;> cases hs
    rename_i hl hb _
    exact ⟨by simp [ofW_spec hl], by simp [belowL, below, hb], h _ _⟩
/-- Out of one evaluation. -/
theorem src_ex {α : Type} {F : Form α} {T : Table} {f : FuncId} {sc : List AV} {c : Cd} {a : Nat} {h : Int} {m : Nat} (hT : SoundT Try.prog T)
    (hn : ((srcEx F c (T f (.p true 1 0 :: sc) [codeB c false, srcB c a h] [] fun v H nd => .ret v H nd)).map fun r => r.2.2.2) = some (List.replicate m (okB c c.off c.len)))
    (hc : goodB c = true) (hsc : belowL 0 sc = true) : ∃ x a' h', SrcOK Try.prog f sc c a h (F.val x) a' h' := by
  refine srcOK_some hT ?_ hn hc hsc
  cases hr : srcEx F c (T f (.p true 1 0 :: sc) [codeB c false, srcB c a h] [] fun v H nd => .ret v H nd) with
  | none => rw [hr] at hn; cases hn
  | some r => rfl
theorem src_ex' {α : Type} {F : Form α} {T : Table} {f : FuncId} {sc : List AV} {c : Cd} {a : Nat} {h : Int} {l : List Bool} (hT : SoundT Try.prog T)
    (hn : ((srcEx F c (T f (.p true 1 0 :: sc) [codeB c false, srcB c a h] [] fun v H nd => .ret v H nd)).map fun r => r.2.2.2) = some l) (hl : allT l = true) (hsc : belowL 0 sc = true) : ∃ x a' h', SrcOK Try.prog f sc c a h (F.val x) a' h' := by
  cases hr : srcEx F c (T f (.p true 1 0 :: sc) [codeB c false, srcB c a h] [] fun v H nd => .ret v H nd) with
  | none => rw [hr] at hn; cases hn
  | some r =>
    obtain ⟨x, a', h', nd⟩ := r
    rw [hr] at hn
    simp only [Option.map_some, Option.some.injEq] at hn
    subst hn
    exact ⟨x, a', h', srcOK_of_ex hT hr hl hsc⟩
noncomputable def ndsOf {α : Type} (F : Form α) (T : Table) (f : FuncId) (sc : List AV) (c : Cd) (a : Nat) (h : Int) : Option (List Bool) :=
  (srcEx F c (T f (.p true 1 0 :: sc) [codeB c false, srcB c a h] [] fun v H nd => .ret v H nd)).map fun r => r.2.2.2
def formW : Form (Int × (Nat → Nat × Nat)) where
  get := fun
    | .agg l => ofW l
    | _ => none
  val := fun x => wv x.1 x.2
  rel := fun {v x} h σ y r => by
    split at h <;> (try (cases h; done))
    obtain ⟨n, X⟩ := x
    have := r.deep
    rw [ofW_spec h] at this
    exact this.undeep
  low := fun x => wv_low x.1 x.2
theorem drawOf_at : SoundAt Try.prog 263 (exT formW 263 normS) :=
  exT_at fun sc sc' q hs hq => by
    unfold normS at hs
    split at hs <;> (try (cases hs; done))
    split at hs <;> cases hs
    rename_i hch
    have hq := chk_spec hch hq
    refine ⟨rfl, rfl, fun c a h hc => ?_⟩
    obtain ⟨X, a', h', e⟩ := drawOf_ex hc a h _ (sideB_iff.1 hq)
    exact ⟨(_, X), a', h', e⟩
noncomputable def rows9 (mx : Int) : List (FuncId × Table) := (263, exT formW 263 normS) :: rows8 mx
theorem rows9_at (mx : Int) : allAt Try.prog (rows9 mx) := ⟨drawOf_at, rows8_at mx⟩
def inlS : List FuncId := [95, 200, 124, 112, 207, 206, 111, 125, 126, 114, 161, 22, 24, 34, 38, 40, 43, 47, 50, 53, 56, 60, 63, 66, 69, 72, 75, 79, 86, 88, 91, 171]
noncomputable def tab9 (mx : Int) : Table := tabOf (cdeep Try.prog (rows9 mx) inlS 2000 6)
theorem tab9_sound (mx : Int) : SoundT Try.prog (tab9 mx) := cdeep_sound (allAt_mem (rows9_at mx)) 6

theorem draw_nd (c : Cd) (a : Nat) (h : Int) : ndsOf formW (tab9 7) 207 [] c a h = some (List.replicate 21 (okB c c.off c.len)) := by kernel_rfl
theorem draw_at : SoundAt Try.prog 207 (exT formW 207 norm0) := norm0_at fun c a h hc => src_ex (tab9_sound 7) (draw_nd c a h) hc rfl
noncomputable def badNd (k : Bool) (v : Int) : List Bool := List.replicate 16 k ++ ([decide (1 + v.toNat * 1 < 65), !decide (1 + v.toNat * 1 = 0), decide (0 ≤ v) && decide (v < ((64 : Nat) : Int))] ++ List.replicate 6 k)
theorem bad_nd (n : Int) (X : Nat → Nat × Nat) (c : Cd) (a : Nat) (h : Int) : ndsOf formW (tab9 5) 206 [wv n X] c a h = some (badNd (okB c c.off c.len) (nxV c (nxA c a 40) (nxS h 40) 64)) := by kernel_rfl
theorem bad_at : SoundAt Try.prog 206 (exT formW 206 normW) := normW_at fun n X c a h hc => by
  refine src_ex' (tab9_sound 5) (bad_nd n X c a h) ?_ (by simp [belowL, wv_low])
  have hk : okB c c.off c.len = true := by simp [okB, hc]
  have hb := nxV_bound hc (nxA c a 40) (nxS h 40) 64
  have hb2 := hb.2 (by decide)
  generalize nxV c (nxA c a 40) (nxS h 40) 64 = v at *
  have e1 : decide (1 + v.toNat * 1 < 65) = true := by simp; omega
  have e2 : (!decide (1 + v.toNat * 1 = 0)) = true := by simp
  have e3 : (decide (0 ≤ v) && decide (v < ((64 : Nat) : Int))) = true := by simp; omega
  unfold badNd
  rw [hk, e1, e2, e3]
  rfl
noncomputable def rows10 (mx : Int) : List (FuncId × Table) := (206, exT formW 206 normW) :: (207, exT formW 207 norm0) :: rows9 mx
theorem rows10_at (mx : Int) : allAt Try.prog (rows10 mx) := ⟨bad_at, draw_at, rows9_at mx⟩
noncomputable def tab10 (mx : Int) : Table := tabOf (cdeep Try.prog (rows10 mx) inlS 2000 6)
theorem tab10_sound (mx : Int) : SoundT Try.prog (tab10 mx) := cdeep_sound (allAt_mem (rows10_at mx)) 6

theorem spoil_nd (c : Cd) (a : Nat) (h : Int) : ndsOf formW (tab10 4) 111 [] c a h = some (List.replicate 3 (okB c c.off c.len)) := by kernel_rfl
theorem spoil_at : SoundAt Try.prog 111 (exT formW 111 norm0) := norm0_at fun c a h hc => src_ex (tab10_sound 4) (spoil_nd c a h) hc rfl
theorem near_nd (n : Int) (c : Cd) (a : Nat) (h : Int) : ndsOf formI (tab10 4) 112 [.i false .i64 n] c a h = some (List.replicate 15 (okB c c.off c.len)) := by kernel_rfl
theorem near_at : SoundAt Try.prog 112 (exT formI 112 normI) := normI_at fun n c a h hc => src_ex (tab10_sound 4) (near_nd n c a h) hc rfl
noncomputable def rows11 (mx : Int) : List (FuncId × Table) := (112, exT formI 112 normI) :: (111, exT formW 111 norm0) :: rows10 mx
theorem rows11_at (mx : Int) : allAt Try.prog (rows11 mx) := ⟨near_at, spoil_at, rows10_at mx⟩
noncomputable def tab11 (mx : Int) : Table := tabOf (cdeep Try.prog (rows11 mx) inlS 2000 6)
theorem tab11_sound (mx : Int) : SoundT Try.prog (tab11 mx) := cdeep_sound (allAt_mem (rows11_at mx)) 6
end Go.Ax

/- Regions of open order in which calls that write to one block (and follow each other) stand among operations that leave memory alone. -/
namespace Go.Ax
open Go

section
variable {P : Program} {T : Table} {ops : Array Oper} {m : Nat}

/-- An operation of the one block that is written: its value, and memory behind it. -/
def EVal (P : Program) (ops : Array Oper) (k : Nat) (t : List AV) (H : List AB) (v : AV) (H1 : List AB) : Prop :=
  ∃ o, ops[k]? = some o ∧ ∀ (σ : List (Nat × Nat)) (w : World) (a : Act) (Q : Exit → Act → World → Prop) (next : Act → World → Prop), Sim σ H w →
    (∀ n ∈ looks ops o, Rel σ (getL t n) (a.tmps.getD n undef)) → a.tmps.size = t.length →
    (∀ rv w', Rel σ v rv → Sim σ H1 w' → Fr σ H w σ H1 w' → next (a.put o.dst rv) w') → wpOp P ops Q k next a w
theorem getB_setB {H : List AB} {src i : Nat} {B : AB} : getB (setB H src B) i = if i = src ∧ src < H.length then B else getB H i := by
  by_cases h : i = src
  · subst h
    by_cases h2 : i < H.length
    · rw [getB_setB_same h2, if_pos ⟨rfl, h2⟩]
    · rw [if_neg (fun e => h2 e.2)]
      have : ∀ (l : List AB) (n : Nat) (v : AB), l.length ≤ n → setB l n v = l := by
        intro l
        induction l with
        | nil => intros; rfl
        | cons a l ih => intro n v hn; cases n with
          | zero => simp at hn
          | succ n => simp only [setB]; rw [ih n v (by simpa using hn)]
      rw [this H i B (by omega)]
  · rw [getB_setB_ne (Ne.symm h), if_neg (fun e => h e.1)]
theorem QVal.alive {k src : Nat} {t : List AV} {G Hd : List AB} {v : AV} (h : QVal P ops k t Hd v) (e : setB G src .dead = Hd) (hrw : (getB G src).rw = true) : QVal P ops k t G v := by
  obtain ⟨o, ho, hq⟩ := h
  refine ⟨o, ho, fun σ w a Q next s r hsz q => ?_⟩
  subst e
  have hsl : src < G.length := by
    rcases Nat.lt_or_ge src G.length with h | h
    · exact h
    · rw [getB_none h] at hrw; cases hrw
  have sd : Sim σ (setB G src .dead) w := by
    refine ⟨by rw [setB_length]; exact s.len, fun i b z hb => ?_, fun i j b z z' hi hj hr hl => ?_⟩
    · rw [getB_setB]
      split
      · trivial
      · exact s.blk i b z hb
    · rw [getB_setB] at hr hl
      split at hr
      · cases hr
      · split at hl
        · cases hl
        · exact s.inj i j b z z' hi hj hr hl
  refine hq σ w a Q next sd r hsz fun rv w' hr s' f' => q rv w' hr ?_ ?_
  · refine ⟨s.len, fun i b z hb => ?_, s.inj⟩
    by_cases hi : i = src
    · subst hi
      have hlt := s.lt hb (rw_live hrw)
      rw [f'.old b hlt fun i' z' hr' hi' => ?_]
      · exact s.blk i b z hb
      · rw [getB_setB] at hr'
        split at hr'
        · cases hr'
        · rename_i hne
          exact hne ⟨s.inj i' i b z' z hi' hb hr' (rw_live hrw), hsl⟩
    · have := s'.blk i b z hb
      rwa [getB_setB, if_neg (fun e => hi e.1)] at this
  · refine ⟨f'.os, f'.tape, f'.output, f'.size, fun b hb hno => f'.old b hb fun i z hr' => ?_, Ext.refl _, fun i b z h h' => (by rw [h'] at h; cases h), fun _ _ h => h⟩
    rw [getB_setB] at hr'
    split at hr'
    · cases hr'
    · exact hno i z hr'

theorem any_mix (hok : drawOK ops m = true) (hmn : m ≤ ops.size) {t t' : List AV} {Hd H' : List AB} {val : Nat → AV} {eff : Nat → Bool} {mem : Nat → List AB} {src : Nat}
    (hq : ∀ i, i < m → eff i = false → QVal P ops i (stAt ops val t 0 i) Hd (val i) ∧ mem (i + 1) = mem i)
    (he : ∀ i, i < m → eff i = true → EVal P ops i (stAt ops val t 0 i) (mem i) (val i) (mem (i + 1)) ∧ ∀ k, k < i → eff k = true → aheadOf ops 10 i k = true)
    (hm : ∀ i, i ≤ m → setB (mem i) src .dead = Hd ∧ (getB (mem i) src).rw = true)
    (c : Chain P ops m (stAt ops val t 0 m) (mem m) ops.size t' H') {Q : Exit → Act → World → Prop} {σ : List (Nat × Nat)} :
    ∀ (fuel : Nat) (listed : Array Bool) (a : Act) (w : World) (k : Nat), listed.size = ops.size → Down ops listed →
      (left ops listed).length ≤ fuel → (∀ i, m ≤ i → ¬ Ls listed i) → k ≤ m → (∀ i, i < m → eff i = true → (Ls listed i ↔ i < k)) → Sim σ (mem k) w → a.tmps.size = t.length →
      (∀ x, (∀ i, i < m → Ls listed i → gDst ops i = some x → x < t.length → Rel σ (val i) (a.tmps.getD x undef)) ∧ ((∀ i, i < m → Ls listed i → gDst ops i ≠ some x) → Rel σ (getL t x) (a.tmps.getD x undef))) →
      (∀ a' w' σ', RelL σ' t' a'.tmps.toList → a'.defers = a.defers → Sim σ' H' w' → Fr σ (mem k) w σ' H' w' → Q .normal a' w') → wpAny P .any ops Q fuel listed a w := by
  have hdist : ∀ i i', i < m → i' < m → i' ≠ i → ∀ x, gDst ops i = some x → gDst ops i' ≠ some x := fun i i' hi hi' hne x hx => by
    have hoi : ops[i]? = some ops[i] := Array.getElem?_eq_getElem (by omega)
    have hd : ops[i].dst = some x := by simpa [gDst, hoi] using hx
    exact ((drawOK_spec hok i _ hoi).2.1 hi).2 i' hi' hne x hd
  -- memory stays where nothing of the one block comes between
  have hsame : ∀ (n k : Nat), k + n ≤ m → (∀ i, k ≤ i → i < k + n → eff i = false) → mem (k + n) = mem k := by
    intro n
    induction n with
    | zero => intros; rfl
    | succ n ih =>
      intro k hk hno
      rw [show k + (n + 1) = (k + n) + 1 by omega, (hq (k + n) (by omega) (hno _ (by omega) (by omega))).2]
      exact ih k (by omega) fun i h1 h2 => hno i h1 (by omega)
  have htail : ∀ (fuel : Nat) (listed : Array Bool) (a : Act) (w : World) (k : Nat), listed.size = ops.size → Down ops listed →
      (left ops listed).length ≤ fuel → (∀ i, m ≤ i → ¬ Ls listed i) → (∀ i, i < m → Ls listed i) → k ≤ m → (∀ i, i < m → eff i = true → (Ls listed i ↔ i < k)) → Sim σ (mem k) w → a.tmps.size = t.length →
      (∀ x, (∀ i, i < m → Ls listed i → gDst ops i = some x → x < t.length → Rel σ (val i) (a.tmps.getD x undef)) ∧ ((∀ i, i < m → Ls listed i → gDst ops i ≠ some x) → Rel σ (getL t x) (a.tmps.getD x undef))) →
      (∀ a' w' σ', RelL σ' t' a'.tmps.toList → a'.defers = a.defers → Sim σ' H' w' → Fr σ (mem k) w σ' H' w' → Q .normal a' w') → wpAny P .any ops Q fuel listed a w := by
    intro fuel listed a w k hsz hd hf hnm hall hkm hk s hat hx q
    have hmk : mem m = mem k := by
      have := hsame (m - k) k (by omega) fun i h1 h2 => by
        cases hei : eff i with
        | false => rfl
        | true => have := (hk i (by omega) hei).1 (hall i (by omega)); omega
      rwa [show k + (m - k) = m by omega] at this
    rw [← hmk] at s q
    refine any_tail hok fuel listed m _ (mem m) σ a w hsz hd hf (Nat.le_refl _) (fun i hi => ⟨fun h => ?_, fun h => hall i h⟩) c s ?_ q
    · rcases Nat.lt_or_ge i m with h' | h'
      · exact h'
      · exact absurd h (hnm i h')
    · refine RelL.of_get (by rw [stAt_length]; simpa using hat.symm) fun x b y hb hy => ?_
      have hxl : x < t.length := by
        rcases Nat.lt_or_ge x t.length with h' | h'
        · exact h'
        · rw [List.getElem?_eq_none (by rw [stAt_length]; exact h')] at hb; cases hb
      have hb' : b = getL (stAt ops val t 0 m) x := by
        rw [getL_some (by rw [stAt_length]; exact hxl)] at hb; cases hb; rfl
      have hy' : a.tmps.getD x undef = y := by
        have : a.tmps[x]? = some y := by simpa using hy
        rw [Array.getD_eq_getD_getElem?, this]; rfl
      subst hb'
      rw [← hy']
      by_cases hex : ∃ i, i < m ∧ gDst ops i = some x
      · obtain ⟨i, hi, hgi⟩ := hex
        rw [stAt_val ops val m 0 t i (by omega) (by omega) hgi hxl (fun i' _ h2 h3 => hdist i i' hi (by omega) h3 x hgi)]
        exact (hx x).1 i hi (hall i hi) hgi hxl
      · have hno : ∀ i, i < m → gDst ops i ≠ some x := fun i hi hg => hex ⟨i, hi, hg⟩
        rw [stAt_untouched ops val m 0 t (fun i _ h2 => hno i (by omega))]
        exact (hx x).2 fun i hi _ => hno i hi
  intro fuel
  induction fuel with
  | zero =>
    intro listed a w k hsz hd hf hnm hkm hk s hat hx q
    refine htail 0 listed a w k hsz hd hf hnm (fun i hi => ?_) hkm hk s hat hx q
    apply Classical.byContradiction
    intro hn
    have : i ∈ left ops listed := mem_left.2 ⟨by omega, hn⟩
    have := List.length_pos_of_mem this
    omega
  | succ fuel ih =>
    intro listed a w k hsz hd hf hnm hkm hk s hat hx q
    by_cases hall : ∀ i, i < m → Ls listed i
    · exact htail _ listed a w k hsz hd hf hnm hall hkm hk s hat hx q
    refine ⟨fun hr => ?_, fun j hj => ?_⟩
    · exfalso
      apply hall
      intro i hi
      apply Classical.byContradiction
      intro hn
      obtain ⟨y, hy⟩ := ready_some hok hsz i (by omega) hn
      rw [hr] at hy; cases hy
    · obtain ⟨hnl, o, ho, hafter⟩ := (mem_ready' hsz).1 hj
      have hjs := (Array.getElem?_eq_some_iff.1 ho).1
      have hjm : j < m := by
        rcases Nat.lt_or_ge j m with h | h
        · exact h
        · exfalso
          apply hall
          intro i hi
          exact ahead_ready hd hsz hj ((drawOK_spec hok j o ho).2.2 h i (by omega))
      have hdst : gDst ops j = o.dst := by simp [gDst, ho]
      have hlook : ∀ n ∈ looks ops o, Rel σ (getL (stAt ops val t 0 j) n) (a.tmps.getD n undef) := fun n hn => by
        by_cases hnl' : n < t.length
        · by_cases hex : ∃ i, i < m ∧ gDst ops i = some n
          · obtain ⟨i, hi, hgi⟩ := hex
            have hah := ((drawOK_spec hok j o ho).2.1 hjm).1 n hn i hi hgi
            have hil := ahead_ready hd hsz hj hah
            have him : i < m := hi
            have hij : i < j := aheadOf_lt hok 10 j i hah
            rw [stAt_val ops val j 0 t i (by omega) (by omega) hgi hnl' (fun i' _ h2 h3 => hdist i i' him (by omega) h3 n hgi)]
            exact (hx n).1 i him hil hgi hnl'
          · have hno : ∀ i, i < m → gDst ops i ≠ some n := fun i hi hg => hex ⟨i, hi, hg⟩
            rw [stAt_untouched ops val j 0 t (fun i _ h2 => hno i (by omega))]
            exact (hx n).2 fun i hi _ => hno i (by omega)
        · rw [getL_none (by rw [stAt_length]; omega)]
          have : a.tmps.getD n undef = undef := by
            rw [Array.getD_eq_getD_getElem?, Array.getElem?_eq_none (by omega)]; rfl
          rw [this]; exact .tup .nil
      -- behind the operation
      have hnext : ∀ (k' : Nat) (rv : Value) (w' : World), k' ≤ m → (∀ i, i < m → eff i = true → (Ls (listed.setIfInBounds j true) i ↔ i < k')) → Rel σ (val j) rv → Sim σ (mem k') w' → Fr σ (mem k) w σ (mem k') w' →
          wpAny P .any ops Q fuel (listed.setIfInBounds j true) (a.put o.dst rv) w' := fun k' rv w' hk'm hk' hrv s' f' => by
        refine ih (listed.setIfInBounds j true) (a.put o.dst rv) w' k' (by simpa using hsz) (hd.set hsz hj) ?_ (fun i hi => ?_) hk'm hk' s' ?_ (fun x => ⟨fun i hi hli hgi hxl => ?_, fun hno => ?_⟩) fun a2 w2 σ2 r2 d2 s2 f2 => q a2 w2 σ2 r2 (d2.trans (put_defers _ _ _)) s2 (f'.trans f2)
        · have := left_set hjs hsz hnl; omega
        · rw [Ls_set (by omega)]; rintro (rfl | h)
          · omega
          · exact hnm i hi h
        · cases o.dst <;> simp [Act.put, hat]
        · rw [Ls_set (by omega)] at hli
          by_cases hij : i = j
          · subst hij
            rw [hdst] at hgi
            rw [hgi]
            simp only [Act.put]
            rw [Array.getD_eq_getD_getElem?, Array.getElem?_setIfInBounds_self_of_lt (by omega)]
            exact hrv
          · have hne : o.dst ≠ some x := by rw [← hdst]; exact hdist i j hi hjm (Ne.symm hij) x hgi
            have : (a.put o.dst rv).tmps.getD x undef = a.tmps.getD x undef := by
              cases hod : o.dst with
              | none => rfl
              | some d =>
                have hdx : d ≠ x := fun e => hne (by rw [hod, e])
                simp [Act.put, Array.getD_eq_getD_getElem?, Array.getElem?_setIfInBounds_ne hdx]
            rw [this]
            exact (hx x).1 i hi (hli.resolve_left hij) hgi hxl
        · have hne : o.dst ≠ some x := by rw [← hdst]; exact hno j hjm ((Ls_set (by omega)).2 (.inl rfl))
          have : (a.put o.dst rv).tmps.getD x undef = a.tmps.getD x undef := by
            cases hod : o.dst with
            | none => rfl
            | some d =>
              have hdx : d ≠ x := fun e => hne (by rw [hod, e])
              simp [Act.put, Array.getD_eq_getD_getElem?, Array.getElem?_setIfInBounds_ne hdx]
          rw [this]
          exact (hx x).2 fun i hi hli => hno i hi ((Ls_set (by omega)).2 (.inr hli))
      cases hej : eff j with
      | false =>
        obtain ⟨o', ho', hqv⟩ := (hq j hjm hej).1.alive (hm k hkm).1 (hm k hkm).2
        rw [ho] at ho'; cases ho'
        refine hqv σ w a Q _ s hlook (by rw [stAt_length]; exact hat) fun rv w' hrv s' f' => hnext k rv w' hkm (fun i hi hei => ?_) hrv s' f'
        rw [Ls_set (by omega)]
        have hij : i ≠ j := fun e => by rw [e, hej] at hei; cases hei
        rw [← hk i hi hei]
        exact ⟨fun h => h.resolve_left hij, .inr⟩
      | true =>
        obtain ⟨hev, hahead⟩ := he j hjm hej
        have hkj : k ≤ j := by
          rcases Nat.lt_or_ge j k with h | h
          · exact absurd ((hk j hjm hej).2 h) hnl
          · exact h
        have hmj : mem j = mem k := by
          have := hsame (j - k) k (by omega) fun i h1 h2 => by
            cases hei : eff i with
            | false => rfl
            | true =>
              have := (hk i (by omega) hei).1 (ahead_ready hd hsz hj (hahead i (by omega) hei))
              omega
          rwa [show k + (j - k) = j by omega] at this
        obtain ⟨o', ho', hqv⟩ := hev
        rw [ho] at ho'; cases ho'
        rw [hmj] at hqv
        refine hqv σ w a Q _ s hlook (by rw [stAt_length]; exact hat) fun rv w' hrv s' f' => hnext (j + 1) rv w' (by omega) (fun i hi hei => ?_) hrv s' f'
        rw [Ls_set (by omega)]
        constructor
        · rintro (rfl | h)
          · omega
          · have := (hk i hi hei).1 h; omega
        · intro h
          by_cases hij : i = j
          · exact .inl hij
          · exact .inr (ahead_ready hd hsz hj (hahead i (by omega) hei))
end

/-! ### Their evaluation -/
def roBut (src : Nat) (H : List AB) : List AB := setB (roH H) src (getB H src)
theorem roBut_get (src : Nat) (H : List AB) (i : Nat) : getB (roBut src H) i = if i = src then getB H i else roB (getB H i) := by
  unfold roBut
  rw [getB_setB, roH_length, getB_roH]
  by_cases h : i = src
  · subst h
    rw [if_pos rfl]
    by_cases h2 : i < H.length
    · rw [if_pos ⟨rfl, h2⟩]
    · rw [if_neg (fun e => h2 e.2), getB_none (by omega)]; rfl
  · rw [if_neg (fun e => h e.1), if_neg h]
theorem Sim.roBut {σ : List (Nat × Nat)} {H : List AB} {w : World} (s : Sim σ H w) (src : Nat) : Sim σ (roBut src H) w := by
  have hl : ∀ j, (getB (Go.Ax.roBut src H) j).live = true → (getB H j).live = true := fun j h => by
    rw [roBut_get] at h
    split at h
    · exact h
    · cases hg : getB H j <;> rw [hg] at h
      · exact h
      · rfl
      · rfl
  have hrw : ∀ j, (getB (Go.Ax.roBut src H) j).rw = true → (getB H j).rw = true := fun j h => by
    rw [roBut_get] at h
    split at h
    · exact h
    · rw [roB_rw] at h; cases h
  refine ⟨by unfold Go.Ax.roBut; rw [setB_length, roH_length]; exact s.len, fun i b z hb => ?_, fun i j b z z' hi hj hr hlv => s.inj i j b z z' hi hj (hrw i hr) (hl j hlv)⟩
  rw [roBut_get]
  split
  · exact s.blk i b z hb
  · have := s.ro.blk i b z hb
    rwa [getB_roH] at this
/-- Back from a call that was given one block to write to. -/
theorem Sim.back_one {σ σ' : List (Nat × Nat)} {H H' : List AB} {w w' : World} {src : Nat} (s : Sim σ H w) (hrw : (getB H src).rw = true) (s' : Sim σ' H' w') (f : Fr σ (Go.Ax.roBut src H) w σ' H' w')
    (hlow : lowB H.length (getB H' src) = true) (hrw' : (getB H' src).rw = true) : Sim σ (setB H src (getB H' src)) w' ∧ Fr σ H w σ (setB H src (getB H' src)) w' := by
  have hsl : src < H.length := by
    rcases Nat.lt_or_ge src H.length with h | h
    · exact h
    · rw [getB_none h] at hrw; cases hrw
  have hold : ∀ b, b < w.heap.size → (∀ z, σ[src]? ≠ some (b, z)) → w'.heap[b]? = w.heap[b]? := fun b hb hno => f.old b hb fun i z hr hi => by
    rw [roBut_get] at hr
    split at hr
    · rename_i e; subst e; exact hno z hi
    · rw [roB_rw] at hr; cases hr
  have hkey : ∀ i, (getB (setB H src (getB H' src)) i).rw = (getB H i).rw ∧ (getB (setB H src (getB H' src)) i).live = (getB H i).live := fun i => by
    rw [getB_setB]
    split
    · rename_i e
      rw [e.1, hrw', hrw]
      exact ⟨rfl, by rw [rw_live hrw', rw_live hrw]⟩
    · exact ⟨rfl, rfl⟩
  refine ⟨⟨by rw [setB_length]; exact s.len, fun i b z hb => ?_, fun i j b z z' hi hj hr hl => s.inj i j b z z' hi hj (by rw [← (hkey i).1]; exact hr) (by rw [← (hkey j).2]; exact hl)⟩, ?_⟩
  · rw [getB_setB]
    split
    · rename_i e
      have e1 := e.1
      subst e1
      exact low_blk f.ext s.len hlow (s'.blk i b z (f.ext i _ hb))
    · rename_i hne
      have hb0 := s.blk i b z hb
      cases hg : getB H i with
      | dead => trivial
      | cells r A =>
        rw [hg] at hb0
        have hlt := s.lt hb (by rw [hg]; rfl)
        rw [hold b hlt fun z' hs => hne ⟨(s.inj src i b z' z hs hb hrw (by rw [hg]; rfl)).symm, hsl⟩]
        exact hb0
      | code o0 xs0 =>
        rw [hg] at hb0
        have hlt := s.lt hb (by rw [hg]; rfl)
        rw [hold b hlt fun z' hs => hne ⟨(s.inj src i b z' z hs hb hrw (by rw [hg]; rfl)).symm, hsl⟩]
        exact hb0
  · exact ⟨f.os, f.tape, f.output, f.size, fun b hb hno => hold b hb fun z hs => hno src z hrw hs, Ext.refl _, fun i b z h h' => (by rw [h'] at h; cases h), fun i _ hr => by rwa [(hkey i).1] at hr⟩

def isEffCall (E : List FuncId) (o : Oper) : Bool :=
  match o.op with
  | .call c => match c.callee with
    | .value f => match f with
      | .func g => E.any (Nat.beq g)
      | _ => false
    | _ => false
  | .store _ _ _ => E.any (Nat.beq 0)
  | _ => false
def effAt (E : List FuncId) (ops : Array Oper) (i : Nat) : Bool :=
  match ops[i]? with
  | some o => isEffCall E o
  | none => false
def effOK (E : List FuncId) (ops : Array Oper) (m : Nat) : Bool := (List.range m).all fun j => !effAt E ops j || (List.range j).all fun i => !effAt E ops i || aheadOf ops 10 j i
section
variable (P : Program) (T : Table) (E : List FuncId) (src : Nat)
def runM : List Oper → List AV → List AB → List Bool → KT → Res
  | [], t, H, nd, K => K t H nd
  | o :: rest, t, H, nd, K =>
    match o.guard with
    | some _ => .fail
    | none => match isEffCall E o with
      | false => stepQ P T o t (setB H src .dead) nd fun t nd => runM rest t H nd K
      | true => if o.op.operands.all okOpd then
          match o.op with
          | .call c => match aCall c (evA t) with
            | some (g, args) => match P.funcs[g]? with
              | some fn => match fn.body with
                | some _ => match fn.name == "runtime.NumGoroutine" with
                  | true => .fail
                  | false => T g args (roBut src H) nd fun v H' nd' => match below H.length v && lowB H.length (getB H' src) && (getB H' src).rw with
                    | true => runM rest (putT t o.dst v) (setB H src (getB H' src)) nd' K
                    | false => .fail
                | none => .fail
              | none => .fail
            | none => .fail
          | .store ty x y => match eop P (.store ty x y) (evA t) (roBut src H) with
            | some (v, H', n) => match below H.length v && lowB H.length (getB H' src) && (getB H' src).rw with
              | true => runM rest (putT t o.dst v) (setB H src (getB H' src)) (n ++ nd) K
              | false => .fail
            | none => .fail
          | _ => .fail
        else .fail
end
inductive MChain (P : Program) (E : List FuncId) (ops : Array Oper) (src : Nat) (Hd : List AB) : Nat → List AV → List AB → Nat → List AV → List AB → Prop
  | nil {k : Nat} {t : List AV} {H : List AB} (hH : setB H src .dead = Hd) (hrw : (getB H src).rw = true) : MChain P E ops src Hd k t H k t H
  | q {k j : Nat} {t t' : List AV} {H H' : List AB} {v : AV} (he : effAt E ops k = false) (h : QVal P ops k t Hd v) (hH : setB H src .dead = Hd) (hrw : (getB H src).rw = true) (c : MChain P E ops src Hd (k + 1) (putT t (gDst ops k) v) H j t' H') : MChain P E ops src Hd k t H j t' H'
  | e {k j : Nat} {t t' : List AV} {H H1 H' : List AB} {v : AV} (he : effAt E ops k = true) (h : EVal P ops k t H v H1) (hH : setB H src .dead = Hd) (hrw : (getB H src).rw = true) (c : MChain P E ops src Hd (k + 1) (putT t (gDst ops k) v) H1 j t' H') : MChain P E ops src Hd k t H j t' H'
theorem MChain.vals {P : Program} {E : List FuncId} {ops : Array Oper} {src : Nat} {Hd : List AB} {k j : Nat} {t t' : List AV} {H H' : List AB} (c : MChain P E ops src Hd k t H j t' H') :
    ∃ (val : Nat → AV) (mem : Nat → List AB), k ≤ j ∧ t' = stAt ops val t k (j - k) ∧ mem k = H ∧ mem j = H' ∧ (∀ i, k ≤ i → i ≤ j → setB (mem i) src .dead = Hd ∧ (getB (mem i) src).rw = true) ∧
      ∀ i, k ≤ i → i < j → (effAt E ops i = false → QVal P ops i (stAt ops val t k (i - k)) Hd (val i) ∧ mem (i + 1) = mem i) ∧ (effAt E ops i = true → EVal P ops i (stAt ops val t k (i - k)) (mem i) (val i) (mem (i + 1))) := by
  have hcongr : ∀ (val : Nat → AV) (v : AV) (k n k' : Nat) (t : List AV), k < k' → stAt ops (fun i => if i = k then v else val i) t k' n = stAt ops val t k' n := by
    intro val v k n
    induction n with
    | zero => intros; rfl
    | succ n ihn => intro k' t hk; simp only [stAt]; rw [if_neg (by omega)]; exact ihn _ _ (by omega)
  have step : ∀ {k j : Nat} {t t' : List AV} {H H1 H' : List AB} {v : AV}, (setB H src .dead = Hd ∧ (getB H src).rw = true) →
      ((effAt E ops k = false → QVal P ops k t Hd v ∧ H1 = H) ∧ (effAt E ops k = true → EVal P ops k t H v H1)) →
      (∃ (val : Nat → AV) (mem : Nat → List AB), k + 1 ≤ j ∧ t' = stAt ops val (putT t (gDst ops k) v) (k + 1) (j - (k + 1)) ∧ mem (k + 1) = H1 ∧ mem j = H' ∧ (∀ i, k + 1 ≤ i → i ≤ j → setB (mem i) src .dead = Hd ∧ (getB (mem i) src).rw = true) ∧
        ∀ i, k + 1 ≤ i → i < j → (effAt E ops i = false → QVal P ops i (stAt ops val (putT t (gDst ops k) v) (k + 1) (i - (k + 1))) Hd (val i) ∧ mem (i + 1) = mem i) ∧ (effAt E ops i = true → EVal P ops i (stAt ops val (putT t (gDst ops k) v) (k + 1) (i - (k + 1))) (mem i) (val i) (mem (i + 1)))) →
      ∃ (val : Nat → AV) (mem : Nat → List AB), k ≤ j ∧ t' = stAt ops val t k (j - k) ∧ mem k = H ∧ mem j = H' ∧ (∀ i, k ≤ i → i ≤ j → setB (mem i) src .dead = Hd ∧ (getB (mem i) src).rw = true) ∧
        ∀ i, k ≤ i → i < j → (effAt E ops i = false → QVal P ops i (stAt ops val t k (i - k)) Hd (val i) ∧ mem (i + 1) = mem i) ∧ (effAt E ops i = true → EVal P ops i (stAt ops val t k (i - k)) (mem i) (val i) (mem (i + 1))) := by
    intro k j t t' H H1 H' v hH h ⟨val, mem, hle, e1, e2, e3, e4, e5⟩
    refine ⟨fun i => if i = k then v else val i, fun i => if i = k then H else mem i, by omega, ?_, by simp, by simp only []; rw [if_neg (by omega)]; exact e3, fun i h1 h2 => ?_, fun i h1 h2 => ?_⟩
    · rw [show j - k = (j - (k + 1)) + 1 by omega, e1]
      simp only [stAt, if_true]
      exact (hcongr _ _ _ _ _ _ (by omega)).symm
    · by_cases hik : i = k
      · simp only [hik, if_true]; exact hH
      · simp only [hik, if_false]; exact e4 i (by omega) h2
    · by_cases hik : i = k
      · subst hik
        simp only [Nat.sub_self, if_true, show ¬ i + 1 = i by omega, if_false, e2]
        exact h
      · have e6 : i - k = (i - (k + 1)) + 1 := by omega
        rw [e6]
        simp only [stAt, if_true, hik, if_false, show ¬ i + 1 = k by omega]
        rw [hcongr _ _ _ _ _ _ (by omega)]
        exact e5 i (by omega) h2
  induction c with
  | @nil k t H hH hrw => exact ⟨fun _ => .tup [], fun _ => H, Nat.le_refl _, (by rw [Nat.sub_self]; rfl), rfl, rfl, fun _ _ _ => ⟨hH, hrw⟩, fun i h1 h2 => by omega⟩
  | q he h hH hrw c ih => exact step ⟨hH, hrw⟩ ⟨fun _ => ⟨h, rfl⟩, fun h' => (by rw [he] at h'; cases h')⟩ ih
  | e he h hH hrw c ih => exact step ⟨hH, hrw⟩ ⟨fun h' => (by rw [he] at h'; cases h'), fun _ => h⟩ ih

section
variable {P : Program} {T : Table} {E : List FuncId} {src : Nat} {ops : Array Oper}
theorem runM_sound (hT : SoundT P T) (K : KT) {m : Nat} (hm : m ≤ ops.size) : ∀ (l : List Oper) (k : Nat) (t : List AV) (H Hd : List AB) (nd : List Bool), l = (ops.toList.take m).drop k → k ≤ m → setB H src .dead = Hd → (getB H src).rw = true →
    (runM P T E src l t H nd K).sel = .fail ∨ ∃ t' H' nd', (runM P T E src l t H nd K).sel = (K t' H' nd').sel ∧ (allT nd' = true → allT nd = true ∧ MChain P E ops src Hd k t H m t' H')
  | [], k, t, H, Hd, nd, hl, hk, hH, hrw => by
    have : m ≤ k := by
      have := congrArg List.length hl
      simp at this; omega
    have : k = m := by omega
    subst this
    exact .inr ⟨t, H, nd, rfl, fun h => ⟨h, .nil hH hrw⟩⟩
  | o :: rest, k, t, H, Hd, nd, hl, hk, hH, hrw => by
    obtain ⟨ho, hrest⟩ := drop_cons hl
    have hks : k < m := by
      rcases Nat.lt_or_ge k m with h' | h'
      · exact h'
      · rw [List.getElem?_eq_none (by simp; omega)] at ho; cases ho
    have ho' : ops[k]? = some o := by
      rw [List.getElem?_take_of_lt hks] at ho; simpa using ho
    have hgd : gDst ops k = o.dst := by simp [gDst, ho']
    unfold runM
    cases hg : o.guard with
    | some g => exact .inl rfl
    | none =>
      dsimp only
      have hw : ∀ (Q : Exit → Act → World → Prop) (next : Act → World → Prop) (a : Act) (w : World), (o.wp P a w next Q → wpOp P ops Q k next a w) := fun Q next a w h => by
        simp only [wpOp, ho']
        rw [if_pos (by simp [Region.wanted, hg])]
        exact .inl h
      cases he : isEffCall E o with
      | false =>
        have heff : effAt E ops k = false := by simp [effAt, ho', he]
        rcases stepQ_sound (H := setB H src .dead) hT o t nd (fun t nd => runM P T E src rest t H nd K) with h2 | ⟨v, nd2, h2, h3⟩
        · exact .inl h2
        rw [h2]
        rcases runM_sound hT K hm rest (k + 1) (putT t o.dst v) H Hd nd2 hrest hks hH hrw with h4 | ⟨t', H', nd', h4, h5⟩
        · exact .inl h4
        refine .inr ⟨t', H', nd', h4, fun hn => ?_⟩
        obtain ⟨h6, c⟩ := h5 hn
        obtain ⟨h8, hok, h9⟩ := h3 h6
        rw [← hgd] at c
        rw [hH] at h9
        exact ⟨h8, .q heff ⟨o, ho', fun σ w a Q next s r _ q => hw Q next a w (h9 σ w a Q next s (opds_looks hok fun n hn => r n hn) q)⟩ hH hrw c⟩
      | true =>
        have heff : effAt E ops k = true := by simp [effAt, ho', he]
        dsimp only
        split
        case isFalse => exact .inl rfl
        rename_i hok
        cases hop : o.op
        case call c =>
          dsimp only
          cases hcall : aCall c (evA t) with
          | none => exact .inl rfl
          | some x =>
            obtain ⟨g, args⟩ := x
            dsimp only
            cases hfn : P.funcs[g]? with
            | none => exact .inl rfl
            | some fn =>
              dsimp only
              cases hb : fn.body with
              | none => exact .inl rfl
              | some body =>
                dsimp only
                cases hname : (fn.name == "runtime.NumGoroutine") with
                | true => exact .inl rfl
                | false =>
                  dsimp only
                  rcases hT g args (roBut src H) nd (fun v H' nd' => match below H.length v && lowB H.length (getB H' src) && (getB H' src).rw with
                    | true => runM P T E src rest (putT t o.dst v) (setB H src (getB H' src)) nd' K
                    | false => .fail) with h | ⟨v, H1, nd1, h1, h2⟩
                  · exact .inl h
                  rw [h1]
                  cases hc3 : below H.length v && lowB H.length (getB H1 src) && (getB H1 src).rw with
                  | false => exact .inl rfl
                  | true =>
                    simp only [Bool.and_eq_true] at hc3
                    obtain ⟨⟨hbl, hlow⟩, hrw1⟩ := hc3
                    dsimp only
                    have hsl : src < H.length := by
                      rcases Nat.lt_or_ge src H.length with h | h
                      · exact h
                      · rw [getB_none h] at hrw; cases hrw
                    have hH1 : setB (setB H src (getB H1 src)) src .dead = Hd := by
                      rw [← hH]
                      have : ∀ (l : List AB) (n : Nat) (x y : AB), setB (setB l n x) n y = setB l n y := by
                        intro l
                        induction l with
                        | nil => intros; rfl
                        | cons a l ih => intro n x y; cases n with
                          | zero => rfl
                          | succ n => simp only [setB]; rw [ih]
                      exact this _ _ _ _
                    rcases runM_sound hT K hm rest (k + 1) (putT t o.dst v) (setB H src (getB H1 src)) Hd nd1 hrest hks hH1 (by rw [getB_setB_same hsl]; exact hrw1) with h4 | ⟨t', H', nd', h4, h5⟩
                    · exact .inl h4
                    refine .inr ⟨t', H', nd', h4, fun hn => ?_⟩
                    obtain ⟨h6, ch⟩ := h5 hn
                    obtain ⟨h8, h9⟩ := h2 h6
                    rw [← hgd] at ch
                    refine ⟨h8, .e heff ⟨o, ho', fun σ w a Q next s r _ q => hw Q next a w ?_⟩ hH hrw ch⟩
                    have hopd := opds_looks hok fun n hn => r n hn
                    obtain ⟨rargs, hra, hrun⟩ := call_run (w := w) (P := P) hop hcall hopd
                    show o.upon P a next Q ((execOp a.eval o).run P w)
                    rw [hrun, callFunc_enter hfn hb hname]
                    refine (h9 σ w rargs (s.roBut src) hra).mono ?_
                    rintro e w' ⟨rv, rfl, σ', e2, e3, e4⟩
                    obtain ⟨s', f'⟩ := s.back_one hrw e3 e4 hlow hrw1
                    exact q _ _ (below_rel e4.ext s.len hbl e2) s' f'
        case store ty x y =>
          dsimp only
          cases heop : eop P (.store ty x y) (evA t) (roBut src H) with
          | none => exact .inl rfl
          | some z =>
            obtain ⟨v, H1, n⟩ := z
            dsimp only
            cases hc3 : below H.length v && lowB H.length (getB H1 src) && (getB H1 src).rw with
            | false => exact .inl rfl
            | true =>
              simp only [Bool.and_eq_true] at hc3
              obtain ⟨⟨hbl, hlow⟩, hrw1⟩ := hc3
              dsimp only
              have hsl : src < H.length := by
                rcases Nat.lt_or_ge src H.length with h | h
                · exact h
                · rw [getB_none h] at hrw; cases hrw
              have hH1 : setB (setB H src (getB H1 src)) src .dead = Hd := by
                rw [← hH]
                have : ∀ (l : List AB) (n : Nat) (x y : AB), setB (setB l n x) n y = setB l n y := by
                  intro l
                  induction l with
                  | nil => intros; rfl
                  | cons a l ih => intro n x y; cases n with
                    | zero => rfl
                    | succ n => simp only [setB]; rw [ih]
                exact this _ _ _ _
              rcases runM_sound hT K hm rest (k + 1) (putT t o.dst v) (setB H src (getB H1 src)) Hd (n ++ nd) hrest hks hH1 (by rw [getB_setB_same hsl]; exact hrw1) with h4 | ⟨t', H', nd', h4, h5⟩
              · exact .inl h4
              refine .inr ⟨t', H', nd', h4, fun hn => ?_⟩
              obtain ⟨h6, ch⟩ := h5 hn
              rw [allT_append, Bool.and_eq_true] at h6
              rw [← hgd] at ch
              refine ⟨h6.2, .e heff ⟨o, ho', fun σ w a Q next s r _ q => hw Q next a w ?_⟩ hH hrw ch⟩
              have hopd := opds_looks hok fun n hn => r n hn
              rw [← hop] at heop
              obtain ⟨rv, w', e1, σ', e2, e3, e4⟩ := eop_out (ρ := a.eval) heop h6.1 (s.roBut src) hopd
              obtain ⟨s', f'⟩ := s.back_one hrw e3 e4 hlow hrw1
              have hrel := below_rel e4.ext s.len hbl e2
              show o.upon P a next Q ((execOp a.eval o).run P w)
              rcases e1 with e1 | ⟨e1, rfl⟩
              · rw [e1]; exact q _ _ hrel s' f'
              · rw [e1]; exact q _ _ hrel s' f'
        all_goals exact .inl rfl

/-- A region of the mixed kind. -/
theorem mix_reach (hT : SoundT P T) (hf : P.follows .mixedOrders = true) {m : Nat} (hm : m ≤ ops.size) (hok : drawOK ops m = true) (heff : effOK E ops m = true) {id : Nat} {k : List Item} {t t' : List AV} {H H' : List AB} {nd : List Bool} (hrw : (getB H src).rw = true)
    (h : (runM P T E src (ops.toList.take m) t H [] fun t H nd => runOps P T ops (ops.toList.drop m) t H nd fun t H nd => .stop [] t H nd).sel = .stop [] t' H' nd) (hn : allT nd = true) : Reach P (.code (.region id ops true) :: k) t H k t' H' := by
  rcases runM_sound (src := src) (E := E) (ops := ops) hT (fun t H nd => runOps P T ops (ops.toList.drop m) t H nd fun t H nd => .stop [] t H nd) hm (ops.toList.take m) 0 t H _ [] (by simp) (Nat.zero_le _) rfl hrw with h1 | ⟨t1, H1, nd1, h1, h2⟩
  · rw [h] at h1; cases h1
  rw [h1] at h
  rcases runOps_sound (ops := ops) hT (fun t H nd => .stop [] t H nd) (ops.toList.drop m) m t1 H1 nd1 rfl hm with h3 | ⟨t2, H2, nd2, h3, h4⟩
  · rw [h] at h3; cases h3
  rw [h] at h3
  cases h3
  obtain ⟨h5, ch⟩ := h4 hn
  obtain ⟨_, mc⟩ := h2 h5
  obtain ⟨val, mem, _, e1, e2, e3, e4, e5⟩ := mc.vals
  rw [Nat.sub_zero] at e1
  rw [e1, ← e3] at ch
  refine region_reach fun σ w a Q s r q => wp_region_any hf ?_
  have hnl : ∀ i, ¬ Ls (Array.replicate ops.size false) i := fun i => by
    unfold Ls
    rw [Array.getD_eq_getD_getElem?]
    by_cases hi : i < ops.size
    · simp [hi]
    · simp [hi]
  have hsm : Same w { w with drawn := w.drawn + 1 } := Same.drew w
  refine any_mix (eff := effAt E ops) hok hm (fun i hi hei => ?_) (fun i hi hei => ⟨?_, fun j hj hej => ?_⟩) (fun i hi => e4 i (Nat.zero_le _) hi) ch ops.size _ a _ 0 (by simp) (fun i o _ hl => absurd hl (hnl i)) ?_ (fun i _ => hnl i) (Nat.zero_le _) (fun i hi hei => ⟨fun h => absurd h (hnl i), fun h => by omega⟩)
    (by rw [e2]; exact hsm.sim s) ?_ (fun x => ⟨fun i _ hl => absurd hl (hnl i), fun _ => r.getD x⟩) fun a' w' σ' r' d' s' f' => q a' w' σ' r' d' s' (by rw [e2] at f'; exact hsm.fr.trans f')
  · have := (e5 i (Nat.zero_le _) hi).1 hei
    rwa [Nat.sub_zero] at this
  · have := (e5 i (Nat.zero_le _) hi).2 hei
    rwa [Nat.sub_zero] at this
  · unfold effOK at heff
    simp only [List.all_eq_true, List.mem_range, Bool.or_eq_true, Bool.not_eq_true'] at heff
    rcases heff i hi with h | h
    · rw [hei] at h; cases h
    · rcases h j hj with h | h
      · rw [hej] at h; cases h
      · exact h
  · have := List.length_filter_le (fun i => !(Array.replicate ops.size false).getD i false) (List.range ops.size)
    simp only [List.length_range] at this
    exact this
  · have := r.length; simpa using this.symm
end
end Go.Ax

/- spec.DrawCellOf: some wave and two numbers. -/
namespace Go.Ax
open Go Go.Proofs

noncomputable def dcC : Code := Try.f22.body.getD .skip
noncomputable def dc0 (c : Cd) : Res := cupto Try.prog (tab11 4) (atReg 3) 100 [.code dcC] (.sl false 0 c.off c.len 0 :: undefs 26) [codeB c false]
def opsOf : List Item → Array Oper
  | .code (.region _ ops _) :: _ => ops
  | _ => #[]
def tlOf : List Item → List Item
  | _ :: k => k
  | [] => []
noncomputable def dcL : List Item := (dc0 ⟨[], 0, 0⟩).todo
noncomputable def dc1 (c : Cd) : Res := runM Try.prog (tab11 4) [112, 96] 2 ((opsOf dcL).toList.take 16) (dc0 c).tOf (dc0 c).HOf [] fun t H nd => runOps Try.prog (tab11 4) (opsOf dcL) ((opsOf dcL).toList.drop 16) t H nd fun t H nd => .stop [] t H nd
noncomputable def dc2 (c : Cd) : Res := cupto Try.prog (tab11 4) (fun _ => false) 100 (tlOf dcL) (dc1 c).tOf (dc1 c).HOf
theorem dcL_eq : dcL = .code (.region 3 (opsOf dcL) true) :: tlOf dcL := by kernel_rfl
theorem dc0_ok (c : Cd) : (dc0 c).isStop = true ∧ (dc0 c).todo = dcL := by constructor <;> kernel_rfl
theorem dc1_ok (c : Cd) : (dc1 c).isStop = true ∧ (dc1 c).todo = [] := by constructor <;> kernel_rfl
def rwAt (H : List AB) (i : Nat) : Bool := (getB H i).rw
theorem dc0_rw (c : Cd) : rwAt (dc0 c).HOf 2 = true := by kernel_rfl
theorem dc_draw : (drawOK (opsOf dcL) 16 && effOK [112, 96] (opsOf dcL) 16 && Try.prog.follows .mixedOrders && Nat.ble 16 (opsOf dcL).size) = true := by kernel_rfl
theorem nd_ok {c : Cd} (hc : goodB c = true) {l : List Bool} {m : Nat} (h : l = List.replicate m (okB c c.off c.len)) : allT l = true := by
  have hk : okB c c.off c.len = true := by simp [okB, hc]
  rw [h, hk]; exact allT_rep m
theorem dc0_nd (c : Cd) : (dc0 c).nds = List.replicate 2 (okB c c.off c.len) := by kernel_rfl
theorem dc1_nd (c : Cd) : (dc1 c).nds = List.replicate 3 (okB c c.off c.len) := by kernel_rfl
def formWII : Form ((Int × (Nat → Nat × Nat)) × Int × Int) where
  get := fun
    | .tup [a, b, c] => match formW.get a, formI.get b, formI.get c with
      | some x, some y, some z => some (x, y, z)
      | _, _, _ => none
    | _ => none
  val := fun x => .tup [wv x.1.1 x.1.2, .i false .i64 x.2.1, .i false .i64 x.2.2]
  rel := fun {v x} h σ y r => by
    split at h <;> (try (cases h; done))
    split at h <;> cases h
    rename_i a b c x1 x2 x3 h1 h2 h3
    cases r with | tup hr =>
    generalize hal : Array.toList _ = al at hr
    cases hr with | cons r1 hr => cases hr with | cons r2 hr => cases hr with | cons r3 hr => cases hr with | nil =>
    refine .tup ?_
    rw [hal]
    exact .cons (formW.rel h1 σ _ r1) (.cons (formI.rel h2 σ _ r2) (.cons (formI.rel h3 σ _ r3) .nil))
  low := fun x => by simp [below, belowL, wv_low]
/-- The end of a call, in a form. -/
noncomputable def endF {α : Type} (F : Form α) (rs : List ResultVar) (r : Res) : Option (α × List Bool) :=
  match endOf Try.prog rs r with
  | some (x, _, nd) => match x with
    | some (vs, m) => match F.get (tupV vs) with
      | some y => some (y, m ++ nd)
      | none => none
    | none => none
  | none => none
noncomputable def endN {α : Type} (x : Option (α × List Bool)) : Option (List Bool) := x.map (·.2)
theorem dc2_nd (c : Cd) : endN (endF formWII Try.f22.results.toList (dc2 c)) = some [] := by kernel_rfl
theorem drawCell_ok {c : Cd} (hc : goodB c = true) : ∃ x, DrawOK Try.prog 22 c (formWII.val x) := by
  have hb : Try.f22.body = some dcC := rfl
  obtain ⟨a1, a2⟩ := dc0_ok c
  obtain ⟨b1, b2⟩ := dc1_ok c
  have r0 := one_reach (tab11_sound 4) (r := dc0 c) rfl a1 (nd_ok hc (dc0_nd c))
  rw [a2, dcL_eq] at r0
  have hd := dc_draw
  simp only [Bool.and_eq_true] at hd
  obtain ⟨⟨⟨d1, d2⟩, d3⟩, d4⟩ := hd
  have e1 := Res.isStop_eq b1
  rw [b2] at e1
  have hsel : (dc1 c).sel = .stop [] (dc1 c).tOf (dc1 c).HOf (dc1 c).nds := by
    conv => lhs; rw [e1]
    rfl
  have r1 := mix_reach (k := tlOf dcL) (id := 3) (tab11_sound 4) d3 (Nat.le_of_ble_eq_true d4) d1 d2 (dc0_rw c) hsel (nd_ok hc (dc1_nd c))
  have hn := dc2_nd c
  cases hr : endF formWII Try.f22.results.toList (dc2 c) with
  | none => rw [hr] at hn; cases hn
  | some y =>
    obtain ⟨x, nd⟩ := y
    rw [hr] at hn
    simp only [endN, Option.map_some, Option.some.injEq] at hn
    subst hn
    unfold endF at hr
    split at hr <;> (try (cases hr; done))
    rename_i rx H nd0 he
    split at hr <;> (try (cases hr; done))
    rename_i vs m
    split at hr <;> (try (cases hr; done))
    rename_i y hy
    simp only [Option.some.injEq, Prod.mk.injEq, List.append_eq_nil_iff] at hr
    obtain ⟨rfl, rfl, rfl⟩ := hr
    obtain ⟨t, g1, g2⟩ := endOf_ends (tab11_sound 4) he rfl rfl
    have hcall := call_of_ends (args := [.sl false 0 c.off c.len 0]) Try.func22 hb ((r0.trans r1).ends g1) g2 rfl
    have hw := hcall.weaken fun σ z r => formWII.rel hy σ z r
    exact ⟨y, fun Hr => hw.read (formWII.low y) rfl Hr⟩
end Go.Ax

/- laws.dice.below: a number below a bound. -/
namespace Go.Ax
open Go Go.Proofs

noncomputable def beX (h : Int) : Int := IntKind.i64.wrap (IntKind.u64.wrap (↑(BitVec.ofInt IntKind.u64.bits ((nxH h).fdiv (2 ^ min (Int.toNat 33) IntKind.u64.bits)) &&& BitVec.ofInt IntKind.u64.bits 16777215).toNat))
noncomputable def beV (c : Cd) (a : Nat) (h n : Int) : Int :=
  if n < 1 then 0 else if Int.ofNat a < ↑c.len then (IntKind.i64.wrap (beX h + nxB c a)).tmod n else (beX h).tmod n

theorem beX_bound (h : Int) : 0 ≤ beX h ∧ beX h < 16777216 := by
  unfold beX
  generalize BitVec.ofInt IntKind.u64.bits ((nxH h).fdiv (2 ^ min (Int.toNat 33) IntKind.u64.bits)) = x
  have h1 : (x &&& BitVec.ofInt IntKind.u64.bits 16777215).toNat ≤ 16777215 := by
    rw [BitVec.toNat_and]
    exact Nat.le_trans Nat.and_le_right (by decide)
  generalize (x &&& BitVec.ofInt IntKind.u64.bits 16777215).toNat = y at h1
  have h2 : IntKind.u64.wrap (y : Int) = y := by
    simp [IntKind.wrap, IntKind.bits, IntKind.signed]; omega
  rw [h2, wrap64_id (by omega) (by omega)]
  omega
theorem beV_bound {c : Cd} (hc : goodB c = true) (a : Nat) (h n : Int) : 0 ≤ beV c a h n ∧ (1 ≤ n → beV c a h n < n) := by
  unfold beV
  have hx := beX_bound h
  have hb := nxB_bound hc a
  split
  · exact ⟨by omega, by omega⟩
  · split
    · rw [wrap64_id (by omega) (by omega)]
      exact ⟨Int.tmod_nonneg _ (by omega), fun _ => Int.tmod_lt_of_pos _ (by omega)⟩
    · exact ⟨Int.tmod_nonneg _ (by omega), fun _ => Int.tmod_lt_of_pos _ (by omega)⟩

noncomputable def belowRes (c : Cd) (a : Nat) (h n : Int) : Res :=
  Res.ite (decide (n < 1)) (Res.ret (AV.i true IntKind.i64 (Int.ofNat 0)) [codeB c false, srcB c a h] [])
    (Res.ite (decide (Int.ofNat a < ↑c.len))
      (Res.ret (AV.i false IntKind.i64 ((IntKind.i64.wrap (beX h + nxB c a)).tmod n))
        [codeB c false, AB.cells true (Cells.lit [AV.sl false 0 c.off c.len 0, AV.i false IntKind.i64 (IntKind.i64.wrap (Int.ofNat a + 1)), AV.i false IntKind.u64 (nxH h)])]
        [!n == 0, decide (c.off ≤ c.off + (Int.ofNat a).toNat * 1), decide (c.off + (Int.ofNat a).toNat * 1 - c.off < c.bytes.length), decide (0 ≤ Int.ofNat a) && decide (Int.ofNat a < ↑c.len)])
      (Res.ret (AV.i false IntKind.i64 ((beX h).tmod n)) [codeB c false, srcB c a (nxH h)] [!n == 0]))
theorem below_run (c : Cd) (a : Nat) (h n : Int) :
    runF Try.prog noT 200 16 [.p true 1 0, .i false .i64 n] [codeB c false, srcB c a h] [] (fun v H nd => .ret v H nd) = belowRes c a h n := by kernel_rfl

theorem below_ok {c : Cd} (hc : goodB c = true) (a : Nat) (h n : Int) : SrcOK Try.prog 16 [.i false .i64 n] c a h (.i false .i64 (beV c a h n)) (nxA c a n) (nxS h n) := by
  have hr := below_run c a h n
  have hS := runF_sound (noT_sound Try.prog) 200
  have hg := hc
  simp only [goodB, Bool.and_eq_true, decide_eq_true_eq] at hg
  by_cases hn : n < 1
  · refine ⟨_, (call_of_sel (H' := [codeB c false, srcB c a h]) (nd := []) hS (v := .i true .i64 (Int.ofNat 0)) ?_ rfl).weaken ?_, ?_, rfl, rfl⟩
    · rw [hr]; simp [belowRes, Res.sel, hn]
    · intro σ x r
      simp only [beV, hn, if_true]
      cases r; exact .i _ _
    · simp [nxA, nxS, hn]; rfl
  · have hn0 : ¬ n = 0 := by omega
    by_cases ha : a < c.len
    · refine ⟨_, (call_of_sel (H' := [codeB c false, AB.cells true (Cells.lit [AV.sl false 0 c.off c.len 0, AV.i false IntKind.i64 (IntKind.i64.wrap (Int.ofNat a + 1)), AV.i false IntKind.u64 (nxH h)])])
        (nd := [!n == 0, decide (c.off ≤ c.off + (Int.ofNat a).toNat * 1), decide (c.off + (Int.ofNat a).toNat * 1 - c.off < c.bytes.length), decide (0 ≤ Int.ofNat a) && decide (Int.ofNat a < ↑c.len)])
        hS (v := AV.i false IntKind.i64 ((IntKind.i64.wrap (beX h + nxB c a)).tmod n)) ?_ ?_).weaken ?_, ?_, rfl, rfl⟩
      · rw [hr]
        have : Int.ofNat a < ↑c.len := by simp; omega
        simp only [belowRes, Res.sel, hn, decide_false, Bool.false_eq_true, if_false, this, decide_true, if_true]
      · have hlt : a < c.bytes.length := by omega
        simp [allT, hn0]
        exact ⟨hlt, ha⟩
      · intro σ x r
        have : Int.ofNat a < ↑c.len := by simp; omega
        simp only [beV, hn, if_false, this, if_true]
        exact r
      · have h1 : IntKind.i64.wrap (Int.ofNat a + 1) = Int.ofNat (a + 1) := by
          rw [wrap64_id] <;> simp <;> omega
        rw [h1]
        simp only [nxA, nxS, hn, if_false, ha, if_true]
        rfl
    · refine ⟨_, (call_of_sel (H' := [codeB c false, srcB c a (nxH h)]) (nd := [!n == 0]) hS (v := AV.i false IntKind.i64 ((beX h).tmod n)) ?_ ?_).weaken ?_, ?_, rfl, rfl⟩
      · rw [hr]
        have : ¬ Int.ofNat a < ↑c.len := by simp; omega
        simp only [belowRes, Res.sel, hn, decide_false, Bool.false_eq_true, if_false, this]
      · simp [allT, hn0]
      · intro σ x r
        have : ¬ Int.ofNat a < ↑c.len := by simp; omega
        simp only [beV, hn, if_false, this]
        exact r
      · simp only [nxA, nxS, hn, if_false, ha]
        rfl
end Go.Ax

/- laws.roll: a source of numbers out of a text of bytes. -/
namespace Go.Ax
open Go Go.Proofs

noncomputable def rlC : Code := Try.f15.body.getD .skip
noncomputable def rlL : List Item := [.code (.loop (cO (cB (cR (cL (cR (cR rlC))))))), .inBlock 0, .code (cR (cR (cR rlC)))]
noncomputable def rlR : List Item := [.inLoop (cO (cB (cR (cL (cR (cR rlC)))))), .inBlock 0, .code (cR (cR (cR rlC)))]
noncomputable def rlT (c : Cd) (i : Nat) : List AV := [.sl false 0 c.off c.len 0, .any, .any, .any, .any, .p true 1 0, .i false .i64 (Int.ofNat i)] ++ List.replicate 31 .any
noncomputable def rlN (c : Cd) (i : Nat) : List AV := [.sl false 0 c.off c.len 0, .any, .any, .any, .any, .p true 1 0, .i false .i64 (IntKind.i64.wrap (Int.ofNat i + 1))] ++ List.replicate 31 .any
noncomputable def rlM : List Bool := [false, true, true, true, true, false, false] ++ List.replicate 31 true
noncomputable def rl0 (c : Cd) (sd : Int) : Res := toLoop Try.prog noT 100 [.code rlC] (.sl false 0 c.off c.len 0 :: .i false .u64 sd :: undefs 36) [codeB c false]
noncomputable def rl1 (c : Cd) (i : Nat) (h : Int) : Res := toLoop Try.prog noT 100 rlR (rlT c i) [codeB c false, srcZ c h]
noncomputable def rlH (c : Cd) (i : Nat) (h : Int) : Int := IntKind.u64.wrap (IntKind.u64.wrap (IntKind.u64.wrap (h * 1099511628211) + IntKind.u64.wrap (c.bytes.getD (c.off + (Int.ofNat i).toNat * 1 - c.off) 0)) + 5)

theorem rl0_fin (c : Cd) (sd : Int) : (rl0 c sd).todo = rlL ∧ (leafM rlM (rl0 c sd)).map (fun r => (r.1.map AV.bare, r.2)) = some ((rlT c 0).map AV.bare, [codeB c false, srcZ c (IntKind.u64.wrap (IntKind.u64.wrap (sd * 8111) + IntKind.u64.wrap (Int.ofNat c.len)))], []) := by
  constructor <;> kernel_rfl
theorem rl1_go (c : Cd) (i : Nat) (h : Int) : (rl1 c i h).conds [true] = [decide (Int.ofNat i < ↑c.len)] ∧ ((rl1 c i h).at [true]).todo = rlR ∧
    leafM rlM ((rl1 c i h).at [true]) = some (rlN c i, [codeB c false, srcZ c (rlH c i h)], [decide (c.off ≤ c.off + (Int.ofNat i).toNat * 1), decide (c.off + (Int.ofNat i).toNat * 1 - c.off < c.bytes.length), decide (0 ≤ Int.ofNat i) && decide (Int.ofNat i < ↑c.len)]) := by
  refine ⟨?_, ?_, ?_⟩ <;> kernel_rfl
theorem rl1_end (c : Cd) (i : Nat) (h : Int) : (rl1 c i h).conds [false] = [decide (Int.ofNat i < ↑c.len)] ∧
    retOf Try.f15.results.toList ((rl1 c i h).at [false]) = some (some ([.p true 1 0], []), [codeB c false, srcZ c h], []) := by
  refine ⟨?_, ?_⟩ <;> kernel_rfl

theorem ro_from {c : Cd} (hc : goodB c = true) {todoS : List Item} {tS : List AV} {HS : List AB} (L : List Item) (hL : L = rlL ∨ L = rlR) : ∀ (m : Nat) (i : Nat) (h : Int), i + m = c.len →
    Reach Try.prog todoS tS HS L (rlT c i) [codeB c false, srcZ c h] → ∃ t h', Ends Try.prog todoS tS HS t [codeB c false, srcZ c h'] ∧ resV Try.prog t [codeB c false, srcZ c h'] Try.f15.results.toList = some ([.p true 1 0], [])
  | 0, i, h, hi, hr => by
    have hi' : i = c.len := by omega
    subst hi'
    obtain ⟨e1, e2⟩ := rl1_end c c.len h
    have hd : decide (Int.ofNat c.len < ↑c.len) = false := by simp
    rw [hd] at e1
    have hend : ∃ t, Ends Try.prog L (rlT c c.len) [codeB c false, srcZ c h] t [codeB c false, srcZ c h] ∧ resV Try.prog t [codeB c false, srcZ c h] Try.f15.results.toList = some ([.p true 1 0], []) := by
      rcases hL with rfl | rfl
      · exact ends_leaf (n := 100) hT0 (T := noT) (p := [false]) e1 e2 rfl
      · exact ends_leaf (n := 100) hT0 (T := noT) (p := [false]) e1 e2 rfl
    obtain ⟨t, e3, e4⟩ := hend
    exact ⟨t, h, hr.ends e3, e4⟩
  | m + 1, i, h, hi, hr => by
    obtain ⟨e1, e2, e3⟩ := rl1_go c i h
    have hg := hc
    simp only [goodB, Bool.and_eq_true, decide_eq_true_eq] at hg
    have hd1 : decide (Int.ofNat i < ↑c.len) = true := by simp; omega
    rw [hd1] at e1
    have hnd : allT [decide (c.off ≤ c.off + (Int.ofNat i).toNat * 1), decide (c.off + (Int.ofNat i).toNat * 1 - c.off < c.bytes.length), decide (0 ≤ Int.ofNat i) && decide (Int.ofNat i < ↑c.len)] = true := by
      simp [allT]; omega
    have hN : rlN c i = rlT c (i + 1) := by
      unfold rlN rlT
      have : IntKind.i64.wrap (Int.ofNat i + 1) = Int.ofNat (i + 1) := by rw [wrap64_id] <;> simp <;> omega
      rw [this]
    rw [hN] at e3
    have hstep : Reach Try.prog L (rlT c i) [codeB c false, srcZ c h] rlR (rlT c (i + 1)) [codeB c false, srcZ c (rlH c i h)] := by
      rcases hL with rfl | rfl
      · exact reach_leaf (n := 100) hT0 (T := noT) (p := [true]) e1 e2 e3 hnd
      · exact reach_leaf (n := 100) hT0 (T := noT) (p := [true]) e1 e2 e3 hnd
    exact ro_from hc rlR (.inr rfl) m (i + 1) _ (by omega) (hr.trans hstep)

theorem roll_ok {c : Cd} (hc : goodB c = true) (sd : Int) : ∃ h, CallOK Try.prog 15 [.sl false 0 c.off c.len 0, .i false .u64 sd] [codeB c false] (.p true 1 0) [codeB c false, srcZ c h] := by
  obtain ⟨e1, e2⟩ := rl0_fin c sd
  cases hr : rl0 c sd <;> rw [hr] at e1 e2 <;> simp [leafM] at e2
  rename_i todo t H nd
  obtain ⟨e3, rfl, rfl⟩ := e2
  simp only [Res.todo] at e1
  subst e1
  have h0 : Reach Try.prog [.code rlC] (.sl false 0 c.off c.len 0 :: .i false .u64 sd :: undefs 36) [codeB c false] rlL (rlT c 0) [codeB c false, srcZ c (IntKind.u64.wrap (IntKind.u64.wrap (sd * 8111) + IntKind.u64.wrap (Int.ofNat c.len)))] := by
    refine ((toLoop_reach (n := 100) (nd := []) hT0 (T := noT) (t' := t) (todo' := rlL) ?_ rfl).weak (blur_eqv rlM t)).weak (eqv_of_bare ?_)
    · unfold rl0 at hr; rw [hr]; rfl
    · rw [← e3]
  obtain ⟨t', h', e4, e5⟩ := ro_from hc rlL (.inl rfl) c.len 0 _ (by omega) h0
  have hb : Try.f15.body = some rlC := rfl
  exact ⟨h', call_of_ends (args := [.sl false 0 c.off c.len 0, .i false .u64 sd]) (m := []) Try.func15 hb e4 e5 rfl⟩
end Go.Ax

/- Table rows for laws.roll and laws.dice.below. -/
namespace Go.Ax
open Go Go.Proofs

noncomputable def rollV (c : Cd) (sd : Int) : Int := open Classical in if hx : ∃ h, CallOK Try.prog 15 [.sl false 0 c.off c.len 0, .i false .u64 sd] [codeB c false] (.p true 1 0) [codeB c false, srcZ c h] then hx.choose else 0
theorem rollV_ok {c : Cd} (hc : goodB c = true) (sd : Int) : CallOK Try.prog 15 [.sl false 0 c.off c.len 0, .i false .u64 sd] [codeB c false] (.p true 1 0) [codeB c false, srcZ c (rollV c sd)] := by
  have he := roll_ok hc sd
  unfold rollV
  rw [dif_pos he]
  exact he.choose_spec
noncomputable def rollT : Table := fun _ args H nd K =>
  match args, H with
  | [s, .i _ .u64 sd], B :: Hr => match readSl s, readCode B with
    | some (o, n), some (o', b) => K (.p true (Hr.length + 1) 0) (B :: (Hr ++ [srcR o n 0 (rollV ⟨b, o', n⟩ sd)])) (okB ⟨b, o', n⟩ o n :: nd)
    | _, _ => .fail
  | _, _ => .fail
theorem roll_at : SoundAt Try.prog 15 rollT := fun args H nd K => by
  unfold rollT
  split
  case h_2 => exact .inl rfl
  rename_i s ls sd B Hr
  split
  case h_2 => exact .inl rfl
  rename_i o n o' b hs hb
  refine .inr ⟨_, _, _, rfl, fun hn => ?_⟩
  simp only [allT, Bool.and_eq_true, okB] at hn
  obtain ⟨⟨⟨hg, ho⟩, _⟩, hnd⟩ := hn
  have ho : o = o' := of_decide_eq_true ho
  subst ho
  refine ⟨hnd, ?_⟩
  obtain ⟨l, rfl⟩ := readSl_spec hs
  have hB := readCode_spec hb
  subst hB
  have h1 := ((rollV_ok hg sd).frame rfl rfl rfl Hr).bare (args' := [.sl l 0 o n 0, .i ls .u64 sd]) rfl
  have h2 := h1.post (H' := AB.code o b :: (Hr ++ [srcR o n 0 (rollV ⟨b, o, n⟩ sd)])) (by
    refine HEq.cons ⟨rfl, rfl, fun _ _ _ h => h⟩ ?_
    have : ∀ (Hr : List AB) (X Y : AB), HEq [X] [Y] → HEq (Hr ++ [X]) (Hr ++ [Y]) := by
      intro Hr X Y h
      induction Hr with
      | nil => exact h
      | cons A Hr ih => exact HEq.cons ⟨rfl, rfl, fun _ _ _ h => h⟩ ih
    exact this Hr _ _ (HEq.cons src_same (HEq.refl [])))
  have e : upV ([codeB ⟨b, o, n⟩ false] : List AB).length Hr.length (.p true 1 0) = .p true (Hr.length + 1) 0 := by
    show AV.p true (1 + Hr.length) 0 = _
    rw [Nat.add_comm]
  rw [e] at h2
  exact h2
noncomputable def belowT : Table := srcT fun c a h sc => match sc with
  | [.i _ .i64 n] => some (.i false .i64 (beV c a h n), nxA c a n, nxS h n, [])
  | _ => none
theorem below_at : SoundAt Try.prog 16 belowT := fun args H nd K => by
  refine srcT_sound (fun c a h sc v a' h' q hc hg _ => ?_) args H nd K
  split at hg <;> cases hg
  rename_i l n _
  obtain ⟨H2, k, e1, e2, e3⟩ := below_ok hc a h n
  exact ⟨H2, k.bare (args' := [.p true 1 0, .i l .i64 n]) rfl, e1, e2, rfl⟩
end Go.Ax

/- PlaneWave, FlatWave and CellOf, of both sides. -/
namespace Go.Ax
open Go Go.Proofs

theorem deep_weak {P : Program} {f : FuncId} {args : List AV} {v v' : AV} {H H' : List AB} (h : CallOK P f args H v H') (e : v = v') : CallOK P f args H v' H' := e ▸ h
theorem tup2_weak {σ : List (Nat × Nat)} {l l' : List AV} {c c' : AV} {x : Value} (h : l.map AV.bare = l'.map AV.bare) (hc : c.bare = c'.bare) (r : Rel σ (.tup [.agg l, c]) x) : Rel σ (.tup [.agg l', c']) x := by
  cases r with | tup hr =>
  generalize hal : Array.toList _ = al at hr
  cases hr with | cons r1 hr => cases hr with | cons r2 hr => cases hr with | nil =>
  refine .tup ?_
  rw [hal]
  exact .cons (agg_bare h r1) (.cons (hc ▸ r2.bare).unbare .nil)

/-! ### PlaneWave -/
def inU (u : Int) : Bool := cond (decide (-64 ≤ u)) (decide (u ≤ 64)) false
theorem inU_iff {u : Int} : inU u = true ↔ -64 ≤ u ∧ u ≤ 64 := by
  unfold inU
  by_cases h : -64 ≤ u <;> simp [h]
def w64 (n : Int) : Int := IntKind.i64.wrap n
def kI (n u v : Int) (j : Nat) : Int := w64 ((w64 (w64 (w64 (u * (Int.ofNat j).tmod n) + w64 (v * (Int.ofNat j).tdiv n)) * 64)).tdiv n)
def kS (n u v : Int) (j : Nat) : Int := w64 (w64 (w64 (u * (Int.ofNat j).tmod n) + w64 (v * (Int.ofNat j).tdiv n)) * (Int.tdiv 64 n))
def planeV (N : Nat) (n u v : Int) (k : Nat → Int) (fx fy : Int → Nat) : AV :=
  .tup [.agg (.i false .i64 (cond (!inU u) 0 (cond (!inU v) 0 n)) :: (List.range 64).map fun j => match Nat.ble N j with
    | true => .c true .f32 0 0
    | false => .c false .f32 (plusF (cond (!inU u) 0 (cond (!inU v) 0 (fx (k j))))) (plusF (cond (!inU u) 0 (cond (!inU v) 0 (fy (k j)))))), .i false .i64 (cond (!inU u) 2 (cond (!inU v) 2 0))]
noncomputable def rowsQ1 : List (FuncId × Table) := (195, pureT gSp) :: (10, pureT gPhase) :: rowsW
theorem rowsQ1_at : ∀ p ∈ rowsQ1, SoundAt Try.prog p.1 p.2 := fun p hp => by
  simp only [rowsQ1, List.mem_cons] at hp
  rcases hp with rfl | rfl | hp
  · exact sp_at
  · exact phase_at
  · exact rowsW_at p hp
noncomputable def tabQ1 : Table := tabOf (cdeep Try.prog rowsQ1 [] 3000 8)
theorem tabQ1_sound : SoundT Try.prog tabQ1 := cdeep_sound rowsQ1_at 8
theorem plane13 (N : Nat) (n : Int) (hn : (N, n) ∈ doNs) (u v : Int) : joinR 0 (tabQ1 13 [.i true .i64 n, .i false .i64 u, .i false .i64 v] [] [] fun v H nd => .ret v H nd) = some (planeV N n u v (kI n u v) phX phY, []) := by
  simp only [doNs, List.mem_cons, Prod.mk.injEq, List.not_mem_nil, or_false] at hn
  rcases hn with ⟨rfl, rfl⟩ | ⟨rfl, rfl⟩ | ⟨rfl, rfl⟩ | ⟨rfl, rfl⟩ <;> kernel_rfl
theorem plane14 (N : Nat) (n : Int) (hn : (N, n) ∈ doNs) (u v : Int) : joinR 0 (tabQ1 14 [.i true .i64 n, .i false .i64 u, .i false .i64 v] [] [] fun v H nd => .ret v H nd) = some (planeV N n u v (kS n u v) spX spY, []) := by
  simp only [doNs, List.mem_cons, Prod.mk.injEq, List.not_mem_nil, or_false] at hn
  rcases hn with ⟨rfl, rfl⟩ | ⟨rfl, rfl⟩ | ⟨rfl, rfl⟩ | ⟨rfl, rfl⟩ <;> kernel_rfl
def planeOK (n u v : Int) : Bool := sideB n && (inU u && inU v)
def planeK (n u v : Int) (j : Nat) : Int := (u * (Int.ofNat j).tmod n + v * (Int.ofNat j).tdiv n) * Int.tdiv 64 n
def planeX (n u v : Int) (j : Nat) : Nat × Nat := match planeOK n u v && Nat.blt j (n.toNat * n.toNat) with
  | true => (phX (planeK n u v j), phY (planeK n u v j))
  | false => (0, 0)
def planeR (n u v : Int) : AV := .tup [wv (cond (planeOK n u v) n 0) (planeX n u v), .i false .i64 (cond (planeOK n u v) 0 2)]

theorem w64_id {a : Int} (h : -1000000 ≤ a ∧ a ≤ 1000000) : w64 a = a := wrap64_id (by omega) (by omega)
theorem mul_bd {u x : Int} (hu : -64 ≤ u ∧ u ≤ 64) (hx : 0 ≤ x ∧ x ≤ 63) : -4032 ≤ u * x ∧ u * x ≤ 4032 := by
  have h1 := Int.mul_le_mul_of_nonneg_right hu.1 hx.1
  have h2 := Int.mul_le_mul_of_nonneg_right hu.2 hx.1
  constructor <;> omega
theorem k_eq {n u v : Int} {j : Nat} (hn : n = 1 ∨ n = 2 ∨ n = 4 ∨ n = 8) (hu : -64 ≤ u ∧ u ≤ 64) (hv : -64 ≤ v ∧ v ≤ 64) (hj : j < 64) : kI n u v j = planeK n u v j ∧ kS n u v j = planeK n u v j := by
  have hx : 0 ≤ (Int.ofNat j).tmod n ∧ (Int.ofNat j).tmod n ≤ 63 := by
    have h0 := Int.tmod_nonneg (b := n) (a := Int.ofNat j) (by simp)
    have h1 := Int.tmod_lt_of_pos (Int.ofNat j) (b := n) (by omega)
    omega
  have hy : 0 ≤ (Int.ofNat j).tdiv n ∧ (Int.ofNat j).tdiv n ≤ 63 := by
    refine ⟨Int.tdiv_nonneg (by simp) (by omega), ?_⟩
    have h1 := Int.tmod_add_mul_tdiv (Int.ofNat j) n
    have h0 := Int.tmod_nonneg (b := n) (a := Int.ofNat j) (by simp)
    have h2 : (Int.ofNat j) = (j : Int) := rfl
    rcases hn with rfl | rfl | rfl | rfl <;> omega
  unfold kI kS planeK
  generalize (Int.ofNat j).tmod n = x at *
  generalize (Int.ofNat j).tdiv n = y at *
  have b1 := mul_bd hu hx
  have b2 := mul_bd hv hy
  rw [w64_id (a := u * x) (by omega), w64_id (a := v * y) (by omega)]
  generalize u * x = p at *
  generalize v * y = q at *
  rw [w64_id (a := p + q) (by omega), w64_id (a := (p + q) * 64) (by omega)]
  rcases hn with rfl | rfl | rfl | rfl
  · have e : Int.tdiv 64 1 = 64 := rfl
    have e2 : ((p + q) * 64).tdiv 1 = (p + q) * 64 := Int.tdiv_one _
    rw [e, e2, w64_id (by omega)]
    exact ⟨rfl, rfl⟩
  · have e : Int.tdiv 64 2 = 32 := rfl
    have e2 : ((p + q) * 64).tdiv 2 = (p + q) * 32 := by
      rw [show (p + q) * 64 = (p + q) * 32 * 2 by omega]; exact Int.mul_tdiv_cancel _ (by decide)
    rw [e, e2, w64_id (by omega)]
    exact ⟨rfl, rfl⟩
  · have e : Int.tdiv 64 4 = 16 := rfl
    have e2 : ((p + q) * 64).tdiv 4 = (p + q) * 16 := by
      rw [show (p + q) * 64 = (p + q) * 16 * 4 by omega]; exact Int.mul_tdiv_cancel _ (by decide)
    rw [e, e2, w64_id (by omega)]
    exact ⟨rfl, rfl⟩
  · have e : Int.tdiv 64 8 = 8 := rfl
    have e2 : ((p + q) * 64).tdiv 8 = (p + q) * 8 := by
      rw [show (p + q) * 64 = (p + q) * 8 * 8 by omega]; exact Int.mul_tdiv_cancel _ (by decide)
    rw [e, e2, w64_id (by omega)]
    exact ⟨rfl, rfl⟩
theorem plus_zero : plusF 0 = 0 := by kernel_rfl
theorem plusph_all : ((List.range 64).all fun j => Nat.beq (plusF (phXs.getD j 0)) (phXs.getD j 0) && Nat.beq (plusF (phYs.getD j 0)) (phYs.getD j 0)) = true := by kernel_rfl
theorem plus_phx (k : Int) : plusF (phX k) = phX k ∧ plusF (phY k) = phY k := by
  have hj : (k % 64).toNat < 64 := by omega
  have h := List.all_eq_true.1 plusph_all (k % 64).toNat (by simpa using hj)
  rw [Bool.and_eq_true] at h
  have e1 := Nat.eq_of_beq_eq_true h.1
  have e2 := Nat.eq_of_beq_eq_true h.2
  have hk : k % 64 = ((k % 64).toNat : Int) := by omega
  constructor
  · unfold phX
    generalize (k % 64).toNat = j at hk hj e1
    rw [hk, chain_get _ _ 63 (by omega), e1]
  · unfold phY
    generalize (k % 64).toNat = j at hk hj e2
    rw [hk, chain_get _ _ 63 (by omega), e2]
theorem ble_blt (N j : Nat) : Nat.ble N j = !(Nat.blt j N) := by
  rw [Bool.eq_iff_iff, Nat.ble_eq]
  cases h : Nat.blt j N with
  | true => have := blt_true h; simp; omega
  | false => have := blt_false h; simp; omega
theorem plane_same {N : Nat} {n : Int} (hn : (N, n) ∈ doNs) {u v : Int} {k : Nat → Int} {fx fy : Int → Nat} (hk : inU u = true → inU v = true → ∀ j, j < 64 → plusF (fx (k j)) = phX (planeK n u v j) ∧ plusF (fy (k j)) = phY (planeK n u v j)) {σ : List (Nat × Nat)} {x : Value}
    (r : Rel σ (planeV N n u v k fx fy) x) : Rel σ (planeR n u v) x := by
  have hs : sideB n = true ∧ N = n.toNat * n.toNat := by
    simp only [doNs, List.mem_cons, Prod.mk.injEq, List.not_mem_nil, or_false] at hn
    rcases hn with ⟨rfl, rfl⟩ | ⟨rfl, rfl⟩ | ⟨rfl, rfl⟩ | ⟨rfl, rfl⟩ <;> exact ⟨rfl, rfl⟩
  obtain ⟨hs, rfl⟩ := hs
  refine tup2_weak ?_ ?_ r
  · have e1 : cond (!inU u) 0 (cond (!inU v) 0 n) = cond (planeOK n u v) n 0 := by
      unfold planeOK; rw [hs]; cases inU u <;> cases inU v <;> rfl
    simp only [waveL, List.map_cons, List.map_map, AV.bare, e1, List.cons.injEq, true_and]
    apply List.map_congr_left
    intro j hj
    simp only [List.mem_range] at hj
    simp only [Function.comp, cx, planeX]
    rw [ble_blt]
    cases hb : Nat.blt j (n.toNat * n.toNat) with
    | false => simp [AV.bare]
    | true =>
      unfold planeOK
      rw [hs]
      cases hu : inU u with
      | false => simp [AV.bare, plus_zero]
      | true => cases hv : inU v with
        | false => simp [AV.bare, plus_zero]
        | true => simp [AV.bare, hk hu hv j hj]
  · unfold planeOK; rw [hs]
    cases inU u <;> cases inU v <;> rfl
noncomputable def tabN1 : Table := tabOf (cdeep Try.prog rowsN [] 60 8)
theorem tabN1_sound : SoundT Try.prog tabN1 := cdeep_sound rowsN_at 8
def zeroV (c : Int) : AV := .tup [.agg (.i true .i64 0 :: List.replicate 64 (.c true .f32 0 0)), .i true .i64 c]
theorem plane_no (f : FuncId) (hf : f = 13 ∨ f = 14) (n u v : Int) : joinR 0 (tabN f [.i false .i64 n, .i false .i64 u, .i false .i64 v] [] [] fun v H nd => .ret v H nd) = some (zeroV 2, [!sideB n]) := by
  rcases hf with rfl | rfl <;> kernel_rfl
theorem plane_ok (f : FuncId) (hf : f = 13 ∨ f = 14) (n u v : Int) (H : List AB) : CallOK Try.prog f [.i false .i64 n, .i false .i64 u, .i false .i64 v] H (planeR n u v) H := by
  by_cases hs : sideB n = true
  · obtain ⟨N, hN⟩ : ∃ N, (N, n) ∈ doNs := by
      rcases sideB_iff.1 hs with rfl | rfl | rfl | rfl
      · exact ⟨1, by simp [doNs]⟩
      · exact ⟨4, by simp [doNs]⟩
      · exact ⟨16, by simp [doNs]⟩
      · exact ⟨64, by simp [doNs]⟩
    rcases hf with rfl | rfl
    · refine ((call_of_join tabQ1_sound (plane13 N n hN u v) rfl rfl H).bare (args' := [.i false .i64 n, .i false .i64 u, .i false .i64 v]) rfl).weaken fun σ x r => plane_same hN (fun hu hv j hj => ?_) r
      rw [(k_eq (sideB_iff.1 hs) (inU_iff.1 hu) (inU_iff.1 hv) hj).1]
      exact plus_phx _
    · refine ((call_of_join tabQ1_sound (plane14 N n hN u v) rfl rfl H).bare (args' := [.i false .i64 n, .i false .i64 u, .i false .i64 v]) rfl).weaken fun σ x r => plane_same hN (fun hu hv j hj => ?_) r
      rw [(k_eq (sideB_iff.1 hs) (inU_iff.1 hu) (inU_iff.1 hv) hj).2]
      exact plus_ph _
  · have hs : sideB n = false := by simpa using hs
    refine (call_of_join tabN_sound (plane_no f hf n u v) (by simp [allT, hs]) rfl H).weaken fun σ x r => tup2_weak ?_ ?_ r
    · have e : planeOK n u v = false := by simp [planeOK, hs]
      have e2 : ∀ j, planeX n u v j = (0, 0) := fun j => by simp [planeX, e]
      have : (List.range 64).map (cx (planeX n u v)) = List.replicate 64 (.c false .f32 0 0) := by
        have : cx (planeX n u v) = fun _ => .c false .f32 0 0 := funext fun j => by simp [cx, e2]
        rw [this]; rfl
      simp only [waveL, this, e]
      rfl
    · have e : planeOK n u v = false := by simp [planeOK, hs]
      rw [e]; rfl
end Go.Ax

/- FlatWave and CellOf, of both sides. -/
namespace Go.Ax
open Go Go.Proofs

/-! ### FlatWave -/
noncomputable def flatV (N : Nat) (n : Int) (z : Nat × Nat) : AV :=
  .tup [.agg (.i false .i64 (cond (!wholeB z) 0 n) :: (List.range 64).map fun j => match Nat.ble N j with
    | true => .c true .f32 0 0
    | false => .c false .f32 (plusF (cond (!wholeB z) 0 z.1)) (plusF (cond (!wholeB z) 0 z.2))), .i false .i64 (cond (!wholeB z) 1 0)]
theorem flat_run (f : FuncId) (hf : f = 20 ∨ f = 21) (N : Nat) (n : Int) (hn : (N, n) ∈ doNs) (z : Nat × Nat) : joinR 0 (tabW f [.i true .i64 n, .c false .f32 z.1 z.2] [] [] fun v H nd => .ret v H nd) = some (flatV N n z, []) := by
  simp only [doNs, List.mem_cons, Prod.mk.injEq, List.not_mem_nil, or_false] at hn
  rcases hf with rfl | rfl <;> rcases hn with ⟨rfl, rfl⟩ | ⟨rfl, rfl⟩ | ⟨rfl, rfl⟩ | ⟨rfl, rfl⟩ <;> kernel_rfl
noncomputable def flatOK (n : Int) (z : Nat × Nat) : Bool := sideB n && wholeB z
noncomputable def flatX (n : Int) (z : Nat × Nat) (j : Nat) : Nat × Nat := match flatOK n z && Nat.blt j (n.toNat * n.toNat) with
  | true => (plusF z.1, plusF z.2)
  | false => (0, 0)
noncomputable def flatC (n : Int) (z : Nat × Nat) : Int := cond (wholeB z) (cond (sideB n) 0 2) 1
noncomputable def flatWR (n : Int) (z : Nat × Nat) : AV := .tup [wv (cond (flatOK n z) n 0) (flatX n z), .i false .i64 (flatC n z)]
def zeroV2 (c : Int) : AV := .tup [.agg (.i true .i64 0 :: List.replicate 64 (.c true .f32 0 0)), .i false .i64 c]
theorem flat_no (f : FuncId) (hf : f = 20 ∨ f = 21) (n : Int) (z : Nat × Nat) : joinR 0 (tabN f [.i false .i64 n, .c false .f32 z.1 z.2] [] [] fun v H nd => .ret v H nd) = some (zeroV2 (cond (!wholeB z) 1 2), [cond (!!wholeB z) (!sideB n) true]) := by
  rcases hf with rfl | rfl <;> kernel_rfl
theorem flat_ok (f : FuncId) (hf : f = 20 ∨ f = 21) (n : Int) (z : Nat × Nat) (H : List AB) : CallOK Try.prog f [.i false .i64 n, .c false .f32 z.1 z.2] H (flatWR n z) H := by
  by_cases hs : sideB n = true
  · obtain ⟨N, hN, hNn⟩ : ∃ N, (N, n) ∈ doNs ∧ N = n.toNat * n.toNat := by
      rcases sideB_iff.1 hs with rfl | rfl | rfl | rfl
      · exact ⟨1, by simp [doNs], rfl⟩
      · exact ⟨4, by simp [doNs], rfl⟩
      · exact ⟨16, by simp [doNs], rfl⟩
      · exact ⟨64, by simp [doNs], rfl⟩
    subst hNn
    refine ((call_of_join tabW_sound (flat_run f hf _ n hN z) rfl rfl H).bare (args' := [.i false .i64 n, .c false .f32 z.1 z.2]) rfl).weaken fun σ x r => tup2_weak ?_ ?_ r
    · have e1 : cond (!wholeB z) 0 n = cond (flatOK n z) n 0 := by
        unfold flatOK; rw [hs]; cases wholeB z <;> rfl
      simp only [waveL, List.map_cons, List.map_map, AV.bare, e1, List.cons.injEq, true_and]
      apply List.map_congr_left
      intro j hj
      simp only [Function.comp, cx, flatX]
      rw [ble_blt]
      cases hb : Nat.blt j (n.toNat * n.toNat) with
      | false => simp [AV.bare]
      | true =>
        unfold flatOK
        rw [hs]
        cases wholeB z <;> simp [AV.bare, plus_zero]
    · unfold flatC
      rw [hs]
      cases wholeB z <;> rfl
  · have hs : sideB n = false := by simpa using hs
    refine (call_of_join tabN_sound (flat_no f hf n z) (by rw [hs]; cases wholeB z <;> rfl) rfl H).weaken fun σ x r => tup2_weak ?_ ?_ r
    · have e : flatOK n z = false := by simp [flatOK, hs]
      have e2 : ∀ j, flatX n z j = (0, 0) := fun j => by simp [flatX, e]
      have : (List.range 64).map (cx (flatX n z)) = List.replicate 64 (.c false .f32 0 0) := by
        have : cx (flatX n z) = fun _ => .c false .f32 0 0 := funext fun j => by simp [cx, e2]
        rw [this]; rfl
      simp only [waveL, this, e]
      rfl
    · unfold flatC
      rw [hs]
      cases wholeB z <;> rfl

/-! ### CellOf -/
def gIn : List AV → Option (AV × List Bool)
  | [.i l .i64 a, .i m .i64 lo, .i k .i64 hi] => match l && m && k with
    | true => some (.b true (decide (lo ≤ a) && decide (a ≤ hi)), [])
    | false => some (.b true false, [!(decide (lo ≤ a) && decide (a ≤ hi))])
  | _ => none
theorem in_run (f : FuncId) (hf : f = 180 ∨ f = 151) (a lo hi : Int) : joinR 0 (tabW f [.i false .i64 a, .i false .i64 lo, .i false .i64 hi] [] [] fun v H nd => .ret v H nd) = some (.b false (cond (decide (lo ≤ a)) (decide (a ≤ hi)) false), []) := by
  rcases hf with rfl | rfl <;> kernel_rfl
theorem in_at (f : FuncId) (hf : f = 180 ∨ f = 151) : SoundAt Try.prog f (pureT gIn) := fun args H nd K => by
  refine pureT_sound (fun args v n h hn H => ?_) args H nd K
  unfold gIn at h
  split at h <;> (try (cases h; done))
  rename_i l a m lo k hi
  have base := (call_of_join tabW_sound (in_run f hf a lo hi) rfl rfl H).bare (args' := [.i l .i64 a, .i m .i64 lo, .i k .i64 hi]) rfl
  have e : cond (decide (lo ≤ a)) (decide (a ≤ hi)) false = (decide (lo ≤ a) && decide (a ≤ hi)) := by cases decide (lo ≤ a) <;> rfl
  rw [e] at base
  split at h <;> cases h
  · exact base.weaken fun σ x r => by cases r; exact .b _
  · have hn : (decide (lo ≤ a) && decide (a ≤ hi)) = false := by
      simp only [allT, Bool.and_true, Bool.not_eq_true'] at hn
      exact hn
    rw [hn] at base
    exact base.weaken fun σ x r => by cases r; exact .b _
noncomputable def rowsO : List (FuncId × Table) := (180, pureT gIn) :: (151, pureT gIn) :: rowsW
theorem rowsO_at : ∀ p ∈ rowsO, SoundAt Try.prog p.1 p.2 := fun p hp => by
  simp only [rowsO, List.mem_cons] at hp
  rcases hp with rfl | rfl | hp
  · exact in_at 180 (.inl rfl)
  · exact in_at 151 (.inr rfl)
  · exact rowsW_at p hp
noncomputable def tabO : Table := tabOf (cdeep Try.prog rowsO [] 3000 8)
theorem tabO_sound : SoundT Try.prog tabO := cdeep_sound rowsO_at 8
def inB (a hi : Int) : Bool := decide (0 ≤ a) && decide (a ≤ hi)
theorem cell_out1 (f : FuncId) (hf : f = 17 ∨ f = 23) (N : Nat) (n : Int) (hn : (N, n) ∈ doNs) (X : Nat → Nat × Nat) (y x : Int) : joinR 0 (tabO f [wvT true n X, .i false .i64 y, .i false .i64 x] [] [] fun v H nd => .ret v H nd) =
    some (.tup [.c true .f32 0 0, .i false .i64 (cond (!isWaveB n X) 1 2)], [cond (!!isWaveB n X) (!inB y (n - 1)) true]) := by
  simp only [doNs, List.mem_cons, Prod.mk.injEq, List.not_mem_nil, or_false] at hn
  rcases hf with rfl | rfl <;> rcases hn with ⟨rfl, rfl⟩ | ⟨rfl, rfl⟩ | ⟨rfl, rfl⟩ | ⟨rfl, rfl⟩ <;> kernel_rfl
def ysOf (n : Int) : List Int := (List.range n.toNat).map Int.ofNat
theorem cell_out2 (f : FuncId) (hf : f = 17 ∨ f = 23) (N : Nat) (n : Int) (hn : (N, n) ∈ doNs) (X : Nat → Nat × Nat) (x : Int) : ((ysOf n).map fun y => joinR 0 (tabO f [wvT true n X, .i true .i64 y, .i false .i64 x] [] [] fun v H nd => .ret v H nd)) =
    (ysOf n).map fun _ => some (.tup [.c true .f32 0 0, .i false .i64 (cond (!isWaveB n X) 1 2)], [cond (!!isWaveB n X) (!inB x (n - 1)) true]) := by
  simp only [doNs, List.mem_cons, Prod.mk.injEq, List.not_mem_nil, or_false] at hn
  rcases hf with rfl | rfl <;> rcases hn with ⟨rfl, rfl⟩ | ⟨rfl, rfl⟩ | ⟨rfl, rfl⟩ | ⟨rfl, rfl⟩ <;> kernel_rfl
theorem cell_in (f : FuncId) (hf : f = 17 ∨ f = 23) (N : Nat) (n : Int) (hn : (N, n) ∈ doNs) (X : Nat → Nat × Nat) : ((List.range N).map fun k => joinR 0 (tabO f [wvT true n X, .i true .i64 ((Int.ofNat k).tdiv n), .i true .i64 ((Int.ofNat k).tmod n)] [] [] fun v H nd => .ret v H nd)) =
    (List.range N).map fun k => some (.tup [.c false .f32 (plusF (cond (!isWaveB n X) 0 (X k).1)) (plusF (cond (!isWaveB n X) 0 (X k).2)), .i false .i64 (cond (!isWaveB n X) 1 0)], []) := by
  simp only [doNs, List.mem_cons, Prod.mk.injEq, List.not_mem_nil, or_false] at hn
  rcases hf with rfl | rfl <;> rcases hn with ⟨rfl, rfl⟩ | ⟨rfl, rfl⟩ | ⟨rfl, rfl⟩ | ⟨rfl, rfl⟩ <;> kernel_rfl
end Go.Ax
