/- spec.l01DrawPicture: some picture of a side. -/
import Derived.Test.YtdcjjibekhcplaaGreatBao
namespace Go.Ax
open Go Go.Proofs

/-- A picture in memory. -/
def picB (n : Int) (X : Nat → Nat) : AB := .cells true (.lit (picL n X))
def getP : AB → Option (AV × List Nat)
  | .cells true (.lit (s :: l)) => match asF32 l with
    | some xs => match Nat.beq xs.length 64 with
      | true => some (s.bare, xs)
      | false => none
    | none => none
  | _ => none
theorem getP_spec {B : AB} {n : Int} {xs : List Nat} (h : getP B = some (.i false .i64 n, xs)) : ∃ l, B = .cells true (.lit l) ∧ l.map AV.bare = (picL n fun j => xs.getD j 0).map AV.bare := by
  unfold getP at h
  split at h <;> (try (cases h; done))
  rename_i s l
  split at h <;> (try (cases h; done))
  rename_i xs' hx
  split at h <;> (try (cases h; done))
  rename_i hlen
  simp only [Option.some.injEq, Prod.mk.injEq] at h
  obtain ⟨hs, rfl⟩ := h
  refine ⟨_, rfl, ?_⟩
  have hlen := Nat.eq_of_beq_eq_true hlen
  have e1 := asF32_bareP hx
  rw [map_range_getD (fun z => AV.f false .f32 z) 0 xs' 64 hlen] at e1
  simp only [picL, List.map_cons, e1, hs]
  rw [List.map_map]
  rfl
def getSP (H : List AB) : Option (Nat × Int × List Nat) :=
  match readSrc (getB H 1), getP (getB H 3) with
  | some (_, _, a, h), some (_, xs) => some (a, h, xs)
  | _, _ => none
def fixSP (H : List AB) : Nat × AB × Option (Nat × Nat) × AB × Option AV :=
  (H.length, getB H 0, (readSrc (getB H 1)).map (fun z => (z.1, z.2.1)), getB H 2, (getP (getB H 3)).map (·.1))
def zeroP : AB := .cells true (.lit (.i true .i64 0 :: List.replicate 64 (.f true .f32 0)))
def memSP (c : Cd) (a : Nat) (h : Int) (n : Int) (X : Nat → Nat) : List AB := [codeB c false, srcB c a h, zeroP, picB n X]
theorem getSP_spec {H : List AB} {c : Cd} {a : Nat} {h n : Int} {xs : List Nat} (hg : getSP H = some (a, h, xs)) (hf : fixSP H = (4, codeB c false, some (c.off, c.len), zeroP, some (.i false .i64 n))) : HEq H (memSP c a h n fun j => xs.getD j 0) := by
  unfold fixSP at hf
  simp only [Prod.mk.injEq] at hf
  obtain ⟨h1, h2, h3, h4, h5⟩ := hf
  match H, h1 with
  | [A, B, C, D], _ =>
    have e2 : A = codeB c false := h2
    have e4 : C = zeroP := h4
    subst e2; subst e4
    unfold getSP at hg
    have k1 : getB [codeB c false, B, zeroP, D] 1 = B := rfl
    have k3 : getB [codeB c false, B, zeroP, D] 3 = D := rfl
    rw [k1, k3] at hg
    rw [k1] at h3
    rw [k3] at h5
    cases hB : readSrc B with
    | none => rw [hB] at hg; cases hg
    | some s =>
      obtain ⟨o, m, a', h'⟩ := s
      cases hD : getP D with
      | none => rw [hB, hD] at hg; cases hg
      | some w =>
        obtain ⟨s0, xs'⟩ := w
        rw [hB] at h3
        rw [hD] at h5
        rw [hB, hD] at hg
        simp only [Option.map_some, Option.some.injEq, Prod.mk.injEq] at h3 h5 hg
        obtain ⟨rfl, rfl⟩ := h3
        obtain ⟨rfl, rfl, rfl⟩ := hg
        obtain ⟨l1, l2, l3, rfl⟩ := readSrc_spec hB
        rw [h5] at hD
        obtain ⟨l, rfl, hl⟩ := getP_spec hD
        exact HEq.cons ⟨rfl, rfl, fun _ _ _ h => h⟩ (HEq.cons src_same (HEq.cons ⟨rfl, rfl, fun _ _ _ h => h⟩ (HEq.cons (blk_bare hl) (HEq.refl []))))

noncomputable def dpC : Code := Tryz.f164.body.getD .skip
noncomputable def dpT0 (n : Int) : List AV := .p true 1 0 :: .i true .i64 n :: undefs 45
noncomputable def dp0 (c : Cd) (a : Nat) (h n : Int) : Res := cupto Tryz.prog (tab8 3) atLoop 200 [.code dpC] (dpT0 n) [codeB c false, srcB c a h]
noncomputable def dpL : List Item := (dp0 ⟨[], 0, 0⟩ 0 0 1).todo
def dpT (n kd k : Int) : List AV := [.p true 1 0, .i true .i64 n, .any, .any, .p true 2 0, .p true 3 0, .i false .i64 kd, .i true .i64 k] ++ List.replicate 39 .any
def dpM : List Bool := [false, false, true, true, false, false, false, false] ++ List.replicate 39 true
noncomputable def dpRd (L : List Item) (c : Cd) (a : Nat) (h n kd k : Int) (X : Nat → Nat) : Res := cupto Tryz.prog (tab8 3) atLoop 200 L (dpT n kd k) (memSP c a h n X)
noncomputable def dpR : List Item := hdR (dpRd dpL ⟨[], 0, 0⟩ 0 0 1 0 0 fun _ => 0).stops
def fvSP (c : Cd) (n : Int) : Nat × AB × Option (Nat × Nat) × AB × Option AV := (4, codeB c false, some (c.off, c.len), zeroP, some (.i false .i64 n))
theorem dpR_eq : toLp dpL = dpR := by kernel_rfl
/-- Steps from places to places, with any list of what is to be shown. -/
structure Steps2 {α β : Type} (r : Res) (L : List Item) (M : List Bool) (t : List AV) (get : List AB → Option α) (fix : List AB → β) (fv : β) (m : Nat) (N : List Bool) : Prop where
  all : r.sound1 get = true
  eqs : r.stops.map (leafOf M fix) = List.replicate m (L, t, fv)
  nds : r.nds = N
def packed2 {β : Type} (L : List Item) (t : List AV) (fv : β) (m : Nat) (N : List Bool) : Bool × List (List Item × List AV × β) × List Bool := (true, List.replicate m (L, t, fv), N)
theorem Steps2.of {α β : Type} {r : Res} {L : List Item} {M : List Bool} {t : List AV} {get : List AB → Option α} {fix : List AB → β} {fv : β} {m : Nat} {N : List Bool} (h : r.pack M get fix = packed2 L t fv m N) : Steps2 r L M t get fix fv m N := by
  simp only [Res.pack, packed2, Prod.mk.injEq] at h
  exact ⟨h.1, h.2.1, h.2.2⟩
theorem allT_mem : ∀ {l : List Bool}, allT l = true → ∀ b ∈ l, b = true
  | [], _, b, hb => by cases hb
  | a :: l, h, b, hb => by
    simp only [allT, Bool.and_eq_true] at h
    rcases List.mem_cons.1 hb with rfl | hb
    · exact h.1
    · exact allT_mem h.2 b hb
theorem Steps2.reach_sel {α β : Type} {P : Program} {T : Table} {stop : List Item → Bool} {n : Nat} {todo : List Item} {t0 : List AV} {H0 : List AB} {L : List Item} {M : List Bool} {t t' : List AV} {get : List AB → Option α} {fix : List AB → β} {fv : β} {m : Nat} {N : List Bool} {r : Res} (hT : SoundT P T)
    (h : Steps2 r L M t get fix fv m N) (hs : (cupto P T stop n todo t0 H0).sel = r.sel) (hN : allT N = true) (ht : t = t'.map AV.bare) : ∃ H x, get H = some x ∧ fix H = fv ∧ Reach P todo t0 H0 L t' H := by
  have hall := h.all
  unfold Res.sound1 at hall
  rw [Bool.and_eq_true] at hall
  obtain ⟨z, h1, h2⟩ := Res.stops_sel hall.1
  rw [← hs] at h2
  have hmem : leafOf M fix z ∈ List.replicate m (L, t, fv) := by
    rw [← h.eqs]
    exact List.mem_map.2 ⟨z, h1, rfl⟩
  have e := List.eq_of_mem_replicate hmem
  simp only [leafOf, Prod.mk.injEq] at e
  obtain ⟨e1, e2, e5⟩ := e
  have e4 : allT z.nd = true := allT_of fun b hb => by
    have := Res.nds_mem h1 b hb
    rw [h.nds] at this
    exact allT_mem hN b this
  have e3 := List.all_eq_true.1 hall.2 z h1
  cases hg : get z.H with
  | none => rw [hg] at e3; cases e3
  | some x =>
    refine ⟨z.H, x, hg, e5, ?_⟩
    rw [e1] at h2
    refine ((cupto_reach hT h2 e4).weak (blur_eqv M z.t)).weak (eqv_of_bare ?_)
    rw [← ht, ← e2]; rfl
noncomputable def dpF (c : Cd) (a : Nat) (h : Int) : Bool := fcvtOK .f64 .f32 (fdiv .f64 (FloatKind.f64.nearest (nxV c a h 9)) 4616189618054758400)
def dpP : List Bool := [false, false, false, true, false, false, false, false, true, false, false, false, true, false, false, false, true, false, false, true, false, false, true, false, false, false, true, false, false, false, true, false, false, true, false, false, true, false, true, false, true, false]
noncomputable def dpN (c : Cd) (a : Nat) (h : Int) : List Bool := dpP.map fun p => cond p (dpF c a h) (okB c c.off c.len)
theorem dp_rd (N : Nat) (n : Int) (hn : (N, n) ∈ doNs) (c : Cd) (a : Nat) (h kd : Int) (X : Nat → Nat) : ((List.range N).map fun k => (dpRd dpR c a h n kd (Int.ofNat k) X).pack dpM getSP fixSP) =
    (List.range N).map fun k => packed2 dpR ((dpT n kd (Int.ofNat (k + 1))).map AV.bare) (fvSP c n) 12 (dpN c a h) := by
  simp only [doNs, List.mem_cons, Prod.mk.injEq, List.not_mem_nil, or_false] at hn
  rcases hn with ⟨rfl, rfl⟩ | ⟨rfl, rfl⟩ | ⟨rfl, rfl⟩ | ⟨rfl, rfl⟩ <;> kernel_rfl
theorem dp_end (N : Nat) (n : Int) (hn : (N, n) ∈ doNs) (c : Cd) (a : Nat) (h kd : Int) (X : Nat → Nat) : endOf Tryz.prog Tryz.f164.results.toList (dpRd dpR c a h n kd (Int.ofNat N) X) = some (some ([pv n X], []), [codeB c false, srcB c a h, picB n X, picB n X], []) := by
  simp only [doNs, List.mem_cons, Prod.mk.injEq, List.not_mem_nil, or_false] at hn
  rcases hn with ⟨rfl, rfl⟩ | ⟨rfl, rfl⟩ | ⟨rfl, rfl⟩ | ⟨rfl, rfl⟩ <;> kernel_rfl
theorem dp_start (N : Nat) (n : Int) (hn : (N, n) ∈ doNs) (c : Cd) (a : Nat) (h : Int) : (dp0 c a h n).pack dpM getSP fixSP = packed2 dpL ((dpT n (nxV c a h 4) 0).map AV.bare) (fvSP c n) 1 [okB c c.off c.len] := by
  simp only [doNs, List.mem_cons, Prod.mk.injEq, List.not_mem_nil, or_false] at hn
  rcases hn with ⟨rfl, rfl⟩ | ⟨rfl, rfl⟩ | ⟨rfl, rfl⟩ | ⟨rfl, rfl⟩ <;> kernel_rfl
theorem nine_cvt : (List.range 9).all (fun v => fcvtOK .f64 .f32 (fdiv .f64 (FloatKind.f64.nearest (Int.ofNat v)) 4616189618054758400)) = true := by decide +kernel
theorem dpF_ok {c : Cd} (hc : goodB c = true) (a : Nat) (h : Int) : dpF c a h = true := by
  have hb := nxV_bound hc a h 9
  have hb2 := hb.2 (by decide)
  have := List.all_eq_true.1 nine_cvt (nxV c a h 9).toNat (by simp; omega)
  have e : Int.ofNat (nxV c a h 9).toNat = nxV c a h 9 := by simp; omega
  rw [e] at this
  exact this
theorem dpN_ok {c : Cd} (hc : goodB c = true) (a : Nat) (h : Int) : allT (dpN c a h) = true := by
  have hk : okB c c.off c.len = true := by simp [okB, hc]
  unfold dpN
  rw [dpF_ok hc, hk]
  rfl
theorem pv_low (n : Int) (X : Nat → Nat) : below 0 (pv n X) = true := by
  have : ∀ l : List Nat, belowL 0 (l.map (fx X)) = true := fun l => by
    induction l with
    | nil => rfl
    | cons j l ih => simp [belowL, fx, below, ih]
  simp [pv, picL, below, belowL, this]
theorem dp_rounds {N : Nat} {n : Int} (hn : (N, n) ∈ doNs) {c : Cd} (hc : goodB c = true) {todoS : List Item} {tS : List AV} {HS : List AB} (kd : Int) : ∀ (m k : Nat) (a : Nat) (h : Int) (X : Nat → Nat), k + m = N →
    Reach Tryz.prog todoS tS HS dpR (dpT n kd (Int.ofNat k)) (memSP c a h n X) → ∃ a' h' X', Reach Tryz.prog todoS tS HS dpR (dpT n kd (Int.ofNat N)) (memSP c a' h' n X')
  | 0, k, a, h, X, hk, hr => by
    have : k = N := by omega
    subst this
    exact ⟨a, h, X, hr⟩
  | m + 1, k, a, h, X, hk, hr => by
    have h1 := map_mem (dp_rd N n hn c a h kd X) (x := k) (by simp; omega)
    obtain ⟨H1, x, e1, e2, e3⟩ := (Steps2.of h1).reach_sel (tab8_sound 3) rfl (dpN_ok hc a h) rfl
    obtain ⟨a', h', xs⟩ := x
    have e4 := (hr.trans e3).post (getSP_spec e1 e2)
    exact dp_rounds hn hc kd m (k + 1) a' h' _ (by omega) e4
theorem drawPic_ex {c : Cd} (hc : goodB c = true) (a : Nat) (h n : Int) (hn : n = 1 ∨ n = 2 ∨ n = 4 ∨ n = 8) : ∃ X a' h', SrcOK Tryz.prog 164 [.i false .i64 n] c a h (pv n X) a' h' := by
  have hok : okB c c.off c.len = true := by simp [okB, hc]
  obtain ⟨N, hN⟩ : ∃ N, (N, n) ∈ doNs := by
    rcases hn with rfl | rfl | rfl | rfl
    · exact ⟨1, by simp [doNs]⟩
    · exact ⟨4, by simp [doNs]⟩
    · exact ⟨16, by simp [doNs]⟩
    · exact ⟨64, by simp [doNs]⟩
  have hb : Tryz.f164.body = some dpC := rfl
  obtain ⟨H1, x, e1, e2, e3⟩ := (Steps2.of (dp_start N n hN c a h)).reach_sel (t' := dpT n (nxV c a h 4) 0) (tab8_sound 3) rfl (by simp [allT, hok]) rfl
  obtain ⟨a1, h1, xs⟩ := x
  have e4 := e3.post (getSP_spec e1 e2)
  have e5 : ∃ a' h' X', Reach Tryz.prog [.code dpC] (dpT0 n) [codeB c false, srcB c a h] dpR (dpT n (nxV c a h 4) (Int.ofNat N)) (memSP c a' h' n X') := by
    have hN0 : 0 < N := by simp only [doNs, List.mem_cons, Prod.mk.injEq, List.not_mem_nil, or_false] at hN; omega
    have k1 := map_mem (dp_rd N n hN c a1 h1 (nxV c a h 4) fun j => xs.getD j 0) (x := 0) (by simp; omega)
    have k2 : (cupto Tryz.prog (tab8 3) atLoop 200 dpL (dpT n (nxV c a h 4) (Int.ofNat 0)) (memSP c a1 h1 n fun j => xs.getD j 0)).sel = (dpRd dpR c a1 h1 n (nxV c a h 4) (Int.ofNat 0) fun j => xs.getD j 0).sel := by
      unfold dpRd
      rw [← dpR_eq, cupto_toLp]
    obtain ⟨H2, x2, f1, f2, f3⟩ := (Steps2.of k1).reach_sel (tab8_sound 3) k2 (dpN_ok hc a1 h1) rfl
    obtain ⟨a2, h2, xs2⟩ := x2
    exact dp_rounds hN hc _ (N - 1) 1 a2 h2 _ (by omega) ((e4.trans f3).post (getSP_spec f1 f2))
  obtain ⟨a', h', X', e6⟩ := e5
  obtain ⟨t, g1, g2⟩ := endOf_ends (tab8_sound 3) (dp_end N n hN c a' h' (nxV c a h 4) X') rfl rfl
  have h1 : CallOK Tryz.prog 164 [.p true 1 0, .i true .i64 n] [codeB c false, srcB c a h] (pv n X') [codeB c false, srcB c a' h', picB n X', picB n X'] := call_of_ends (args := [.p true 1 0, .i true .i64 n]) Tryz.func164 hb (e6.ends g1) g2 rfl
  exact ⟨X', a', h', _, h1.bare (args' := [.p true 1 0, .i false .i64 n]) rfl, rfl, pv_low n X', rfl⟩
def formP : Form (Int × (Nat → Nat)) where
  get := fun
    | .agg l => ofP l
    | _ => none
  val := fun x => pv x.1 x.2
  rel := fun {v x} h σ y r => by
    split at h <;> (try (cases h; done))
    obtain ⟨n, X⟩ := x
    have := r.deep
    rw [ofP_spec h] at this
    exact this.undeep
  low := fun x => pv_low x.1 x.2
/-- Like 'exT' at a side, with the side to be seen. -/
noncomputable def dpX (n : Int) (c : Cd) (a : Nat) (h : Int) : (Nat → Nat) × Nat × Int := open Classical in if hx : ∃ r : (Nat → Nat) × Nat × Int, SrcOK Tryz.prog 164 [.i false .i64 n] c a h (pv n r.1) r.2.1 r.2.2 then hx.choose else (fun _ => 0, a, h)
theorem dpX_ok {n : Int} (hn : sideB n = true) {c : Cd} (hc : goodB c = true) (a : Nat) (h : Int) : SrcOK Tryz.prog 164 [.i false .i64 n] c a h (pv n (dpX n c a h).1) (dpX n c a h).2.1 (dpX n c a h).2.2 := by
  have hx : ∃ r : (Nat → Nat) × Nat × Int, SrcOK Tryz.prog 164 [.i false .i64 n] c a h (pv n r.1) r.2.1 r.2.2 := by
    obtain ⟨X, a', h', e⟩ := drawPic_ex hc a h n (sideB_iff.1 hn)
    exact ⟨(X, a', h'), e⟩
  unfold dpX
  rw [dif_pos hx]
  exact hx.choose_spec
noncomputable def dpTb : Table := srcT fun c a h sc => match sc with
  | [.i l .i64 n] => match chk l (sideB n) with
    | some q => some (pvT l n (dpX n c a h).1, (dpX n c a h).2.1, (dpX n c a h).2.2, q)
    | none => none
  | _ => none
theorem dpTb_at : SoundAt Tryz.prog 164 dpTb := fun args H nd K => by
  refine srcT_sound (fun c a h sc v a' h' q hc hg hq => ?_) args H nd K
  split at hg <;> (try (cases hg; done))
  rename_i l n
  split at hg <;> (try (cases hg; done))
  rename_i q' hch
  simp only [Option.some.injEq, Prod.mk.injEq] at hg
  obtain ⟨rfl, rfl, rfl, rfl⟩ := hg
  obtain ⟨H2, k, g1, _, _⟩ := dpX_ok (chk_spec hch hq) hc a h
  refine ⟨H2, (k.bare (args' := [.p true 1 0, .i l .i64 n]) rfl).weaken fun σ x r => ?_, g1, ?_, rfl⟩
  · have := r.deep
    exact (show Rel σ (pvT l n (dpX n c a h).1).deep x from this).undeep
  · have := pv_low n (dpX n c a h).1
    simpa [pv, picL, pvT, below, belowL] using this
end Go.Ax
