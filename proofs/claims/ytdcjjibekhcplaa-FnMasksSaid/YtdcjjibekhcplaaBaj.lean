/- spec.DrawBehindMask: some two waves. -/
import Derived.Test.YtdcjjibekhcplaaBai
import Derived.Test.YtdcjjibekhcplaaRows
import Derived.ProofKit
import Derived.HandedShaped
import Derived.WideKeyArr
namespace Go.Ax
open Go Go.Proofs

/-- All ways with what holds of the first test. -/
def Res.first : Res → List (Bool × Leaf)
  | .stop todo t H nd => [(true, ⟨todo, t, H, nd⟩)]
  | .ite b x y => (x.stops.map fun p => (b, p)) ++ y.stops.map fun p => (!b, p)
  | .ret _ _ _ => []
  | .fail => []
theorem Res.first_sel : ∀ {r : Res}, r.allStop = true → ∃ p ∈ r.first, p.1 = true ∧ r.sel = .stop p.2.todo p.2.t p.2.H p.2.nd
  | .stop todo t H nd, _ => ⟨(true, ⟨todo, t, H, nd⟩), by simp [Res.first], rfl, rfl⟩
  | .ite b x y, h => by
    simp only [Res.allStop, Bool.and_eq_true] at h
    cases b with
    | true =>
      obtain ⟨z, h1, h3⟩ := Res.stops_sel h.1
      exact ⟨(true, z), List.mem_append_left _ (List.mem_map.2 ⟨z, h1, rfl⟩), rfl, h3⟩
    | false =>
      obtain ⟨z, h1, h3⟩ := Res.stops_sel h.2
      exact ⟨(!false, z), List.mem_append_right _ (List.mem_map.2 ⟨z, h1, rfl⟩), rfl, h3⟩
  | .ret _ _ _, h => by cases h
  | .fail, h => by cases h
/-- Like 'mix_draw', where what is to be shown may lean on the first test. -/
theorem mix_draw2 {α : Type} {T0 T : Table} {C : Code} {rid nt src m : Nat} {E : List FuncId} {L : List Item} {F : Form α} {f : FuncId} {fn : Func} {c : Cd} {qs : List (Bool × List Bool)} (hT0 : SoundT Try.prog T0) (hT : SoundT Try.prog T)
    (hfn : Try.prog.funcs[f]? = some fn) (hb : fn.body = some C) (hnt : fn.ntmps = nt + 1)
    (hL : L = .code (.region rid (opsOf L) true) :: tlOf L) (hd : (drawOK (opsOf L) m && effOK E (opsOf L) m && Try.prog.follows .mixedOrders && Nat.ble m (opsOf L).size) = true)
    (h0 : (mx0 T0 C rid nt c).allStop = true) (hl : ((Res.first (mx0 T0 C rid nt c)).map fun p => (p.1, mxLeaf T E src m L F fn.results.toList p.2)) = qs.map fun q => (q.1, (L, true, true, [], q.2, some [])))
    (hq : ∀ q ∈ qs, q.1 = true → allT q.2 = true) : ∃ x, DrawOK Try.prog f c (F.val x) := by
  obtain ⟨⟨cs, x⟩, hx, hfirst, hs⟩ := Res.first_sel h0
  have hmem : (cs, mxLeaf T E src m L F fn.results.toList x) ∈ qs.map fun q => (q.1, (L, true, true, [], q.2, some [])) := by
    rw [← hl]
    exact List.mem_map.2 ⟨(cs, x), hx, rfl⟩
  obtain ⟨q, hqm, hqe⟩ := List.mem_map.1 hmem
  simp only [mxLeaf, Prod.mk.injEq] at hqe
  obtain ⟨a1, a2, a3, b1, b2, hnd, hn⟩ := hqe
  have hall : allT (x.nd ++ (mx1 T E src m L x).nds) = true := by rw [← hnd]; exact hq q hqm (by rw [a1]; exact hfirst)
  rw [allT_append, Bool.and_eq_true] at hall
  have r0 := cupto_reach hT0 hs hall.1
  rw [← a2, hL] at r0
  simp only [Bool.and_eq_true] at hd
  obtain ⟨⟨⟨d1, d2⟩, d3⟩, d4⟩ := hd
  have e1 := Res.isStop_eq b1.symm
  rw [← b2] at e1
  have hsel : (mx1 T E src m L x).sel = .stop [] (mx1 T E src m L x).tOf (mx1 T E src m L x).HOf (mx1 T E src m L x).nds := by
    conv => lhs; rw [e1]
    rfl
  have r1 := mix_reach (k := tlOf L) (id := rid) hT d3 (Nat.le_of_ble_eq_true d4) d1 d2 a3.symm hsel hall.2
  cases hr : endF F fn.results.toList (mx2 T L (mx1 T E src m L x)) with
  | none => rw [hr] at hn; cases hn
  | some y =>
    obtain ⟨x, nd⟩ := y
    rw [hr] at hn
    simp only [endN, Option.map_some, Option.some.injEq] at hn
    subst hn
    unfold endF at hr
    split at hr <;> (try (cases hr; done))
    rename_i rx H nd0 he
    split at hr <;> (try (cases hr; done))
    rename_i vs m
    split at hr <;> (try (cases hr; done))
    rename_i y hy
    simp only [Option.some.injEq, Prod.mk.injEq, List.append_eq_nil_iff] at hr
    obtain ⟨rfl, rfl, rfl⟩ := hr
    obtain ⟨t, g1, g2⟩ := endOf_ends hT he rfl rfl
    have hcall := call_of_ends (args := [.sl false 0 c.off c.len 0]) hfn hb (by rw [hnt]; exact (r0.trans r1).ends g1) g2 rfl
    have hw := hcall.weaken fun σ z r => F.rel hy σ z r
    exact ⟨y, fun Hr => hw.read (F.low y) rfl Hr⟩

noncomputable def beC : Code := Try.f34.body.getD .skip
noncomputable def beL : List Item := ((mx0 (tab12 7) beC 6 28 ⟨[], 0, 0⟩).stops.map (·.todo)).headD []
theorem beL_eq : beL = .code (.region 6 (opsOf beL) true) :: tlOf beL := by kernel_rfl
theorem be_draw : (drawOK (opsOf beL) 6 && effOK [126, 125] (opsOf beL) 6 && Try.prog.follows .mixedOrders && Nat.ble 6 (opsOf beL).size) = true := by kernel_rfl
theorem be_all (c : Cd) : (mx0 (tab12 7) beC 6 28 c).allStop = true := by kernel_rfl
noncomputable def beN (c : Cd) : Int := (pickV formW 111 [] c 0 (fromV c)).1.1
def sideQ (n : Int) : Bool := cond (eqQ false n 1) true (cond (eqQ false n 2) true (cond (eqQ false n 4) true (eqQ false n 8)))
noncomputable def beQ (k x : Bool) (n : Int) : List (Bool × List Bool) := List.replicate 7 (!x, List.replicate 5 k) ++ (List.replicate 7 (!!x, List.replicate 6 k) ++ [(!!x, List.replicate 5 k ++ [sideB n])])
theorem be_leaves (c : Cd) : ((Res.first (mx0 (tab12 7) beC 6 28 c)).map fun p => (p.1, mxLeaf (tab12 1) [126, 125] 3 6 beL formWW Try.f34.results.toList p.2)) = (beQ (okB c c.off c.len) (sideQ (beN c)) (beN c)).map fun q => (q.1, (beL, true, true, [], q.2, some [])) := by kernel_rfl
theorem drawBehind_ok {c : Cd} (hc : goodB c = true) : ∃ x, DrawOK Try.prog 34 c (formWW.val x) :=
  mix_draw2 (tab12_sound 7) (tab12_sound 1) Try.func34 rfl rfl beL_eq be_draw (be_all c) (be_leaves c) fun q hq h1 => by
    have hk : okB c c.off c.len = true := by simp [okB, hc]
    unfold beQ at hq
    rw [hk] at hq
    simp only [List.mem_append, List.mem_replicate, List.mem_singleton] at hq
    rcases hq with ⟨_, rfl⟩ | ⟨_, rfl⟩ | rfl
    · rfl
    · rfl
    · simp only [Bool.not_not] at h1
      have : sideB (beN c) = true := by
        unfold sideQ at h1
        simp only [eqQ_eq] at h1
        unfold sideB
        rw [← h1]
        cases beN c == 1 <;> cases beN c == 2 <;> cases beN c == 4 <;> rfl
      simp [this]
      rfl
end Go.Ax

/- Table rows for the law of masks. -/
namespace Go.Ax
open Go Go.Proofs

noncomputable def gPair (g : Int → (Nat → Nat × Nat) → Bool) (Z : Int → (Nat → Nat × Nat) → (Nat → Nat × Nat) → Nat → Nat × Nat) : List AV → Option (AV × List Bool)
  | [.agg l, .agg l'] => match ofW l, ofW l' with
    | some (n, X), some (m, Y) => some (pairR n (g n X) (isMaskB m Y) (eqQ false n m) (Z n X Y), [])
    | _, _ => none
  | _ => none
theorem pair_at {f : FuncId} {g : Int → (Nat → Nat × Nat) → Bool} {Z : Int → (Nat → Nat × Nat) → (Nat → Nat × Nat) → Nat → Nat × Nat} (h0 : ∀ n m X Y H, CallOK Try.prog f [wv n X, wv m Y] H (pairR n (g n X) (isMaskB m Y) (eqQ false n m) (Z n X Y)) H) : SoundAt Try.prog f (pureT (gPair g Z)) := fun args H nd K => by
  refine pureT_sound (fun args v n h hn H => ?_) args H nd K
  unfold gPair at h
  split at h <;> (try (cases h; done))
  split at h <;> cases h
  rename_i n0 X0 m0 Y0 hl hl'
  exact (h0 n0 m0 X0 Y0 H).deep (by simp only [List.map_cons, ofW_spec hl, ofW_spec hl'])
noncomputable def gCompl : List AV → Option (AV × List Bool)
  | [.agg l] => match ofW l with
    | some (n, X) => some (complR n X, [])
    | none => none
  | _ => none
theorem compl_at (f : FuncId) (hf : f = 32 ∨ f = 39) : SoundAt Try.prog f (pureT gCompl) := fun args H nd K => by
  refine pureT_sound (fun args v n h hn H => ?_) args H nd K
  unfold gCompl at h
  split at h <;> (try (cases h; done))
  split at h <;> cases h
  rename_i n0 X0 hl
  exact (compl_ok f hf n0 X0 H).deep (by simp only [List.map_cons, ofW_spec hl])
noncomputable def rowsL4 : List (FuncId × Table) :=
  [(24, drawT formWW), (25, pureT (gPair isMaskB fun _ => unZ)), (26, pureT (gPair isMaskB sunZ)), (27, pureT (gPair isMaskB fun _ => inZ)), (28, pureT (gPair isMaskB fun _ => behX)),
   (29, pureT gIsMask), (121, pureT gIsMask), (31, openT), (32, pureT gCompl), (33, sumT), (34, drawT formWW), (35, pureT (gPair isWaveB fun _ => beZ)), (36, pureT (gPair isWaveB fun _ => behX)),
   (37, pureT gAdd), (38, drawT formW), (39, pureT gCompl), (40, drawT formW), (41, openT), (42, likeT)]
theorem rowsL4_at : ∀ p ∈ rowsL4, SoundAt Try.prog p.1 p.2 := fun p hp => by
  simp only [rowsL4, List.mem_cons, List.not_mem_nil, or_false] at hp
  rcases hp with rfl | rfl | rfl | rfl | rfl | rfl | rfl | rfl | rfl | rfl | rfl | rfl | rfl | rfl | rfl | rfl | rfl | rfl | rfl
  · exact drawT_at fun c hc => drawUnion_ok hc
  · exact pair_at union_ok
  · exact pair_at sunion_ok
  · exact pair_at inter_ok
  · exact pair_at sinter_ok
  · exact isMask_at 29 (.inl rfl)
  · exact isMask_at 121 (.inr rfl)
  · exact open_at 31 (.inl rfl)
  · exact compl_at 32 (.inl rfl)
  · exact sum_at
  · exact drawT_at fun c hc => drawBehind_ok hc
  · exact pair_at behindMask_ok
  · exact pair_at sbehMask_ok
  · exact add_at
  · exact drawT_at fun c hc => drawCompl_ok hc
  · exact compl_at 39 (.inr rfl)
  · exact drawT_at fun c hc => drawOpen_ok hc
  · exact open_at 41 (.inr rfl)
  · exact like_at
noncomputable def tabL4 : Table := tabOf (cdeep Try.prog rowsL4 [4] 3000 8)
theorem tabL4_sound : SoundT Try.prog tabL4 := cdeep_sound rowsL4_at 8
end Go.Ax

/- The law of phases. -/

namespace Go.Ax
open Go Go.Proofs

noncomputable def tabL3 : Table := tabOf (cdeep Try.prog rowsL3 [3] 3000 8)
theorem tabL3_sound : SoundT Try.prog tabL3 := cdeep_sound rowsL3_at 8
/-- Everything that the law draws. -/
structure D3 where
  k : Int
  n : Int
  u : Int
  v : Int
  y : Int
  x : Int
  m : Int
  z : Nat × Nat
  a : Int
  X : Nat → Nat × Nat
  s : Int
  t : Int
noncomputable def d3 (c : Cd) : D3 where
  k := drawV formI 9 c
  n := (drawV formI3 12 c).1
  u := (drawV formI3 12 c).2.1
  v := (drawV formI3 12 c).2.2
  y := beV c 0 (rollV c 991) (drawV formI3 12 c).1
  x := beV c (nxA c 0 (drawV formI3 12 c).1) (nxS (rollV c 991) (drawV formI3 12 c).1) (drawV formI3 12 c).1
  m := (drawV formIC 19 c).1
  z := ((drawV formIC 19 c).2.1, (drawV formIC 19 c).2.2)
  a := (drawV formWII 22 c).1.1
  X := (drawV formWII 22 c).1.2
  s := (drawV formWII 22 c).2.1
  t := (drawV formWII 22 c).2.2
def w64' (n : Int) : Int := wrapQ false .i64 n
def pre3 (c : Cd) (d : D3) : List Bool :=
  [!ltQ false 4096 (c.len : Int), !!pEq (phX d.k) (phX d.k) (phY d.k) (phY d.k),
   !!pEq (phX (w64' (d.k.tmod 64 + 64))) (phX d.k) (phY (w64' (d.k.tmod 64 + 64))) (phY d.k),
   !!pEq (phX (w64' (d.k.tmod 64 + 32))) (fneg .f32 (phX d.k)) (phY (w64' (d.k.tmod 64 + 32))) (fneg .f32 (phY d.k)),
   !!pEq (phX (w64' (d.k.tmod 64 + 16))) (fneg .f32 (phY d.k)) (phY (w64' (d.k.tmod 64 + 16))) (phX d.k)]
def mid3 (d : D3) : Nat → List Bool
  | 0 => [!eqQ false ((d.k.tmod 64).tmod 16) 0]
  | 1 => [eqQ false ((d.k.tmod 64).tmod 16) 0, !!feq .f32 (phX d.k) 0]
  | _ => [eqQ false ((d.k.tmod 64).tmod 16) 0, !feq .f32 (phX d.k) 0, !!feq .f32 (phY d.k) 0]
noncomputable def D3.pn (d : D3) : Int := cond (planeOK d.n d.u d.v) d.n 0
noncomputable def D3.pX (d : D3) : Nat → Nat × Nat := planeX d.n d.u d.v
noncomputable def D3.pc (d : D3) : Int := cond (planeOK d.n d.u d.v) 0 2
def D3.kk (d : D3) : Int := w64' (w64' (w64' (d.u * d.x) + w64' (d.v * d.y)) * IntKind.i64.wrap (Int.tdiv 64 d.n))
noncomputable def tail3 (d : D3) : Bool → List Bool
  | false => [!!eqQ false d.pc d.pc, !!eqW d.pn d.pX d.pn d.pX, !eqQ false d.pc 0]
  | true => [!!eqQ false d.pc d.pc, !!eqW d.pn d.pX d.pn d.pX, eqQ false d.pc 0, !!eqQ false (cellC d.pn (reX d.pX) d.y d.x) 0,
    !!pEq (cellZ d.pn (reX d.pX) d.y d.x).1 (phX d.kk) (cellZ d.pn (reX d.pX) d.y d.x).2 (phY d.kk), !!isWaveB d.pn (reX d.pX)]
noncomputable def D3.fn (d : D3) : Int := cond (flatOK d.m d.z) d.m 0
noncomputable def D3.fX (d : D3) : Nat → Nat × Nat := flatX d.m d.z
noncomputable def fin3 (d : D3) : List Bool := [eqQ false (flatC d.m d.z) (flatC d.m d.z), eqW d.fn d.fX d.fn d.fX, eqQ false (cellC d.a (reX d.X) d.s d.t) (cellC d.a (reX d.X) d.s d.t)]
noncomputable def conds3 (c : Cd) (d : D3) (i : Nat) (ok : Bool) : List Bool := pre3 c d ++ (mid3 d i ++ (tail3 d ok ++ fin3 d))
def midD : Nat → List Bool
  | 0 => [false]
  | 1 => [true, false]
  | _ => [true, true, false]
def tailD : Bool → List Bool
  | false => [false, false, false]
  | true => [false, false, true, false, false, false]
def dirs3 (i : Nat) (ok : Bool) : List Bool := [false, false, false, false, false] ++ (midD i ++ (tailD ok ++ [true, true, true]))
noncomputable def last3 (d : D3) : Bool := pEq (cellZ d.a (reX d.X) d.s d.t).1 (cellZ d.a (reX d.X) d.s d.t).1 (cellZ d.a (reX d.X) d.s d.t).2 (cellZ d.a (reX d.X) d.s d.t).2
noncomputable def nds3 (c : Cd) (d : D3) (ok : Bool) : List Bool := cond ok [okB c c.off c.len, okB c c.off c.len, !(d.n == 0), okB c c.off c.len, okB c c.off c.len, okB c c.off c.len, okB c c.off c.len, okB c c.off c.len] [okB c c.off c.len, okB c c.off c.len, okB c c.off c.len, okB c c.off c.len]
theorem path3 (i : Nat) (hi : i = 0 ∨ i = 1 ∨ i = 2) (ok : Bool) (c : Cd) : (condsP (tabL3 3 [.sl false 0 c.off c.len 0] [codeB c false] [] fun v H nd => .ret v H nd) (dirs3 i ok), leafP ((tabL3 3 [.sl false 0 c.off c.len 0] [codeB c false] [] fun v H nd => .ret v H nd).at (dirs3 i ok))) =
    (conds3 c (d3 c) i ok, some (.b false (last3 (d3 c)), nds3 c (d3 c) ok)) := by
  rcases hi with rfl | rfl | rfl <;> cases ok <;> kernel_rfl
theorem path3_big (c : Cd) : (condsP (tabL3 3 [.sl false 0 c.off c.len 0] [codeB c false] [] fun v H nd => .ret v H nd) [true], leafP ((tabL3 3 [.sl false 0 c.off c.len 0] [codeB c false] [] fun v H nd => .ret v H nd).at [true])) =
    ([ltQ false 4096 (c.len : Int)], some (.b true true, [])) := by kernel_rfl

/-! ### The plain law -/
theorem w64'_id {a : Int} (h : -1000000 ≤ a ∧ a ≤ 1000000) : w64' a = a := wrap64_id (by omega) (by omega)
theorem pEq_self {x y : Nat} (hx : finB x = true) (hy : finB y = true) : pEq x x y y = true := by simp [pEq, feq_self hx, feq_self hy]
theorem per_add (k e : Int) (he : -100 ≤ e ∧ e ≤ 100) : phX (w64' (k.tmod 64 + e)) = phX (k + e) ∧ phY (w64' (k.tmod 64 + e)) = phY (k + e) := by
  have h := tmod64 k
  have hw : w64' (k.tmod 64 + e) = k.tmod 64 + e := w64'_id (by omega)
  rw [hw]
  exact ph_per (by omega)
theorem pre3_ok {c : Cd} (hb : ltQ false 4096 (c.len : Int) = false) (d : D3) : allT (pre3 c d) = true := by
  obtain ⟨h1, h2, h3, h4, _⟩ := ph_facts d.k
  unfold pre3
  rw [hb, (per_add d.k 64 (by decide)).1, (per_add d.k 64 (by decide)).2, (per_add d.k 32 (by decide)).1, (per_add d.k 32 (by decide)).2, (per_add d.k 16 (by decide)).1, (per_add d.k 16 (by decide)).2,
    (ph_per (k := d.k + 64) (k' := d.k) (by omega)).1, (ph_per (k := d.k + 64) (k' := d.k) (by omega)).2, h3, h4, pEq_self h1 h2]
  rfl
theorem mid3_ok (d : D3) : ∃ i, (i = 0 ∨ i = 1 ∨ i = 2) ∧ allT (mid3 d i) = true := by
  obtain ⟨_, _, _, _, h5⟩ := ph_facts d.k
  cases h16 : eqQ false ((d.k.tmod 64).tmod 16) 0 with
  | false => exact ⟨0, .inl rfl, by unfold mid3; rw [h16]; rfl⟩
  | true =>
    have hk : d.k % 16 = 0 := by
      rw [eqQ_eq, beq_iff_eq] at h16
      have := tmod64 d.k
      have e := Int.tmod_add_mul_tdiv (d.k.tmod 64) 16
      rw [h16] at e
      omega
    cases hx : feq .f32 (phX d.k) 0 with
    | true => exact ⟨1, .inr (.inl rfl), by unfold mid3; rw [h16, hx]; rfl⟩
    | false =>
      rcases h5 hk with h | h
      · rw [h] at hx; cases hx
      · exact ⟨2, .inr (.inr rfl), by unfold mid3; rw [h16, hx, h]; rfl⟩
theorem fin_zero : finB 0 = true := by kernel_rfl
theorem zeroB_zero : zeroB (0, 0) = true := by kernel_rfl
theorem planeX_fin (n u v : Int) (j : Nat) : finB (planeX n u v j).1 = true ∧ finB (planeX n u v j).2 = true := by
  unfold planeX
  split
  · obtain ⟨h1, h2, _⟩ := ph_facts (planeK n u v j)
    exact ⟨h1, h2⟩
  · exact ⟨fin_zero, fin_zero⟩
theorem eqQ_self (b : Bool) (x : Int) : eqQ b x x = true := by rw [eqQ_eq]; simp
theorem plane_isWave {n u v : Int} (h : planeOK n u v = true) : isWaveB n (planeX n u v) = true := by
  have hs : sideB n = true := by unfold planeOK at h; rw [Bool.and_eq_true] at h; exact h.1
  refine isWaveB_iff.2 ⟨sideB_iff.1 hs, fun j hj => ⟨wholeB_iff.2 (planeX_fin n u v j), fun hn => ?_⟩⟩
  have : Nat.blt j (n.toNat * n.toNat) = false := by
    cases hb : Nat.blt j (n.toNat * n.toNat) with
    | false => rfl
    | true => have := blt_true hb; omega
  unfold planeX
  rw [this, Bool.and_false]
  exact zeroB_zero
theorem tail3_no {d : D3} (h : planeOK d.n d.u d.v = false) : allT (tail3 d false) = true := by
  have he : eqW d.pn d.pX d.pn d.pX = true := eqW_self fun j => ⟨feq_self (planeX_fin _ _ _ j).1, feq_self (planeX_fin _ _ _ j).2⟩
  have hc : eqQ false d.pc 0 = false := by
    unfold D3.pc; rw [h]; rfl
  simp [tail3, allT, eqQ_self, he, hc]
theorem cell_idx {n y x : Int} (hn : n = 1 ∨ n = 2 ∨ n = 4 ∨ n = 8) (hy : 0 ≤ y ∧ y < n) (hx : 0 ≤ x ∧ x < n) :
    (n * y + x).toNat < 64 ∧ Nat.blt (n * y + x).toNat (n.toNat * n.toNat) = true ∧ (Int.ofNat (n * y + x).toNat).tdiv n = y ∧ (Int.ofNat (n * y + x).toNat).tmod n = x := by
  have h0 : 0 ≤ n * y + x := by rcases hn with rfl | rfl | rfl | rfl <;> omega
  have hb : (n * y + x).toNat < n.toNat * n.toNat := by rcases hn with rfl | rfl | rfl | rfl <;> simp <;> omega
  refine ⟨by rcases hn with rfl | rfl | rfl | rfl <;> simp at hb <;> omega, ?_, ?_⟩
  · cases h : Nat.blt (n * y + x).toNat (n.toNat * n.toNat) with
    | true => rfl
    | false => have := blt_false h; omega
  · have e : Int.ofNat (n * y + x).toNat = n * y + x := by simp; omega
    rw [e]
    rw [Int.tdiv_eq_ediv_of_nonneg h0, Int.tmod_eq_emod_of_nonneg h0]
    rcases hn with rfl | rfl | rfl | rfl <;> constructor <;> omega
theorem tail3_ok {d : D3} (h : planeOK d.n d.u d.v = true) (hy : 0 ≤ d.y ∧ (1 ≤ d.n → d.y < d.n)) (hx : 0 ≤ d.x ∧ (1 ≤ d.n → d.x < d.n)) : allT (tail3 d true) = true := by
  have he : eqW d.pn d.pX d.pn d.pX = true := eqW_self fun j => ⟨feq_self (planeX_fin _ _ _ j).1, feq_self (planeX_fin _ _ _ j).2⟩
  have hpn : d.pn = d.n := by unfold D3.pn; rw [h]; rfl
  have hc : eqQ false d.pc 0 = true := by unfold D3.pc; rw [h]; rfl
  have hw : isWaveB d.pn (reX d.pX) = true := by rw [isWaveB_re, hpn]; exact plane_isWave h
  have hh := h
  unfold planeOK at hh
  simp only [Bool.and_eq_true] at hh
  obtain ⟨hs, hu, hv⟩ := hh
  have hn := sideB_iff.1 hs
  have hu := inU_iff.1 hu
  have hv := inU_iff.1 hv
  have hy1 := hy.2 (by omega)
  have hx1 := hx.2 (by omega)
  have iy : inB d.y (d.n - 1) = true := by simp [inB]; omega
  have ix : inB d.x (d.n - 1) = true := by simp [inB]; omega
  have hcc : cellC d.pn (reX d.pX) d.y d.x = 0 := by
    unfold cellC
    rw [hw, hpn, iy, ix]; rfl
  have hok : cellOK d.pn (reX d.pX) d.y d.x = true := by
    unfold cellOK
    rw [hw, hpn, iy, ix]; rfl
  obtain ⟨hj, hb, e1⟩ := cell_idx hn ⟨hy.1, hy1⟩ ⟨hx.1, hx1⟩
  have hz : cellZ d.pn (reX d.pX) d.y d.x = (phX d.kk, phY d.kk) := by
    unfold cellZ
    rw [hok, hpn]
    simp only
    rw [reX_eq hj]
    have hX : d.pX (d.n * d.y + d.x).toNat = (phX ((d.u * d.x + d.v * d.y) * Int.tdiv 64 d.n), phY ((d.u * d.x + d.v * d.y) * Int.tdiv 64 d.n)) := by
      unfold D3.pX planeX
      rw [h, hb]
      simp only [Bool.and_self, planeK, e1.1, e1.2]
    rw [hX]
    simp only [(plus_phx _).1, (plus_phx _).2]
    have b1 := mul_bd hu (x := d.x) (by omega)
    have b2 := mul_bd hv (x := d.y) (by omega)
    have hkk : d.kk = (d.u * d.x + d.v * d.y) * Int.tdiv 64 d.n := by
      unfold D3.kk
      rw [w64'_id (a := d.u * d.x) (by omega), w64'_id (a := d.v * d.y) (by omega)]
      generalize d.u * d.x = p at *
      generalize d.v * d.y = q at *
      rw [w64'_id (a := p + q) (by omega)]
      have e64 : IntKind.i64.wrap (Int.tdiv 64 d.n) = Int.tdiv 64 d.n := by
        rcases hn with e | e | e | e <;> rw [e] <;> rfl
      rw [e64]
      refine w64'_id ?_
      rcases hn with e | e | e | e <;> rw [e]
      · rw [show Int.tdiv 64 1 = 64 from rfl]; omega
      · rw [show Int.tdiv 64 2 = 32 from rfl]; omega
      · rw [show Int.tdiv 64 4 = 16 from rfl]; omega
      · rw [show Int.tdiv 64 8 = 8 from rfl]; omega
    rw [hkk]
  obtain ⟨p1, p2, _⟩ := ph_facts d.kk
  simp [tail3, allT, eqQ_self, he, hc, hw, hcc, hz, pEq_self p1 p2]
theorem flatX_fin (n : Int) (z : Nat × Nat) (j : Nat) : feq .f32 (flatX n z j).1 (flatX n z j).1 = true ∧ feq .f32 (flatX n z j).2 (flatX n z j).2 = true := by
  unfold flatX
  split
  · rename_i h
    rw [Bool.and_eq_true] at h
    have h := h.1
    unfold flatOK at h
    rw [Bool.and_eq_true] at h
    have h := wholeB_iff.1 h.2
    exact ⟨feq_plus h.1, feq_plus h.2⟩
  · exact ⟨feq_zz, feq_zz⟩
theorem fin3_ok (d : D3) : allT (fin3 d) = true := by
  have he : eqW d.fn d.fX d.fn d.fX = true := eqW_self fun j => flatX_fin _ _ j
  simp [fin3, allT, eqQ_self, he]
theorem cell_self (n : Int) (X : Nat → Nat × Nat) (y x : Int) : pEq (cellZ n (reX X) y x).1 (cellZ n (reX X) y x).1 (cellZ n (reX X) y x).2 (cellZ n (reX X) y x).2 = true := by
  unfold cellZ
  split
  · rename_i h
    unfold cellOK at h
    simp only [Bool.and_eq_true] at h
    obtain ⟨hw, hy, hx⟩ := h
    obtain ⟨hn, hj⟩ := isWaveB_iff.1 hw
    have hy := inB_iff.1 hy
    have hx := inB_iff.1 hx
    have hlt : (n * y + x).toNat < 64 := (cell_idx hn ⟨hy.1, by omega⟩ ⟨hx.1, by omega⟩).1
    have := wholeB_iff.1 (hj _ hlt).1
    simp [pEq, feq_plus this.1, feq_plus this.2]
  · simp [pEq, feq_zz]
theorem last3_ok (d : D3) : last3 d = true := cell_self _ _ _ _
theorem nds3_ok {c : Cd} (hc : goodB c = true) {d : D3} {ok : Bool} (h : planeOK d.n d.u d.v = ok) : allT (nds3 c d ok) = true := by
  have hk : okB c c.off c.len = true := by simp [okB, hc]
  unfold nds3
  rw [hk]
  cases ok with
  | false => rfl
  | true =>
    have hn : (d.n == 0) = false := by
      unfold planeOK at h
      rw [Bool.and_eq_true] at h
      have := sideB_iff.1 h.1
      simp; omega
    rw [hn]; rfl
theorem law3_ok (c : Cd) (hc : goodB c = true ∨ 4096 < c.len) : ∃ H', CallOK Try.prog 3 [.sl false 0 c.off c.len 0] [codeB c false] (.b false true) H' := by
  cases hb : ltQ false 4096 (c.len : Int) with
  | true =>
    obtain ⟨H', k⟩ := call_of_path tabL3_sound (path3_big c) (by rw [hb]; rfl) rfl
    exact ⟨H', k.weaken fun σ x r => by cases r; exact .b _⟩
  | false =>
    have hg : goodB c = true := by
      rcases hc with h | h
      · exact h
      · rw [ltQ_eq] at hb
        simp at hb; omega
    obtain ⟨i, hi, hm⟩ := mid3_ok (d3 c)
    have key : ∀ ok, planeOK (d3 c).n (d3 c).u (d3 c).v = ok → allT (tail3 (d3 c) ok) = true → ∃ H', CallOK Try.prog 3 [.sl false 0 c.off c.len 0] [codeB c false] (.b false true) H' := fun ok h1 h2 => by
      obtain ⟨H', k⟩ := call_of_path tabL3_sound (path3 i hi ok c) (by
        unfold conds3
        simp only [allT_append, pre3_ok hb, hm, h2, fin3_ok, Bool.and_self]) (nds3_ok hg h1)
      rw [last3_ok] at k
      exact ⟨H', k⟩
    cases hp : planeOK (d3 c).n (d3 c).u (d3 c).v with
    | false => exact key false hp (tail3_no hp)
    | true => exact key true hp (tail3_ok hp (beV_bound hg _ _ _) (beV_bound hg _ _ _))
end Go.Ax

/- The law of masks: its ways. -/
namespace Go.Ax
open Go Go.Proofs

/-- Everything that the law draws. -/
structure D4 where
  n : Int
  X : Nat → Nat × Nat
  m : Int
  Y : Nat → Nat × Nat
  wn : Int
  W : Nat → Nat × Nat
  ln : Int
  L : Nat → Nat × Nat
  cn : Int
  C : Nat → Nat × Nat
  on : Int
  O : Nat → Nat × Nat
noncomputable def d4 (c : Cd) : D4 where
  n := (drawV formWW 24 c).1.1
  X := (drawV formWW 24 c).1.2
  m := (drawV formWW 24 c).2.1
  Y := (drawV formWW 24 c).2.2
  wn := (drawV formWW 34 c).1.1
  W := (drawV formWW 34 c).1.2
  ln := (drawV formWW 34 c).2.1
  L := (drawV formWW 34 c).2.2
  cn := (drawV formW 38 c).1
  C := (drawV formW 38 c).2
  on := (drawV formW 40 c).1
  O := (drawV formW 40 c).2
namespace D4
noncomputable def g (d : D4) : Bool := isMaskB d.n (reX d.X)
noncomputable def h (d : D4) : Bool := isMaskB d.m (reX d.Y)
noncomputable def e (d : D4) : Bool := eqQ false d.n d.m
noncomputable def c1 (d : D4) : Int := twoW d.g d.h d.e 1 2 0
noncomputable def s1 (d : D4) : Int := twoW d.g d.h d.e 0 0 d.n
noncomputable def U (d : D4) : Nat → Nat × Nat := pairX d.n d.g d.h d.e (unZ (reX d.X) (reX d.Y))
noncomputable def SU (d : D4) : Nat → Nat × Nat := pairX d.n d.g d.h d.e (sunZ d.n (reX d.X) (reX d.Y))
noncomputable def I (d : D4) : Nat → Nat × Nat := pairX d.n d.g d.h d.e (inZ (reX d.X) (reX d.Y))
noncomputable def SI (d : D4) : Nat → Nat × Nat := pairX d.n d.g d.h d.e (behX (reX d.X) (reX d.Y))
noncomputable def kn (d : D4) : Int := cond d.g d.n 0
noncomputable def K (d : D4) : Nat → Nat × Nat := complX d.n (reX d.X)
noncomputable def gw (d : D4) : Bool := isWaveB d.wn (reX d.W)
noncomputable def gl (d : D4) : Bool := isMaskB d.ln (reX d.L)
noncomputable def el (d : D4) : Bool := eqQ false d.wn d.ln
noncomputable def c2 (d : D4) : Int := twoW d.gw d.gl d.el 1 2 0
noncomputable def s2 (d : D4) : Int := twoW d.gw d.gl d.el 0 0 d.wn
noncomputable def F (d : D4) : Nat → Nat × Nat := pairX d.wn d.gw d.gl d.el (beZ (reX d.W) (reX d.L))
noncomputable def SF (d : D4) : Nat → Nat × Nat := pairX d.wn d.gw d.gl d.el (behX (reX d.W) (reX d.L))
noncomputable def qn (d : D4) : Int := cond d.gl d.ln 0
noncomputable def Q (d : D4) : Nat → Nat × Nat := reX (complX d.ln (reX d.L))
noncomputable def gq (d : D4) : Bool := isMaskB d.qn d.Q
noncomputable def eq (d : D4) : Bool := eqQ false d.wn d.qn
noncomputable def c3 (d : D4) : Int := twoW d.gw d.gq d.eq 1 2 0
noncomputable def s3 (d : D4) : Int := twoW d.gw d.gq d.eq 0 0 d.wn
noncomputable def G (d : D4) : Nat → Nat × Nat := pairX d.wn d.gw d.gq d.eq (beZ (reX d.W) d.Q)
noncomputable def A (d : D4) : Nat → Nat × Nat := addX d.s2 (reX d.F) (reX d.G)
noncomputable def gc (d : D4) : Bool := isMaskB d.cn (reX d.C)
noncomputable def cc (d : D4) : Int := cond d.gc 0 1
noncomputable def sc (d : D4) : Int := cond d.gc d.cn 0
noncomputable def CX (d : D4) : Nat → Nat × Nat := complX d.cn (reX d.C)
noncomputable def go (d : D4) : Bool := isMaskB d.on (reX d.O)
end D4
/-- The number of open cells. -/
def tot (n : Int) (X : Nat → Nat × Nat) : Int := suA (openL n X) (openL n X).length
noncomputable def pre4 (c : Cd) (d : D4) : List Bool := [!ltQ false 4096 (c.len : Int), !!eqQ false d.c1 d.c1, !!eqW d.s1 d.U d.s1 d.SU, !!eqQ false d.c1 d.c1, !!eqW d.s1 d.I d.s1 d.SI, !!(d.g == d.g)]
noncomputable def mid4 (d : D4) : Bool → List Bool
  | false => [!eqQ false d.c1 0]
  | true => [eqQ false d.c1 0, isMaskB d.n (reX d.X), isMaskB d.m (reX d.Y), isMaskB d.s1 (reX d.U), isMaskB d.s1 (reX d.I), isMaskB d.kn (reX d.K), !!eqQ false d.c1 0, !!eqQ false (cond d.g 0 1) 0,
    !!eqQ false (w64' (tot d.n (reX d.X) + tot d.m (reX d.Y))) (w64' (tot d.s1 (reX d.U) + tot d.s1 (reX d.I))), !!eqQ false (w64' (tot d.n (reX d.X) + tot d.kn (reX d.K))) (w64' (d.n * d.n))]
noncomputable def all4 (d : D4) : Bool → List Bool
  | false => [!!eqQ false d.c2 d.c2, !!eqW d.s2 d.F d.s2 d.SF, !eqQ false d.c2 0]
  | true => [!!eqQ false d.c2 d.c2, !!eqW d.s2 d.F d.s2 d.SF, eqQ false d.c2 0, !!eqQ false (cond d.gl 0 1) 0, !!eqQ false d.c3 0, !!eqW d.s2 d.A d.wn d.W]
noncomputable def end4 (d : D4) : Bool → List Bool
  | false => [!d.go, !d.go, eqQ false d.cc d.cc, eqW d.sc d.CX d.sc d.CX]
  | true => [d.go, d.go, eqQ false d.cc d.cc, eqW d.sc d.CX d.sc d.CX]
def midD4 : Bool → List Bool
  | false => [false]
  | true => [true, true, true, true, true, true, false, false, false, false]
def allD4 : Bool → List Bool
  | false => [false, false, false]
  | true => [false, false, true, false, false, false]
def endD4 : Bool → List Bool
  | false => [false, false, true, true]
  | true => [true, true, true, true]
def dirs4 (i j k : Bool) : List Bool := [false, false, false, false, false, false] ++ (midD4 i ++ (allD4 j ++ endD4 k))
def sq (n : Int) (X : Nat → Nat × Nat) : List Bool := [decide ((0 : Nat) = 0) && decide ((1 : Nat) = 1), decide (n.toNat = (openL n X).length), decide (n.toNat ≤ 5000)]
noncomputable def midN (d : D4) : Bool → List Bool
  | false => []
  | true => sq d.kn (reX d.K) ++ (sq d.n (reX d.X) ++ (sq d.s1 (reX d.I) ++ (sq d.s1 (reX d.U) ++ (sq d.m (reX d.Y) ++ sq d.n (reX d.X)))))
noncomputable def allN (d : D4) : Bool → List Bool
  | false => []
  | true => [eqQ false d.s3 d.s2, isWaveB d.s2 (reX d.F), isWaveB d.s2 (reX d.G), isWaveB d.s2 (addZ (d.s2.toNat * d.s2.toNat) (reX d.F) (reX d.G))]
noncomputable def endN4 (d : D4) : Bool → List Bool
  | false => []
  | true => sq d.on (reX d.O) ++ sq d.on (reX d.O)
noncomputable def nds4 (c : Cd) (d : D4) (i j k : Bool) : List Bool := endN4 d k ++ ([okB c c.off c.len, okB c c.off c.len] ++ (allN d j ++ ([okB c c.off c.len] ++ (midN d i ++ [okB c c.off c.len]))))
noncomputable def last4 (d : D4) : Bool → AV
  | false => .b true true
  | true => .b false (openL d.on (reX d.O) == openL d.on (reX d.O))
noncomputable def lw4 (c : Cd) : Res := tabL4 4 [.sl false 0 c.off c.len 0] [codeB c false] [] fun v H nd => .ret v H nd
theorem path4 (i j k : Bool) (c : Cd) : (condsP (lw4 c) (dirs4 i j k), leafP ((lw4 c).at (dirs4 i j k))) =
    (pre4 c (d4 c) ++ (mid4 (d4 c) i ++ (all4 (d4 c) j ++ end4 (d4 c) k)), some (last4 (d4 c) k, nds4 c (d4 c) i j k)) := by
  cases i <;> cases j <;> cases k <;> kernel_rfl
theorem path4_big (c : Cd) : (condsP (lw4 c) [true], leafP ((lw4 c).at [true])) = ([ltQ false 4096 (c.len : Int)], some (.b true true, [])) := by kernel_rfl
end Go.Ax

/- The plain law of masks. -/
namespace Go.Ax
open Go Go.Proofs

theorem eqX_of {X Y : Nat → Nat × Nat} : ∀ (m a : Nat), (∀ j, a ≤ j → j < a + m → pEq (X j).1 (Y j).1 (X j).2 (Y j).2 = true) → eqX X Y m a = true
  | 0, _, _ => rfl
  | m + 1, a, h => by
    simp only [eqX, Bool.and_eq_true]
    exact ⟨h a (Nat.le_refl _) (by omega), eqX_of m (a + 1) fun j h1 h2 => h j (by omega) (by omega)⟩
theorem eqW_of {n : Int} {X Y : Nat → Nat × Nat} (h : ∀ j, j < 64 → pEq (X j).1 (Y j).1 (X j).2 (Y j).2 = true) : eqW n X n Y = true := by
  unfold eqW
  rw [eqX_of 64 0 fun j _ hj => h j (by omega)]
  simp
theorem pEq_cv {z w : Nat × Nat} {a b : Int} (h : cv z a b) (k : cv w a b) : pEq z.1 w.1 z.2 w.2 = true := by
  rw [cv_pEq h k]; simp
theorem pEq_zero : pEq 0 0 0 0 = true := by
  have := pEq_cv cv_zero cv_zero
  exact this
/-- A mask out of its places. -/
theorem mask_of {n : Int} {Z : Nat → Nat × Nat} {f : Nat → Bool} (hs : sideB n = true) (h : ∀ j, j < 64 → cv (Z j) (cond (f j) oneI 0) 0) (ht : ∀ j, j < 64 → n.toNat * n.toNat ≤ j → f j = false) : isMaskB n Z = true ∧ ∀ j, j < 64 → oC (Z j) = f j := by
  refine ⟨mask_cv.2 ⟨sideB_iff.1 hs, f, fun j hj => ⟨h j hj, ht j hj⟩⟩, fun j hj => ?_⟩
  rw [oC_of (h j hj)]
  cases f j
  · simpa using oneI_ne.symm
  · simp
theorem mask_side {n : Int} {X : Nat → Nat × Nat} (h : isMaskB n X = true) : sideB n = true := by
  cases hs : sideB n with
  | true => rfl
  | false => rw [(noSide_mask hs).1] at h; cases h
section
variable {n : Int} {X Y : Nat → Nat × Nat}
theorem pair_true {g h e : Bool} {Z : Nat → Nat × Nat} {j : Nat} (hg : g = true) (hh : h = true) (he : e = true) : pairX n g h e Z j = match Nat.blt j (n.toNat * n.toNat) with
    | true => (plusF (Z j).1, plusF (Z j).2)
    | false => (0, 0) := by
  subst hg; subst hh; subst he; rfl
theorem pair_cv {Z : Nat → Nat × Nat} {f : Nat → Bool} (hz : ∀ j, j < 64 → j < n.toNat * n.toNat → cv (Z j) (cond (f j) oneI 0) 0) (ht : ∀ j, j < 64 → n.toNat * n.toNat ≤ j → f j = false) {j : Nat} (hj : j < 64) : cv (pairX n true true true Z j) (cond (f j) oneI 0) 0 := by
  rw [pair_true rfl rfl rfl]
  cases hb : Nat.blt j (n.toNat * n.toNat) with
  | true => exact plus_cv (hz j hj (blt_true hb))
  | false =>
    rw [ht j hj (by have := blt_false hb; omega)]
    exact cv_zero
theorem un_cv (j : Nat) : cv (unZ X Y j) (cond (oC (X j) || oC (Y j)) oneI 0) 0 := by
  unfold unZ
  cases oC (X j) <;> cases oC (Y j) <;> first | exact cv_zero | exact cv_one
theorem in_cv (j : Nat) : cv (inZ X Y j) (cond (oC (X j) && oC (Y j)) oneI 0) 0 := by
  unfold inZ
  cases oC (X j) <;> cases oC (Y j) <;> first | exact cv_zero | exact cv_one
theorem comX_small {N j : Nat} {Z : Nat → Nat × Nat} (h : j < N) : comX N Z j = (fsub .f32 oneF (Z j).1, fsub .f32 0 (Z j).2) := by
  have hb : Nat.ble N j = false := by
    cases hb : Nat.ble N j with
    | false => rfl
    | true => have := Nat.le_of_ble_eq_true hb; omega
  unfold comX
  rw [hb]
theorem com_cv {j : Nat} {b : Bool} (h : cv (X j) (cond b oneI 0) 0) (hj : j < n.toNat * n.toNat) : cv (comX (n.toNat * n.toNat) X j) (cond b 0 oneI) 0 := by
  have hb : Nat.ble (n.toNat * n.toNat) j = false := by
    cases hb : Nat.ble (n.toNat * n.toNat) j with
    | false => rfl
    | true => have := Nat.le_of_ble_eq_true hb; omega
  unfold comX
  rw [hb]
  exact ⟨sub_one h.1, sub_zero h.2⟩
theorem sun_cv (hX : isMaskB n X = true) (hY : isMaskB n Y = true) {j : Nat} (hj : j < 64) (hn : j < n.toNat * n.toNat) : cv (sunZ n X Y j) (cond (oC (X j) || oC (Y j)) oneI 0) 0 := by
  obtain ⟨x1, _, _⟩ := mask_open hX hj
  obtain ⟨y1, _, _⟩ := mask_open hY hj
  have cx := com_cv x1 hn
  have cy := com_cv y1 hn
  unfold sunZ
  have hb : cv (behX (comX (n.toNat * n.toNat) X) (comX (n.toNat * n.toNat) Y) j) (cond (oC (X j) || oC (Y j)) 0 oneI) 0 := by
    unfold behX
    rw [zC_of (a := cond (oC (Y j)) 0 oneI) cy]
    cases hy : oC (Y j) with
    | true =>
      have e : (cond true 0 oneI == (0 : Int)) = true := rfl
      rw [e, Bool.or_true]
      exact cv_zero
    | false =>
      have e : (cond false 0 oneI == (0 : Int)) = false := by simpa using oneI_ne
      rw [e, Bool.or_false]
      exact cx
  have e := comX_small (N := n.toNat * n.toNat) (Z := behX (comX (n.toNat * n.toNat) X) (comX (n.toNat * n.toNat) Y)) hn
  rw [e]
  have h1 := hb.1
  have h2 := hb.2
  refine ⟨?_, sub_zero h2⟩
  have := sub_one (x := (behX (comX (n.toNat * n.toNat) X) (comX (n.toNat * n.toNat) Y) j).1) (b := !(oC (X j) || oC (Y j))) (by
    rw [h1]; cases oC (X j) || oC (Y j) <;> rfl)
  rw [this]
  cases oC (X j) || oC (Y j) <;> rfl
theorem beh_cv (hX : isMaskB n X = true) (hY : isMaskB n Y = true) {j : Nat} (hj : j < 64) : cv (behX X Y j) (cond (oC (X j) && oC (Y j)) oneI 0) 0 := by
  obtain ⟨x1, _, _⟩ := mask_open hX hj
  obtain ⟨_, _, y3⟩ := mask_open hY hj
  unfold behX
  rw [y3]
  cases oC (Y j) with
  | true => rw [Bool.and_true]; exact x1
  | false => rw [Bool.and_false]; exact cv_zero
theorem compl_cv (hX : isMaskB n X = true) {j : Nat} (hj : j < 64) : cv (complX n X j) (cond (Nat.blt j (n.toNat * n.toNat) && !oC (X j)) oneI 0) 0 := by
  obtain ⟨x1, _, _⟩ := mask_open hX hj
  unfold complX
  rw [hX, Bool.true_and]
  cases hb : Nat.blt j (n.toNat * n.toNat) with
  | false => exact cv_zero
  | true =>
    have h1 : fint (fsub .f32 oneF (X j).1) = some (cond (true && !oC (X j)) oneI 0) := by
      rw [sub_one x1.1]
      cases oC (X j) <;> rfl
    have h2 : fint (fsub .f32 0 (X j).2) = some 0 := sub_zero x1.2
    exact plus_cv (z := (fsub .f32 oneF (X j).1, fsub .f32 0 (X j).2)) ⟨h1, h2⟩
theorem or_tail (hX : isMaskB n X = true) (hY : isMaskB n Y = true) {j : Nat} (hj : j < 64) (hn : n.toNat * n.toNat ≤ j) : (oC (X j) || oC (Y j)) = false := by
  rw [(mask_open hX hj).2.1 hn, (mask_open hY hj).2.1 hn]; rfl
theorem and_tail (hX : isMaskB n X = true) {j : Nat} (hj : j < 64) (hn : n.toNat * n.toNat ≤ j) : (oC (X j) && oC (Y j)) = false := by
  rw [(mask_open hX hj).2.1 hn]; rfl
/-- Unions and intersections of both sides are alike. -/
theorem same_pair {g h e : Bool} {Z Z' : Nat → Nat × Nat} {f : Nat → Bool} (hz : g = true → h = true → e = true → ∀ j, j < 64 → j < n.toNat * n.toNat → cv (Z j) (cond (f j) oneI 0) 0 ∧ cv (Z' j) (cond (f j) oneI 0) 0) (s : Int) : eqW s (pairX n g h e Z) s (pairX n g h e Z') = true := by
  refine eqW_of fun j hj => ?_
  unfold pairX
  cases hb : (g && (h && e)) && Nat.blt j (n.toNat * n.toNat) with
  | false => exact pEq_zero
  | true =>
    simp only [Bool.and_eq_true] at hb
    obtain ⟨⟨hg, hh, he⟩, hl⟩ := hb
    obtain ⟨h1, h2⟩ := hz hg hh he j hj (blt_true hl)
    exact pEq_cv (plus_cv h1) (plus_cv h2)
end

/-! ### Counts -/
theorem cntN_add {p q r t : Nat → Bool} {s : Nat} : ∀ {k : Nat}, (∀ i, i < k → (p (s + i)).toNat + (q (s + i)).toNat = (r (s + i)).toNat + (t (s + i)).toNat) → cntN p s k + cntN q s k = cntN r s k + cntN t s k
  | 0, _ => rfl
  | k + 1, h => by
    have h1 := cntN_add (k := k) fun i hi => h i (by omega)
    have h2 := h k (by omega)
    simp only [cntN]
    omega
theorem cntN_one {p q : Nat → Bool} {s : Nat} : ∀ {k : Nat}, (∀ i, i < k → (p (s + i)).toNat + (q (s + i)).toNat = 1) → cntN p s k + cntN q s k = k
  | 0, _ => rfl
  | k + 1, h => by
    have h1 := cntN_one (k := k) fun i hi => h i (by omega)
    have h2 := h k (by omega)
    simp only [cntN]
    omega
/-- The cells of the first i rows. -/
def sumR (p : Nat → Bool) (n : Nat) : Nat → Nat
  | 0 => 0
  | i + 1 => sumR p n i + cntN p (n * i) n
theorem sumR_le (p : Nat → Bool) (n : Nat) : ∀ i, sumR p n i ≤ i * n
  | 0 => by simp [sumR]
  | i + 1 => by
    have h1 := sumR_le p n i
    have h2 := cntN_le p (n * i) n
    rw [sumR, Nat.succ_mul]
    omega
theorem row_lt {n r i : Nat} (hr : r < n) (hi : i < n) : n * r + i < n * n := by
  have : n * r + n ≤ n * n := by
    rw [← Nat.mul_succ]
    exact Nat.mul_le_mul_left _ hr
  omega
theorem sumR_add {p q r t : Nat → Bool} {n : Nat} (h : ∀ j, j < n * n → (p j).toNat + (q j).toNat = (r j).toNat + (t j).toNat) : ∀ i, i ≤ n → sumR p n i + sumR q n i = sumR r n i + sumR t n i
  | 0, _ => rfl
  | i + 1, hi => by
    have h1 := sumR_add h i (by omega)
    have h2 := cntN_add (p := p) (q := q) (r := r) (t := t) (s := n * i) (k := n) fun k hk => h _ (row_lt (by omega) hk)
    simp only [sumR]
    omega
theorem sumR_one {p q : Nat → Bool} {n : Nat} (h : ∀ j, j < n * n → (p j).toNat + (q j).toNat = 1) : ∀ i, i ≤ n → sumR p n i + sumR q n i = i * n
  | 0, _ => by simp [sumR]
  | i + 1, hi => by
    have h1 := sumR_one h i (by omega)
    have h2 := cntN_one (p := p) (q := q) (s := n * i) (k := n) fun k hk => h _ (row_lt (by omega) hk)
    simp only [sumR, Nat.succ_mul]
    omega
theorem openL_length (n : Int) (X : Nat → Nat × Nat) : (openL n X).length = n.toNat := by simp [openL]
theorem suA_openL {n : Int} (hs : sideB n = true) (X : Nat → Nat × Nat) : ∀ i, i ≤ n.toNat → suA (openL n X) i = Int.ofNat (sumR (fun j => oC (X j)) n.toNat i)
  | 0, _ => rfl
  | i + 1, hi => by
    rw [suA, suA_openL hs X i (by omega), sumR]
    have e : (openL n X).getD i 0 = Int.ofNat (cntN (fun j => oC (X j)) (n.toNat * i) n.toNat) := by
      rw [List.getD_eq_getElem?_getD]
      simp [openL, show i < n.toNat by omega]
    rw [e]
    have h1 := sumR_le (fun j => oC (X j)) n.toNat i
    have h2 := cntN_le (fun j => oC (X j)) (n.toNat * i) n.toNat
    generalize sumR (fun j => oC (X j)) n.toNat i = a at *
    generalize cntN (fun j => oC (X j)) (n.toNat * i) n.toNat = b at *
    have h3 : n.toNat ≤ 8 := by rcases sideB_iff.1 hs with rfl | rfl | rfl | rfl <;> decide
    have h4 : i * n.toNat ≤ 8 * 8 := Nat.mul_le_mul (by omega) h3
    have : IntKind.i64.wrap (Int.ofNat a + Int.ofNat b) = Int.ofNat (a + b) := by rw [wrap64_id] <;> simp <;> omega
    exact this
end Go.Ax

/- The law of masks. -/
namespace Go.Ax
open Go Go.Proofs

theorem twoW_zero {g h e : Bool} (hc : eqQ false (twoW g h e 1 2 0) 0 = true) : g = true ∧ h = true ∧ e = true := by
  cases g <;> cases h <;> cases e <;> first | exact ⟨rfl, rfl, rfl⟩ | (exfalso; revert hc; decide)
theorem twoW_all {α : Type} (a b c : α) : twoW true true true a b c = c := rfl
theorem pre4_ok {c : Cd} (hb : ltQ false 4096 (c.len : Int) = false) (d : D4) : allT (pre4 c d) = true := by
  have h1 : eqW d.s1 d.U d.s1 d.SU = true := same_pair (f := fun j => oC (reX d.X j) || oC (reX d.Y j)) (fun hg hh he j hj hn => by
    have he' : d.n = d.m := by unfold D4.e at he; rwa [eqQ_beq, beq_iff_eq] at he
    have hY : isMaskB d.n (reX d.Y) = true := by rw [he']; exact hh
    exact ⟨un_cv j, sun_cv hg hY hj hn⟩) _
  have h2 : eqW d.s1 d.I d.s1 d.SI = true := same_pair (f := fun j => oC (reX d.X j) && oC (reX d.Y j)) (fun hg hh he j hj hn => by
    have he' : d.n = d.m := by unfold D4.e at he; rwa [eqQ_beq, beq_iff_eq] at he
    have hY : isMaskB d.n (reX d.Y) = true := by rw [he']; exact hh
    exact ⟨in_cv j, beh_cv hg hY hj⟩) _
  unfold pre4
  rw [hb, h1, h2, eqQ_self]
  cases d.g <;> rfl
theorem tot_eq {n : Int} (hs : sideB n = true) (X : Nat → Nat × Nat) : tot n X = Int.ofNat (sumR (fun j => oC (X j)) n.toNat n.toNat) := by
  unfold tot
  rw [openL_length, suA_openL hs X _ (Nat.le_refl _)]
theorem or_and_nat (p q : Bool) : (p || q).toNat + (p && q).toNat = p.toNat + q.toNat := by cases p <;> cases q <;> rfl
theorem not_nat (p : Bool) : p.toNat + (!p).toNat = 1 := by cases p <;> rfl
theorem side_sq {n : Int} (hs : sideB n = true) : n.toNat * n.toNat ≤ 64 ∧ Int.ofNat (n.toNat * n.toNat) = n * n ∧ n.toNat ≤ 8 := by
  rcases sideB_iff.1 hs with rfl | rfl | rfl | rfl <;> decide
theorem isMask_reX {n : Int} {X : Nat → Nat × Nat} (h : isMaskB n X = true) : isMaskB n (reX X) = true := by rw [isMaskB_re]; exact h
theorem mid4_ok (d : D4) : ∃ i, allT (mid4 d i) = true ∧ allT (midN d i) = true := by
  cases hc : eqQ false d.c1 0 with
  | false => exact ⟨false, by simp [mid4, hc, allT], rfl⟩
  | true =>
    obtain ⟨hg, hh, he⟩ := twoW_zero hc
    have he' : d.n = d.m := by unfold D4.e at he; rwa [eqQ_beq, beq_iff_eq] at he
    have hX : isMaskB d.n (reX d.X) = true := hg
    have hYm : isMaskB d.m (reX d.Y) = true := hh
    have hY : isMaskB d.n (reX d.Y) = true := by rw [he']; exact hh
    have hs := mask_side hX
    obtain ⟨h64, hnn, h8⟩ := side_sq hs
    have s1 : d.s1 = d.n := by unfold D4.s1; rw [hg, hh, he]; rfl
    have kn : d.kn = d.n := by unfold D4.kn; rw [hg]; rfl
    have eU : d.U = pairX d.n true true true (unZ (reX d.X) (reX d.Y)) := by unfold D4.U; rw [hg, hh, he]
    have eI : d.I = pairX d.n true true true (inZ (reX d.X) (reX d.Y)) := by unfold D4.I; rw [hg, hh, he]
    obtain ⟨mU, oU⟩ := mask_of (n := d.n) (Z := d.U) (f := fun j => oC (reX d.X j) || oC (reX d.Y j)) hs (fun j hj => by
      rw [eU]; exact pair_cv (fun j _ _ => un_cv j) (fun j hj hn => or_tail hX hY hj hn) hj) (fun j hj hn => or_tail hX hY hj hn)
    obtain ⟨mI, oI⟩ := mask_of (n := d.n) (Z := d.I) (f := fun j => oC (reX d.X j) && oC (reX d.Y j)) hs (fun j hj => by
      rw [eI]; exact pair_cv (fun j _ _ => in_cv j) (fun j hj hn => and_tail hX hj hn) hj) (fun j hj hn => and_tail hX hj hn)
    obtain ⟨mK, oK⟩ := mask_of (n := d.n) (Z := d.K) (f := fun j => Nat.blt j (d.n.toNat * d.n.toNat) && !oC (reX d.X j)) hs (fun j hj => compl_cv hX hj) (fun j hj hn => by
      have : Nat.blt j (d.n.toNat * d.n.toNat) = false := by
        cases hb : Nat.blt j (d.n.toNat * d.n.toNat) with
        | false => rfl
        | true => have := blt_true hb; omega
      rw [this]; rfl)
    have t1 : tot d.n (reX d.X) + tot d.m (reX d.Y) = tot d.s1 (reX d.U) + tot d.s1 (reX d.I) := by
      rw [← he', s1, tot_eq hs, tot_eq hs, tot_eq hs, tot_eq hs]
      have := sumR_add (p := fun j => oC (reX d.U j)) (q := fun j => oC (reX d.I j)) (r := fun j => oC (reX d.X j)) (t := fun j => oC (reX d.Y j)) (n := d.n.toNat) (fun j hj => by
        rw [reX_eq (show j < 64 by omega), reX_eq (show j < 64 by omega), oU j (by omega), oI j (by omega)]
        exact or_and_nat _ _) d.n.toNat (Nat.le_refl _)
      simp only [Int.ofNat_eq_natCast]
      omega
    have t2 : tot d.n (reX d.X) + tot d.kn (reX d.K) = d.n * d.n := by
      rw [kn, tot_eq hs, tot_eq hs, ← hnn]
      have := sumR_one (p := fun j => oC (reX d.X j)) (q := fun j => oC (reX d.K j)) (n := d.n.toNat) (fun j hj => by
        rw [reX_eq (X := d.K) (show j < 64 by omega), oK j (by omega)]
        have : Nat.blt j (d.n.toNat * d.n.toNat) = true := by
          cases hb : Nat.blt j (d.n.toNat * d.n.toNat) with
          | true => rfl
          | false => have := blt_false hb; omega
        rw [this, Bool.true_and]
        exact not_nat _) d.n.toNat (Nat.le_refl _)
      simp only [Int.ofNat_eq_natCast]
      omega
    refine ⟨true, ?_, ?_⟩
    · unfold mid4
      rw [hc, t1, t2, hX, hYm, s1, kn, isMask_reX mU, isMask_reX mI, isMask_reX mK, eqQ_self, eqQ_self, show d.g = true from hg]
      rfl
    · have sq_ok : ∀ (n : Int) (Z : Nat → Nat × Nat), sideB n = true → allT (sq n Z) = true := fun n Z hs => by
        have := (side_sq hs).2.2
        simp [sq, allT, openL_length]; omega
      unfold midN
      simp only [allT_append, s1, kn, ← he', sq_ok _ _ hs, Bool.and_self]
theorem sq_ok {n : Int} (hs : sideB n = true) (Z : Nat → Nat × Nat) : allT (sq n Z) = true := by
  have := (side_sq hs).2.2
  simp [sq, allT, openL_length]; omega
theorem all4_ok (d : D4) : ∃ j, allT (all4 d j) = true ∧ allT (allN d j) = true := by
  have hF : eqW d.s2 d.F d.s2 d.SF = true := by
    have e : d.F = d.SF := by
      have : beZ (reX d.W) (reX d.L) = behX (reX d.W) (reX d.L) := funext fun j => by
        unfold beZ behX
        cases zC (reX d.L j) <;> rfl
      unfold D4.F D4.SF
      rw [this]
    rw [← e]
    refine eqW_of fun j hj => ?_
    unfold D4.F pairX
    cases hb : (d.gw && (d.gl && d.el)) && Nat.blt j (d.wn.toNat * d.wn.toNat) with
    | false => exact pEq_zero
    | true =>
      simp only [Bool.and_eq_true] at hb
      obtain ⟨⟨a, b, hz, _⟩⟩ := ((wave_cv.1 hb.1.1).2 j hj)
      have hz : cv (reX d.W j) a b := ⟨hz, by assumption⟩
      have : ∃ a b, cv (beZ (reX d.W) (reX d.L) j) a b := by
        unfold beZ
        cases zC (reX d.L j) with
        | true => exact ⟨0, 0, cv_zero⟩
        | false => exact ⟨a, b, hz⟩
      obtain ⟨a, b, h⟩ := this
      exact pEq_cv (plus_cv h) (plus_cv h)
  cases hc : eqQ false d.c2 0 with
  | false => exact ⟨false, by unfold all4; rw [eqQ_self, hF, hc]; rfl, rfl⟩
  | true =>
    obtain ⟨hg, hh, he⟩ := twoW_zero hc
    have he' : d.wn = d.ln := by unfold D4.el at he; rwa [eqQ_beq, beq_iff_eq] at he
    have hW : isWaveB d.wn (reX d.W) = true := hg
    have hL : isMaskB d.wn (reX d.L) = true := by rw [he']; exact hh
    have hs := mask_side hL
    obtain ⟨h64, hnn, h8⟩ := side_sq hs
    have s2 : d.s2 = d.wn := by unfold D4.s2; rw [hg, hh, he]; rfl
    have qn : d.qn = d.wn := by unfold D4.qn; rw [hh]; exact he'.symm
    obtain ⟨mQ, oQ⟩ := mask_of (n := d.wn) (Z := complX d.wn (reX d.L)) (f := fun j => Nat.blt j (d.wn.toNat * d.wn.toNat) && !oC (reX d.L j)) hs (fun j hj => compl_cv hL hj) (fun j hj hn => by
      have : Nat.blt j (d.wn.toNat * d.wn.toNat) = false := by
        cases hb : Nat.blt j (d.wn.toNat * d.wn.toNat) with
        | false => rfl
        | true => have := blt_true hb; omega
      rw [this]; rfl)
    have eQ : d.Q = reX (complX d.wn (reX d.L)) := by unfold D4.Q; rw [← he']
    have mQ' : isMaskB d.wn d.Q = true := by rw [eQ]; exact isMask_reX mQ
    have gq : d.gq = true := by unfold D4.gq; rw [qn]; exact mQ'
    have eq : d.eq = true := by unfold D4.eq; rw [qn]; exact eqQ_self _ _
    have c3 : d.c3 = 0 := by unfold D4.c3; rw [hg, gq, eq]; rfl
    have s3 : d.s3 = d.wn := by unfold D4.s3; rw [hg, gq, eq]; rfl
    have eF : d.F = pairX d.wn true true true (beZ (reX d.W) (reX d.L)) := by unfold D4.F; rw [hg, hh, he]
    have eG : d.G = pairX d.wn true true true (beZ (reX d.W) d.Q) := by unfold D4.G; rw [hg, gq, eq]
    have wcv := (wave_cv.1 hW).2
    have blt_of : ∀ j, j < d.wn.toNat * d.wn.toNat → Nat.blt j (d.wn.toNat * d.wn.toNat) = true := fun j hj => by
      cases hb : Nat.blt j (d.wn.toNat * d.wn.toNat) with
      | true => rfl
      | false => have := blt_false hb; omega
    have blt_no : ∀ j, d.wn.toNat * d.wn.toNat ≤ j → Nat.blt j (d.wn.toNat * d.wn.toNat) = false := fun j hj => by
      cases hb : Nat.blt j (d.wn.toNat * d.wn.toNat) with
      | false => rfl
      | true => have := blt_true hb; omega
    have tailF : ∀ j, d.wn.toNat * d.wn.toNat ≤ j → d.F j = (0, 0) ∧ d.G j = (0, 0) := fun j hj => by
      rw [eF, eG, pair_true rfl rfl rfl, pair_true rfl rfl rfl, blt_no j hj]
      exact ⟨rfl, rfl⟩
    -- the cells of both parts
    have parts : ∀ j, j < 64 → j < d.wn.toNat * d.wn.toNat → ∀ a b, cv (reX d.W j) a b → cv (d.F j) (cond (oC (reX d.L j)) a 0) (cond (oC (reX d.L j)) b 0) ∧ cv (d.G j) (cond (oC (reX d.L j)) 0 a) (cond (oC (reX d.L j)) 0 b) := fun j hj hn a b hz => by
      have z1 := (mask_open hL hj).2.2
      have z2 : zC (d.Q j) = oC (reX d.L j) := by
        rw [(mask_open mQ' hj).2.2, eQ, reX_eq hj, oQ j hj, blt_of j hn]
        simp
      constructor
      · rw [eF, pair_true rfl rfl rfl, blt_of j hn]
        refine plus_cv (z := beZ (reX d.W) (reX d.L) j) ?_
        unfold beZ
        rw [z1]
        cases oC (reX d.L j) with
        | true => exact hz
        | false => exact cv_zero
      · rw [eG, pair_true rfl rfl rfl, blt_of j hn]
        refine plus_cv (z := beZ (reX d.W) d.Q j) ?_
        unfold beZ
        rw [z2]
        cases oC (reX d.L j) with
        | true => exact cv_zero
        | false => exact hz
    have waveF : isWaveB d.wn d.F = true ∧ isWaveB d.wn d.G = true := by
      have key : ∀ j, j < 64 → (∃ a b, cv (d.F j) a b) ∧ (∃ a b, cv (d.G j) a b) := fun j hj => by
        rcases Nat.lt_or_ge j (d.wn.toNat * d.wn.toNat) with hn | hn
        · obtain ⟨⟨a, b, hz⟩, _⟩ := wcv j hj
          obtain ⟨h1, h2⟩ := parts j hj hn a b hz
          exact ⟨⟨_, _, h1⟩, ⟨_, _, h2⟩⟩
        · rw [(tailF j hn).1, (tailF j hn).2]
          exact ⟨⟨0, 0, cv_zero⟩, ⟨0, 0, cv_zero⟩⟩
      exact ⟨wave_cv.2 ⟨sideB_iff.1 hs, fun j hj => ⟨(key j hj).1, fun hn => by rw [(tailF j hn).1]; exact cv_zero⟩⟩,
        wave_cv.2 ⟨sideB_iff.1 hs, fun j hj => ⟨(key j hj).2, fun hn => by rw [(tailF j hn).2]; exact cv_zero⟩⟩⟩
    have sumc : ∀ j, j < 64 → ∃ a b, cv (addZ (d.wn.toNat * d.wn.toNat) (reX d.F) (reX d.G) j) a b ∧ cv (d.W j) a b ∧ (d.wn.toNat * d.wn.toNat ≤ j → a = 0 ∧ b = 0) := fun j hj => by
      obtain ⟨⟨a, b, hz⟩, ht⟩ := wcv j hj
      have hzW : cv (d.W j) a b := by rw [reX_eq hj] at hz; exact hz
      unfold addZ
      rcases Nat.lt_or_ge j (d.wn.toNat * d.wn.toNat) with hn | hn
      · refine ⟨a, b, ?_, hzW, fun h => by omega⟩
        rw [ble_blt, blt_of j hn, reX_eq hj, reX_eq hj]
        obtain ⟨h1, h2⟩ := parts j hj hn a b hz
        show cv (fadd .f32 (d.F j).1 (d.G j).1, fadd .f32 (d.F j).2 (d.G j).2) a b
        cases ho : oC (reX d.L j) with
        | true =>
          rw [ho] at h1 h2
          exact ⟨add_zero_right h1.1 h2.1, add_zero_right h1.2 h2.2⟩
        | false =>
          rw [ho] at h1 h2
          exact ⟨add_zero_left h2.1 h1.1, add_zero_left h2.2 h1.2⟩
      · have h0 := ht hn
        obtain ⟨rfl, rfl⟩ := hz.inj h0
        refine ⟨0, 0, ?_, hzW, fun _ => ⟨rfl, rfl⟩⟩
        rw [ble_blt, blt_no j hn]
        exact cv_zero
    have waveZ : isWaveB d.wn (addZ (d.wn.toNat * d.wn.toNat) (reX d.F) (reX d.G)) = true := wave_cv.2 ⟨sideB_iff.1 hs, fun j hj => by
      obtain ⟨a, b, h1, _, h3⟩ := sumc j hj
      refine ⟨⟨a, b, h1⟩, fun hn => ?_⟩
      obtain ⟨rfl, rfl⟩ := h3 hn
      exact h1⟩
    have hA : eqW d.s2 d.A d.wn d.W = true := by
      rw [s2]
      refine eqW_of fun j hj => ?_
      obtain ⟨a, b, h1, h2, _⟩ := sumc j hj
      have hp := plus_cv h1
      unfold D4.A addX
      rw [s2]
      exact pEq_cv hp h2
    refine ⟨true, ?_, ?_⟩
    · unfold all4
      rw [eqQ_self, hF, hc, c3, hA, show d.gl = true from hh]
      rfl
    · unfold allN
      rw [s2, s3, isWaveB_re, isWaveB_re, waveF.1, waveF.2, waveZ, eqQ_self]
      rfl
theorem end4_ok (d : D4) : ∃ k, allT (end4 d k) = true ∧ allT (endN4 d k) = true ∧ ∀ (σ : List (Nat × Nat)) (x : Value), Rel σ (last4 d k) x → Rel σ (.b false true) x := by
  have hC : eqW d.sc d.CX d.sc d.CX = true := by
    refine eqW_of fun j hj => ?_
    unfold D4.CX
    cases hg : isMaskB d.cn (reX d.C) with
    | true =>
      have := compl_cv hg hj
      exact pEq_cv this this
    | false =>
      have e : complX d.cn (reX d.C) j = (0, 0) := by unfold complX; rw [hg]; rfl
      rw [e]; exact pEq_zero
  cases hg : d.go with
  | false =>
    refine ⟨false, ?_, rfl, fun σ x r => by cases r; exact .b _⟩
    unfold end4
    rw [hg, eqQ_self, hC]; rfl
  | true =>
    have hs := mask_side (show isMaskB d.on (reX d.O) = true from hg)
    refine ⟨true, ?_, ?_, fun σ x r => ?_⟩
    · unfold end4
      rw [hg, eqQ_self, hC]; rfl
    · unfold endN4
      rw [allT_append, sq_ok hs]; rfl
    · unfold last4 at r
      rw [beq_self_eq_true] at r
      exact r
theorem law4_ok (c : Cd) (hc : goodB c = true ∨ 4096 < c.len) : ∃ H', CallOK Try.prog 4 [.sl false 0 c.off c.len 0] [codeB c false] (.b false true) H' := by
  cases hb : ltQ false 4096 (c.len : Int) with
  | true =>
    obtain ⟨H', k⟩ := call_of_path tabL4_sound (path4_big c) (by rw [hb]; rfl) rfl
    exact ⟨H', k.weaken fun σ x r => by cases r; exact .b _⟩
  | false =>
    have hg : goodB c = true := by
      rcases hc with h | h
      · exact h
      · rw [ltQ_eq] at hb
        simp at hb; omega
    have hk : okB c c.off c.len = true := by simp [okB, hg]
    obtain ⟨i, hi, hi'⟩ := mid4_ok (d4 c)
    obtain ⟨j, hj, hj'⟩ := all4_ok (d4 c)
    obtain ⟨k, hk1, hk2, hk3⟩ := end4_ok (d4 c)
    obtain ⟨H', h⟩ := call_of_path tabL4_sound (path4 i j k c) (by
      simp only [allT_append, pre4_ok hb, hi, hj, hk1, Bool.and_self]) (by
      unfold nds4
      rw [hk]
      simp only [allT_append, hi', hj', hk2, Bool.and_self]
      rfl)
    exact ⟨H', h.weaken hk3⟩
end Go.Ax

/- From the calls of a law on every text of bytes to the given statement. -/
namespace Go.Proofs.Ytdcjjibekhcplaa
open Go.ChangeShapes Go.WideShapes Go.ChangeAt Go.RowKit Go.Ax

theorem Try.own : ownKnob Try.prog.godebug = none := by kernel_rfl
theorem Try.laidOut : laidOutB Try.prog = true := by kernel_rfl
theorem cells5 : Try.prog.cellsOf 5 = 1 := by kernel_rfl
/-- What is to be shown of a law: it comes back with true from every text of bytes. -/
def LawOK (f : FuncId) : Prop := ∀ c : Cd, goodB c = true ∨ 4096 < c.len → ∃ H', CallOK Try.prog f [.sl false 0 c.off c.len 0] [codeB c false] (.b false true) H'
theorem law_calls {f : FuncId} (h : LawOK f) (c : Cd) (hc : goodB c = true ∨ 4096 < c.len) {σ : List (Nat × Nat)} {W : World} (s : Sim σ [codeB c false] W) {v : Value} (hv : Rel σ (.sl false 0 c.off c.len 0) v) :
    Calls Try.prog f #[v] W fun e W' => e = .returned (.bool true) ∧ Below W.heap.size W W' := by
  obtain ⟨H', k⟩ := h c hc
  refine (k σ W #[v] s (.cons hv .nil)).mono ?_
  rintro e W' ⟨rv, rfl, σ', r1, s1, F⟩
  cases r1
  refine ⟨rfl, F.os, F.tape, F.output, F.size, fun b hb => F.old b hb fun i z hr => ?_⟩
  match i with
  | 0 => simp [getB, codeB, AB.rw] at hr
  | i + 1 => simp [getB, AB.rw] at hr
theorem sim_code {W : World} {b z : Nat} {c : Cd} {cs : Array Value} {e : TypeId} {fr : Nat × Nat} (h : W.heap[b]? = some (.cells cs e fr)) (hz : cs.size = z) (hx : ∀ (j : Nat) (x : Int), c.bytes[j]? = some x → cs[c.off + j]? = some (.int .u8 x)) : Sim [(b, z)] [codeB c false] W := by
  refine ⟨rfl, fun i b' z' hb => ?_, fun i j b' z1 z2 hi hj hr _ => ?_⟩
  · match i, hb with
    | 0, hb => cases hb; exact ⟨cs, e, fr, h, hx, hz⟩
    | i + 1, hb => simp at hb
  · match i, hi with
    | 0, _ => simp [getB, codeB, AB.rw] at hr
    | i + 1, hi => simp at hi
theorem wf_u8 {n : Int} (h : (Lit.int .u8 n).wf = true) : 0 ≤ n ∧ n < 256 := by
  simp [Lit.wf, IntKind.min, IntKind.max, IntKind.signed, IntKind.bits] at h
  omega
/-- A slice of bytes that can be read, as a text of bytes. -/
theorem law_any {H : Type} {enc : TypeId × Value → H} {f : FuncId} (h : LawOK f) {W : World} (hsh : W.ShapedOpen Try.prog) {v : Value} {fuel : Nat} {x : DataW H × List MemPlace}
    (hf : DataW.trod enc Try.prog W 0 (fun _ => true) true fuel 22 v.cells.toList = some x) (hv : ∃ a len cap, v = .slice a len cap) : Calls Try.prog f #[v] W fun e W' => e = .returned (.bool true) ∧ Below W.heap.size W W' := by
  have nil_like : ∀ a : Option Addr, v = .slice a 0 0 → Calls Try.prog f #[v] W fun e W' => e = .returned (.bool true) ∧ Below W.heap.size W W' := fun a ha => by
    obtain ⟨cs, hcs, _, _⟩ := hsh.1 0 #[.bool false] 4 (of_decide_eq_true (by kernel_rfl)) (by kernel_rfl)
    refine law_calls h ⟨[], 0, 0⟩ (.inl rfl) (σ := [(0, cs.size)]) (sim_code hcs rfl fun j x hx => by simp at hx) ?_
    rw [ha]; exact .slz
  obtain ⟨a0, len0, cap0, rfl⟩ := hv
  rcases open_ints Try.underlying22 Try.underlying5 cells5 hf with ⟨hcs, _⟩ | ⟨a, len, cap, zs, hcs, _, hl, _, hz, _, hcell, hwz⟩
  · simp [Value.cells] at hcs
    obtain ⟨rfl, rfl, rfl⟩ := hcs
    exact nil_like _ rfl
  · simp [Value.cells] at hcs
    obtain ⟨rfl, rfl, rfl⟩ := hcs
    simp only [if_true] at hz
    by_cases h0 : cap0 = 0
    · have : len0 = 0 := by omega
      subst h0; subst this
      exact nil_like _ rfl
    · obtain ⟨b, off, spot⟩ := a
      have hspot : spot = none := by simpa [Addr.add] using World.cell?_spot (hcell 0 (by omega))
      subst hspot
      have hcell' : ∀ j, j < zs.length → W.cell? ⟨b, off + j, none⟩ = some (.int .u8 (zs.getD j 0)) := fun j hj => by
        have := hcell j hj
        rwa [addr_add] at this
      have h1 := hcell' 0 (by omega)
      have hblk : ∃ cs e fr, W.heap[b]? = some (.cells cs e fr) := by
        unfold World.cell? at h1
        simp only at h1
        split at h1 <;> first | exact ⟨_, _, _, by assumption⟩ | (cases h1; done)
      obtain ⟨cs, e, fr, hcs⟩ := hblk
      have hx : ∀ (j : Nat) (x : Int), zs[j]? = some x → cs[off + j]? = some (.int .u8 x) := fun j x hj => by
        have hjl : j < zs.length := (List.getElem?_eq_some_iff.1 hj).1
        have := hcell' j hjl
        simp only [World.cell?, hcs] at this
        rw [List.getD_eq_getElem?_getD, hj] at this
        exact this
      have hoff : off < cs.size := by
        have := hx 0 (zs.getD 0 0) (by rw [List.getD_eq_getElem?_getD]; cases hz0 : zs[0]? with
          | none => rw [List.getElem?_eq_none_iff] at hz0; omega
          | some y => rfl)
        rcases Nat.lt_or_ge off cs.size with h' | h'
        · exact h'
        · rw [Nat.add_zero, Array.getElem?_eq_none h'] at this; cases this
      refine law_calls h ⟨zs, off, len0⟩ ?_ (σ := [(b, cs.size)]) (sim_code hcs rfl hx) (.sl (b := b) (c := cs.size) (by rfl) hl (show off + cap0 * 0 ≤ cs.size by omega))
      by_cases hb : 4096 < len0
      · exact .inr hb
      · refine .inl ?_
        simp only [goodB, Bool.and_eq_true, decide_eq_true_eq, List.all_eq_true]
        refine ⟨⟨by omega, by omega⟩, fun n hn => ?_⟩
        exact wf_u8 (hwz n hn)
end Go.Proofs.Ytdcjjibekhcplaa

/- The statement, out of the calls of the law. -/
namespace Go.Proofs.Ytdcjjibekhcplaa
open Go.ChangeShapes Go.WideShapes Go.ChangeAt Go.RowKit Go.Ax

set_option maxRecDepth 100000 in
theorem masks_lifted (hlaw : LawOK 4) (os : Os) (started : os.Started) (H : Type) (enc : TypeId × Value → H) :
    ReturnsInHanded {} Try.checked os 4 .any (Rows.fnMasksSpec.pre6 enc Try.prog Try.f4 Rows.fnMasksRow.domain false) (Rows.fnMasksSpec.post enc Try.prog Try.f4 false true false false) := by
  refine returnsInHanded_of_change_shaped (C := Try.checked) Try.own started (by kernel_rfl) Try.func4
    (ChangeSpec.witness6 (enc := enc) (C := Try.checked) false ⟨#[.cells #[.int .u8 0] 5], #[.slice (some ⟨(World.settled Try.prog os).heap.size, 0, none⟩) 1 1], []⟩ 8 (by kernel_rfl) (by kernel_rfl) (by kernel_rfl) (by kernel_rfl)) ?_
  intro W base args ds gs before hval0 hW _ _ hsh _
  have hval : ∀ (j : Nat) t v, Try.f4.params[j]? = some t → args[j]? = some v → Value.okWide Try.prog W .any base t v := hval0
  have hW' := hW
  obtain ⟨p, q, hA0, hV, rfl, _, _⟩ := hW
  have hA : DataW.TrodAll enc Try.prog W 0 (fun _ => true) true Try.f4.params.toList args.toList ds p := hA0
  rw [Try.params4] at hA hval
  obtain ⟨v0, d0, rfl, rfl, h0⟩ := trodAll_one hA
  obtain ⟨rfl, rfl⟩ := trodVars_none hV
  have h0k := h0
  obtain ⟨fuel, hf⟩ := h0
  clear hA0 hval0
  simp only [List.append_nil] at hW'
  have hlt : ∀ x ∈ p, x.block < W.heap.size := fun x hx => by simpa using hW'.lt x hx
  have hargs : ∀ (W' : World), Below W.heap.size W W' → DataW.Trod enc Try.prog W' 0 (fun b => decide (b < W.heap.size)) true 22 v0 d0 p :=
    fun W' hn => Below.trod Try.laidOut (by kernel_rfl) (of_decide_eq_true (by kernel_rfl)) h0k hn hlt
  refine (law_any hlaw hsh hf (okWide_slice Try.underlying22 (hval 0 22 v0 rfl rfl))).mono fun e W' ⟨he, hn⟩ => ?_
  subst he
  exact ⟨_, rfl, ⟨_, _, _, [], _, [], hW', trodAll_mk1 (shut_bool Try.underlying4 true), trodAll_mk1 (hargs _ hn), rfl, hn.frame _, fun h => by cases h⟩⟩
theorem masks_said (hlaw : LawOK 4) : Rows.FnMasksSaid :=
  OpenClaim.holds_of_wide 4 Try.f4 rfl rfl rfl rfl rfl rfl rfl ⟨rfl, rfl, rfl, rfl, rfl⟩ rfl rfl rfl rfl rfl (by kernel_rfl) Try.func4 (by kernel_rfl)
    (of_decide_eq_true (by kernel_rfl)) (by unfold Func.isWrapper; rw [if_neg (by decide +kernel)]; exact ⟨rfl, rfl⟩)
    (fun os started H enc _ => masks_lifted hlaw os started H enc)
end Go.Proofs.Ytdcjjibekhcplaa
