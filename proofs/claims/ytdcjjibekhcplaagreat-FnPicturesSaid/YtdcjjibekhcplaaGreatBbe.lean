/- impl's halftone: the function. -/
import Derived.Test.YtdcjjibekhcplaaGreatBbd
namespace Go.Ax
open Go Go.Proofs

theorem boxes2_way {P : Program} {T : Table} {ops : Array Oper} (hT : SoundT P T) (hf : P.follows .mixedOrders = true) (m f e0 : Nat) (es : List Nat) (hm : m ≤ ops.size) (hfm : f < m) (hem : ∀ e ∈ e0 :: es, e < m ∧ e ≠ f) (hnd : (e0 :: es).Nodup) (hok : drawOK ops m = true) (hbx : boxes2OK ops m f e0 es = true) {id : Nat} {k : List Item} {t t' : List AV} {H H' : List AB} {M nd : List Bool}
    (hz : ∀ e ∈ e0 :: es, (zerB P ops e).live = true ∧ lowB H.length (zerB P ops e) = true) (hlow : lowH H.length H = true) {B1 : AB} (hB1 : B1.live = true ∧ lowB H.length B1 = true) {R : Res}
    (hR : R = runV P T (mkOf H.length (e0 :: es)) f 0 (ops.toList.take m) t H (zerB P ops e0) [] fun t B nd => .stop [] t [B] nd) (h1 : (R.isStop, R.todo, R.HOf) = (true, [], [B1]))
    (h : lfM M (runOps P T ops (ops.toList.drop m) R.tOf (H ++ B1 :: es.map (zerB P ops)) R.nds fun t H nd => .stop [] t H nd) = (true, [], t'.map AV.bare, H', nd)) (hn : allT nd = true) : Reach P (.code (.region id ops true) :: k) t H k t' H' := by
  simp only [Prod.mk.injEq] at h1
  obtain ⟨b1, b2, b3⟩ := h1
  simp only [lfM, Prod.mk.injEq] at h
  obtain ⟨a1, a2, a3, a4, a5⟩ := h
  have hs := Res.isStop_eq a1
  have hsR := Res.isStop_eq b1
  have hr := boxes2_reach (k := k) (id := id) hT hf m f e0 es hm hfm hem hnd hok hbx (t := t) (H := H) hz hlow hB1 (t1 := R.tOf) (nd1 := R.nds) (t' := _) (H' := _) (nd := _) (by rw [← hR]; conv => { lhs; rw [hsR] }; rw [b2, b3]; rfl) (by conv => { lhs; rw [hs] }; rw [a2]; rfl) (by rw [a5]; exact hn)
  rw [a4] at hr
  exact (hr.weak (blur_eqv M _)).weak (eqv_of_bare a3)
noncomputable def tabH2 (G : HG) : Table := tabOf (jdeep Tryz.prog ((151, row151 G) :: rowsPc) [125, 115] 4000 10)
theorem tabH2_sound : SoundT Tryz.prog (tabH2 hiG) := jdeep_sound (fun p hp => by
  rcases List.mem_cons.1 hp with rfl | hp
  · exact row151_at
  · exact rowsPc_at p hp) 10
noncomputable def hfC : Code := Tryz.f121.body.getD .skip
noncomputable def hf0 (n : Int) (X : Nat → Nat) (t : Nat) : Res := jupto Tryz.prog tabPc (atReg 5) 400 [.code hfC] (pvT true n X :: .f false .f32 t :: undefs 34) []
def hfB (n : Int) (X : Nat → Nat) : AB := .cells true (.lit (.i true .i64 n :: (List.range 64).map (fx X)))
def hfH3 (n : Int) (X : Nat → Nat) (t : Nat) : List AB := [hfB n X, .cells true (.lit [.f false .f32 t]), wzero 0]
def hfH6 (n : Int) (X : Nat → Nat) (t : Nat) : List AB := [hfB n X, .cells true (.lit [.f false .f32 t]), wzero 0, .cells true (.lit [.i true .i64 n]), fcells X, .cells true (.lit [.i true .i64 0])]
def hfT3 : List AV := tmpsOf 36 [(2, .p true 0 0), (3, .p true 1 0), (4, .p true 2 0)]
def hfM3 : List Bool := maskOf 36 [(2, .any), (3, .any), (4, .any)]
def hfT6 : List AV := tmpsOf 36 [(2, .p true 0 0), (3, .p true 1 0), (4, .p true 2 0), (6, .p true 3 0), (7, .p true 4 0), (8, .p true 5 0)]
def hfM6 : List Bool := maskOf 36 [(2, .any), (3, .any), (4, .any), (6, .any), (7, .any), (8, .any)]
noncomputable def hfL : List Item := ((hf0 1 (fun _ => 0) 0).at [false, false]).todo
noncomputable def hfOps : Array Oper := match hfL with
  | .code (.region _ ops _) :: _ => ops
  | _ => #[]
noncomputable def hfK : List Item := hfL.drop 1
theorem hfL_eq : hfL = .code (.region 5 hfOps true) :: hfK := by kernel_rfl
section
variable (N : Nat) (n : Int) (hn : (N, n) ∈ doNs) (X : Nat → Nat) (t : Nat)
include hn
theorem hf0_ok : ((condsP (hf0 n X t) [true], endV Tryz.prog Tryz.f121.results.toList ((hf0 n X t).at [true])), (condsP (hf0 n X t) [false, true], endV Tryz.prog Tryz.f121.results.toList ((hf0 n X t).at [false, true])), (condsP (hf0 n X t) [false, false], lfM hfM3 ((hf0 n X t).at [false, false]))) =
    (([pBad n (reP X) t], some (some ([.agg (.i true .i64 0 :: List.replicate 64 (.c true .f32 0 0)), .i true .i64 1], []), [])), ([!pBad n (reP X) t, fle .f32 t 0], some (some ([.agg (.i true .i64 0 :: List.replicate 64 (.c true .f32 0 0)), .i true .i64 2], []), [])),
      ([!pBad n (reP X) t, !fle .f32 t 0], (true, hfL, hfT3.map AV.bare, hfH3 n X t, []))) := by
  simp only [doNs, List.mem_cons, Prod.mk.injEq, List.not_mem_nil, or_false] at hn
  rcases hn with ⟨rfl, rfl⟩ | ⟨rfl, rfl⟩ | ⟨rfl, rfl⟩ | ⟨rfl, rfl⟩ <;> kernel_rfl
noncomputable def hf5 (n : Int) (X : Nat → Nat) (t : Nat) : Res := runV Tryz.prog tabPc (mkOf 3 [4, 5, 6]) 7 0 (hfOps.toList.take 8) hfT3 (hfH3 n X t) (zerB Tryz.prog hfOps 4) [] fun t B nd => .stop [] t [B] nd
noncomputable def hf6 (n : Int) (X : Nat → Nat) (t : Nat) : Res := runOps Tryz.prog tabPc hfOps (hfOps.toList.drop 8) (hf5 n X t).tOf (hfH3 n X t ++ .cells true (.lit [.i true .i64 n]) :: [5, 6].map (zerB Tryz.prog hfOps)) (hf5 n X t).nds fun t H nd => .stop [] t H nd
theorem hf5_ok : ((hf5 n X t).isStop, (hf5 n X t).todo, (hf5 n X t).HOf) = (true, [], [.cells true (.lit [.i true .i64 n])]) := by
  simp only [doNs, List.mem_cons, Prod.mk.injEq, List.not_mem_nil, or_false] at hn
  rcases hn with ⟨rfl, rfl⟩ | ⟨rfl, rfl⟩ | ⟨rfl, rfl⟩ | ⟨rfl, rfl⟩ <;> kernel_rfl
theorem hf6_ok : lfM hfM6 (hf6 n X t) = (true, [], hfT6.map AV.bare, hfH6 n X t, []) := by
  simp only [doNs, List.mem_cons, Prod.mk.injEq, List.not_mem_nil, or_false] at hn
  rcases hn with ⟨rfl, rfl⟩ | ⟨rfl, rfl⟩ | ⟨rfl, rfl⟩ | ⟨rfl, rfl⟩ <;> kernel_rfl
noncomputable def hfE (G : HG) (n : Int) (X : Nat → Nat) (t : Nat) : Res := jupto Tryz.prog (tabH2 G) (atReg 8) 400 hfK hfT6 (hfH6 n X t)
noncomputable def hfL8 : List Item := ((hfE hiG 1 (fun _ => 0) 0).at [true]).todo ++ []
noncomputable def hfOps8 : Array Oper := match hfL8 with
  | .code (.region _ ops _) :: _ => ops
  | _ => #[]
noncomputable def hfK8 : List Item := hfL8.drop 1
def hfT8 : List AV := tmpsOf 36 [(4, .p true 2 0), (8, .p true 5 0)]
def hfM8 : List Bool := maskOf 36 [(4, .any), (8, .any)]
def hfH8 (n : Int) (X S : Nat → Nat) (t : Nat) (c : Int) : List AB := [hfB n X, .cells true (.lit [.f false .f32 t]), wzero 0, .cells true (.lit [.i true .i64 n]), fcells S, .cells true (.lit [.i false .i64 c])]
theorem hfE_ok (G : HG) : ((condsP (hfE G n X t) [true], lfK 6 hfM8 ((hfE G n X t).at [true])), (condsP (hfE G n X t) [false], endV Tryz.prog Tryz.f121.results.toList ((hfE G n X t).at [false]))) =
    (([!eqQ false (G.c n t (reP X) 0) 0], (true, hfL8, hfT8.map AV.bare, hfH8 n X (G.s n t (reP X)) t (G.c n t (reP X) 0), [])),
      ([!!eqQ false (G.c n t (reP X) 0) 0], some (some ([.agg (waveL n (G.y n t (reP X))), .i true .i64 0], []), []))) := by
  simp only [doNs, List.mem_cons, Prod.mk.injEq, List.not_mem_nil, or_false] at hn
  rcases hn with ⟨rfl, rfl⟩ | ⟨rfl, rfl⟩ | ⟨rfl, rfl⟩ | ⟨rfl, rfl⟩ <;> kernel_rfl
end
theorem hfL8_eq : hfL8 = .code (.region 8 hfOps8 true) :: hfK8 := by kernel_rfl
def hfT9 (c : Int) : List AV := tmpsOf 36 [(4, .p true 2 0), (5, .i false .i64 c)]
def hfM9 : List Bool := maskOf 36 [(4, .any), (5, .any)]
noncomputable def hf8 (n : Int) (X S : Nat → Nat) (t : Nat) (c : Int) : Res := runM Tryz.prog tabPc [0] 2 (hfOps8.toList.take 3) hfT8 (hfH8 n X S t c) [] fun t H nd => runOps Tryz.prog tabPc hfOps8 (hfOps8.toList.drop 3) t H nd fun t H nd => .stop [] t H nd
theorem hf8_ok (n : Int) (X S : Nat → Nat) (t : Nat) (c : Int) : lfM hfM9 (hf8 n X S t c) = (true, [], (hfT9 c).map AV.bare, hfH8 n X S t c, []) := by kernel_rfl
theorem hf8_mix : Nat.ble 3 hfOps8.size = true ∧ drawOK hfOps8 3 = true ∧ effOK [0] hfOps8 3 = true := by refine ⟨?_, ?_, ?_⟩ <;> kernel_rfl
noncomputable def hf9 (n : Int) (X S : Nat → Nat) (t : Nat) (c : Int) : Res := jupto Tryz.prog tabPc (atCut 99) 400 hfK8 (hfT9 c) (hfH8 n X S t c)
theorem hf9_ok (n : Int) (X S : Nat → Nat) (t : Nat) (c : Int) : (condsP (hf9 n X S t c) [], endV Tryz.prog Tryz.f121.results.toList ((hf9 n X S t c).at [])) = ([], some (some ([.agg (.i true .i64 0 :: List.replicate 64 (.c true .f32 0 0)), .i false .i64 c], []), [])) := by kernel_rfl
end Go.Ax

/- impl's halftone: calls. -/
namespace Go.Ax
open Go Go.Proofs

noncomputable def htK (n : Int) (X : Nat → Nat) (t : Nat) : Int := cond (pBad n X t) 1 (cond (fle .f32 t 0) 2 (hiC n.toNat t X 0 (n.toNat * n.toNat)))
noncomputable def htW (n : Int) (X : Nat → Nat) (t : Nat) (j : Nat) : Nat × Nat := match eqQ false (htK n X t) 0 with
  | true => hiY n.toNat t X (n.toNat * n.toNat) j
  | false => (0, 0)
noncomputable def htV (n : Int) (X : Nat → Nat) (t : Nat) : AV := .tup [wv (cond (eqQ false (htK n X t) 0) n 0) (htW n X t), .i false .i64 (htK n X t)]
theorem hiS_re {n t : Nat} {X : Nat → Nat} : ∀ k, k ≤ 64 → ∀ j, j < 64 → hiS n t (reP X) k j = hiS n t X k j
  | 0, _, j, hj => reP_eq hj
  | k + 1, hk, j, hj => by
    simp only [hiS, htS]
    rw [hiS_re k (by omega) j hj, hiS_re k (by omega) k (by omega)]
theorem hiC_re {n t : Nat} {X : Nat → Nat} {c : Int} : ∀ k, k ≤ 64 → hiC n t (reP X) c k = hiC n t X c k
  | 0, _ => rfl
  | k + 1, hk => by
    simp only [hiC]
    rw [hiC_re k (by omega), hiS_re k (by omega) k (by omega)]
theorem hiY_re {n t : Nat} {X : Nat → Nat} : ∀ k, k ≤ 64 → hiY n t (reP X) k = hiY n t X k
  | 0, _ => rfl
  | k + 1, hk => by
    simp only [hiY]
    rw [hiY_re k (by omega), hiS_re k (by omega) k (by omega)]
theorem hf_call {n : Int} {X : Nat → Nat} {t : Nat} {u : List AV} {H' : List AB} {a : List AV} {l : Bool} {k : Int} (he : Ends Tryz.prog [.code hfC] (pvT true n X :: .f false .f32 t :: undefs 34) [] u H') (hr : resV Tryz.prog u H' Tryz.f121.results.toList = some ([.agg a, .i l .i64 k], [])) (ha : belowL 0 a = true) (H : List AB) :
    CallOK Tryz.prog 121 [pv n X, .f false .f32 t] H (.tup [.agg a, .i l .i64 k]) H := by
  have h := call_of_ends (args := [pvT true n X, .f false .f32 t]) (m := []) Tryz.func121 (rfl : Tryz.f121.body = some hfC) he hr rfl
  exact (h.lift (by show below 0 (.tup [.agg a, .i l .i64 k]) = true; simp [below, belowL, ha]) (by simp [belowL, below, pvT_low]) H rfl).deep (args' := [pv n X, .f false .f32 t]) rfl
theorem zeros_low : belowL 0 (.i true .i64 0 :: List.replicate 64 (.c true .f32 0 0)) = true := by kernel_rfl
theorem n121 (n : Int) (X : Nat → Nat) (t : Nat) : joinR 0 (tabPn 121 [pvT false n X, .f false .f32 t] [] [] fun v H nd => .ret v H nd) = some (zeroV 1, [!sideB n]) := by kernel_rfl
theorem waveL_low (n : Int) (X : Nat → Nat × Nat) : belowL 0 (waveL n X) = true := by
  have : ∀ (l : List Nat), belowL 0 (l.map (cx X)) = true := fun l => by
    induction l with
    | nil => rfl
    | cons j l ih => simp [belowL, below, cx, ih]
  simp only [waveL, belowL, below, Bool.true_and]
  exact this _
theorem hf_zero {n : Int} {X : Nat → Nat} {t : Nat} {l : Bool} {k : Int} (hk : htK n X t = k) (h0 : eqQ false k 0 = false) {σ : List (Nat × Nat)} {x : Value} (r : Rel σ (.tup [.agg (.i true .i64 0 :: List.replicate 64 (.c true .f32 0 0)), .i l .i64 k]) x) : Rel σ (htV n X t) x := by
  subst hk
  refine tup2_weak (l' := waveL (cond (eqQ false (htK n X t) 0) n 0) (htW n X t)) (c := .i l .i64 (htK n X t)) (c' := .i false .i64 (htK n X t)) ?_ rfl r
  have e : htW n X t = fun _ => (0, 0) := funext fun j => by unfold htW; rw [h0]
  rw [h0, e]
  rfl
theorem ht_ok (n : Int) (X : Nat → Nat) (t : Nat) (H : List AB) : CallOK Tryz.prog 121 [pv n X, .f false .f32 t] H (htV n X t) H := by
  cases hs : sideB n with
  | false =>
    have hK : htK n X t = 1 := by unfold htK pBad; rw [noSide_pic hs]; rfl
    refine ((call_of_join tabPn_sound (n121 n X t) (by simp [allT, hs]) (by simp [belowL, below, pvT_low]) H).deep (args' := [pv n X, .f false .f32 t]) rfl).weaken fun σ x r => ?_
    exact hf_zero (l := true) hK rfl r
  | true =>
    obtain ⟨hm, hd⟩ := side_mem hs
    obtain ⟨hN1, hN2⟩ := side_N hs
    have h0 := hf0_ok _ n hd X t
    simp only [Prod.mk.injEq] at h0
    obtain ⟨⟨a1, a2⟩, ⟨b1, b2⟩, c1, c2⟩ := h0
    have hP : pBad n (reP X) t = pBad n X t := by unfold pBad; rw [isPicB_re]
    rw [hP] at a1 b1 c1
    cases hb : pBad n X t with
    | true =>
      obtain ⟨u, H', e1, e2⟩ := endV_ends (stop := atReg 5) (n := 400) (L := [.code hfC]) (p := [true]) (t0 := pvT true n X :: .f false .f32 t :: undefs 34) (H0 := []) tabPc_sound (by
        show allT (condsP (hf0 n X t) [true]) = true
        rw [a1, hb]; rfl) a2 rfl
      exact (hf_call e1 e2 zeros_low H).weaken fun σ x r => hf_zero (by unfold htK; rw [hb]; rfl) rfl r
    | false =>
      cases hl : fle .f32 t 0 with
      | true =>
        obtain ⟨u, H', e1, e2⟩ := endV_ends (stop := atReg 5) (n := 400) (L := [.code hfC]) (p := [false, true]) (t0 := pvT true n X :: .f false .f32 t :: undefs 34) (H0 := []) tabPc_sound (by
          show allT (condsP (hf0 n X t) [false, true]) = true
          rw [b1, hb, hl]; rfl) b2 rfl
        exact (hf_call e1 e2 zeros_low H).weaken fun σ x r => hf_zero (by unfold htK; rw [hb, hl]; rfl) rfl r
      | false =>
        have hK : htK n X t = hiC n.toNat t X 0 (n.toNat * n.toNat) := by unfold htK; rw [hb, hl]; rfl
        have r1 := way_reach (P := Tryz.prog) (T := tabPc) (stop := atReg 5) (n := 400) (L := [.code hfC]) (R := [.code hfC]) (p := [false, false]) (t0 := pvT true n X :: .f false .f32 t :: undefs 34) (H0 := []) tabPc_sound rfl (by
          show allT (condsP (hf0 n X t) [false, false]) = true
          rw [c1, hb, hl]; rfl) (M := hfM3) (t' := hfT3) (todo' := hfL) (H' := hfH3 n X t) (nd := []) c2 rfl
        rw [hfL_eq] at r1
        have r2 := boxes2_way (P := Tryz.prog) (T := tabPc) (ops := hfOps) tabPc_sound (by kernel_rfl) 8 7 4 [5, 6] (by decide +kernel) (by decide) (by decide) (by decide) (by kernel_rfl) (by kernel_rfl) (id := 5) (k := hfK) (t := hfT3) (t' := hfT6) (H := hfH3 n X t) (H' := hfH6 n X t) (M := hfM6) (nd := []) (by
          intro e he
          simp only [List.mem_cons, List.not_mem_nil, or_false] at he
          rcases he with rfl | rfl | rfl <;> exact ⟨by kernel_rfl, by kernel_rfl⟩) (by
          have : ∀ (l : List Nat), belowL 3 (l.map (fx X)) = true := fun l => by
            induction l with
            | nil => rfl
            | cons j l ih => simp [belowL, below, fx, ih]
          have h0 : lowB 3 (wzero 0) = true := by kernel_rfl
          simp only [List.length_cons, List.length_nil, hfH3, lowH, h0, Bool.and_true]
          simp [lowB, hfB, belowL, below, this]) (B1 := .cells true (.lit [.i true .i64 n])) ⟨rfl, rfl⟩ (R := hf5 n X t) rfl (hf5_ok _ n hd X t) (hf6_ok _ n hd X t) rfl
        have r := r1.trans r2
        have he := hfE_ok _ n hd X t hiG
        have eC : hiG.c n t (reP X) 0 = htK n X t := by
          rw [hK]; exact hiC_re _ hN2
        have eY : hiG.y n t (reP X) = hiY n.toNat t X (n.toNat * n.toNat) := hiY_re _ hN2
        rw [eC, eY] at he
        simp only [Prod.mk.injEq] at he
        obtain ⟨⟨d1, d2⟩, f1, f2⟩ := he
        cases hz : eqQ false (htK n X t) 0 with
        | true =>
          obtain ⟨u, H', e1, e2⟩ := endV_ends (stop := atReg 8) (n := 400) (L := hfK) (p := [false]) (t0 := hfT6) (H0 := hfH6 n X t) tabH2_sound (by
            show allT (condsP (hfE hiG n X t) [false]) = true
            rw [f1, hz]; rfl) f2 rfl
          refine (hf_call (r.ends e1) e2 (waveL_low _ _) H).weaken fun σ x q => ?_
          have eW : htW n X t = hiY n.toNat t X (n.toNat * n.toNat) := funext fun j => by unfold htW; rw [hz]
          unfold htV
          rw [eW, hz]
          rw [eqQ_eq, beq_iff_eq] at hz
          rw [hz]
          exact tup2_weak (c := .i true .i64 0) (c' := .i false .i64 0) rfl rfl q
        | false =>
          have r3 := way_keep (P := Tryz.prog) (T := tabH2 hiG) (stop := atReg 8) (n := 400) (k := 6) (L := hfK) (p := [true]) (M := hfM8) (t0 := hfT6) (H0 := hfH6 n X t) tabH2_sound (by
            show allT (condsP (hfE hiG n X t) [true]) = true
            rw [d1, hz]; rfl) d2 rfl (by simp [hfH6, hfH8]) (by kernel_rfl) (by
            have : ∀ (S : Nat → Nat) (l : List Nat), belowL 6 (l.map (fx S)) = true := fun S l => by
              induction l with
              | nil => rfl
              | cons j l ih => simp [belowL, below, fx, ih]
            have h0 : belowB 6 (wzero 0) = true := by kernel_rfl
            simp only [List.length_cons, List.length_nil, hfH8, belowH, h0, Bool.true_and, Bool.and_true]
            simp [belowB, hfB, fcells, belowL, below, this])
          rw [hfL8_eq] at r3
          obtain ⟨m1, m2, m3⟩ := hf8_mix
          have h8 := hf8_ok n X (hiG.s n t (reP X)) t (htK n X t)
          simp only [lfM, Prod.mk.injEq] at h8
          obtain ⟨g1, g2, g3, g4, g5⟩ := h8
          have hs8 := Res.isStop_eq g1
          have r4 := mix_reach (P := Tryz.prog) (T := tabPc) (E := [0]) (src := 2) (ops := hfOps8) tabPc_sound (by kernel_rfl) (m := 3) (Nat.le_of_ble_eq_true m1) m2 m3 (id := 8) (k := hfK8) (t := hfT8) (H := hfH8 n X (hiG.s n t (reP X)) t (htK n X t)) (t' := _) (H' := _) (nd := _) rfl (by conv => { lhs; rw [show runM Tryz.prog tabPc [0] 2 (List.take 3 hfOps8.toList) hfT8 (hfH8 n X (hiG.s n t (reP X)) t (htK n X t)) [] (fun t H nd => runOps Tryz.prog tabPc hfOps8 (List.drop 3 hfOps8.toList) t H nd fun t H nd => Res.stop [] t H nd) = hf8 n X (hiG.s n t (reP X)) t (htK n X t) from rfl, hs8] }; rw [g2]; rfl) (by rw [g5]; rfl)
          rw [g4] at r4
          have r5 := (r4.weak (blur_eqv hfM9 _)).weak (eqv_of_bare g3)
          have h9 := hf9_ok n X (hiG.s n t (reP X)) t (htK n X t)
          simp only [Prod.mk.injEq] at h9
          obtain ⟨u, H', e1, e2⟩ := endV_ends (stop := atCut 99) (n := 400) (L := hfK8) (p := []) (t0 := hfT9 (htK n X t)) (H0 := hfH8 n X (hiG.s n t (reP X)) t (htK n X t)) tabPc_sound (by
            show allT (condsP (hf9 n X _ t _) []) = true
            rw [h9.1]; rfl) h9.2 rfl
          exact (hf_call (((r.trans r3).trans r5).ends e1) e2 zeros_low H).weaken fun σ x q => hf_zero rfl hz q
end Go.Ax
