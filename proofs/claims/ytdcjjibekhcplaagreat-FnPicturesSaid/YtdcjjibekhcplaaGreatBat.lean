/- impl.signedContrastOf, in stages. -/
import Derived.Test.YtdcjjibekhcplaaGreatBas
namespace Go.Ax
open Go Go.Proofs

def topI (X : Nat → Nat) : Nat → Nat
  | 0 => X 0
  | k + 1 => fmaxA .f32 (topI X k) (X (k + 1))
def botI (X : Nat → Nat) : Nat → Nat
  | 0 => X 0
  | k + 1 => fminA .f32 (botI X k) (X (k + 1))
noncomputable def tcC (g : Bool) (N : Nat) (X : Nat → Nat) : Int := cond (!g) 1 (cond (feq .f32 (topI X (N - 1)) 0) 5 0)
noncomputable def cnC : Code := Tryz.f106.body.getD .skip
noncomputable def cnZ (n : Int) (X : Nat → Nat) : Res := jupto Tryz.prog tabPc (atReg 4) 400 [.code cnC] (pvT true n X :: undefs 28) []
noncomputable def cnLp : List Item := ((cnZ 1 fun _ => 0).at [false]).todo
noncomputable def cnOps : Array Oper := match cnLp with
  | .code (.region _ ops _) :: _ => ops
  | _ => #[]
noncomputable def cnK : List Item := cnLp.drop 1
def cnD (i : Nat) : Bool := Nat.beq i 3 || Nat.beq i 4
def cnB (n : Int) (X : Nat → Nat) : AB := .cells true (.lit (.i true .i64 n :: (List.range 64).map (fx X)))
def cnL3 : List (Nat × AV) := [(1, .p true 0 0)]
def cnL5 (a b : Nat) : List (Nat × AV) := [(5, .f false .f32 a), (6, .f false .f32 b)]
def cnM3 : List Bool := maskOf 29 cnL3
def cnM5 : List Bool := maskOf 29 (cnL5 0 0)
theorem cnLp_eq : cnLp = .code (.region 4 cnOps true) :: cnK := by kernel_rfl
theorem cn_no (N : Nat) (n : Int) (hn : (N, n) ∈ doNs) (X : Nat → Nat) : (condsP (cnZ n X) [true], endV Tryz.prog Tryz.f106.results.toList ((cnZ n X).at [true])) = ([!eqQ false (tcC (isPicB n (reP X)) N X) 0], some (some ([.f true .f32 0, .i false .i64 (tcC (isPicB n (reP X)) N X)], []), [])) := by
  simp only [doNs, List.mem_cons, Prod.mk.injEq, List.not_mem_nil, or_false] at hn
  rcases hn with ⟨rfl, rfl⟩ | ⟨rfl, rfl⟩ | ⟨rfl, rfl⟩ | ⟨rfl, rfl⟩ <;> kernel_rfl
theorem cn_ok (N : Nat) (n : Int) (hn : (N, n) ∈ doNs) (X : Nat → Nat) : (condsP (cnZ n X) [false], lfM cnM3 ((cnZ n X).at [false])) = ([!!eqQ false (tcC (isPicB n (reP X)) N X) 0], (true, cnLp, (tmpsOf 29 cnL3).map AV.bare, [cnB n X], [])) := by
  simp only [doNs, List.mem_cons, Prod.mk.injEq, List.not_mem_nil, or_false] at hn
  rcases hn with ⟨rfl, rfl⟩ | ⟨rfl, rfl⟩ | ⟨rfl, rfl⟩ | ⟨rfl, rfl⟩ <;> kernel_rfl
noncomputable def cnR (n : Int) (X : Nat → Nat) : Res := runY Tryz.prog tabPc 3 cnD 0 (cnOps.toList.take 5) (tmpsOf 29 cnL3) [cnB n X] .dead [] fun t B nd => runOps Tryz.prog tabPc cnOps (cnOps.toList.drop 5) t ([cnB n X] ++ [B]) nd fun t H nd => .stop [] t H nd
theorem cnR_ok (N : Nat) (n : Int) (hn : (N, n) ∈ doNs) (X : Nat → Nat) : lfM cnM5 (cnR n X) = (true, [], (tmpsOf 29 (cnL5 (topI X (N - 1)) (botI X (N - 1)))).map AV.bare, [cnB n X, cnB n X], []) := by
  simp only [doNs, List.mem_cons, Prod.mk.injEq, List.not_mem_nil, or_false] at hn
  rcases hn with ⟨rfl, rfl⟩ | ⟨rfl, rfl⟩ | ⟨rfl, rfl⟩ | ⟨rfl, rfl⟩ <;> kernel_rfl
noncomputable def cnE (n : Int) (X : Nat → Nat) (a b : Nat) : Res := jupto Tryz.prog tabPc (atCut 99) 400 cnK (tmpsOf 29 (cnL5 a b)) [cnB n X, cnB n X]
theorem cnE_ok (n : Int) (X : Nat → Nat) (a b : Nat) : ((condsP (cnE n X a b) [true], endV Tryz.prog Tryz.f106.results.toList ((cnE n X a b).at [true])), (condsP (cnE n X a b) [false], endV Tryz.prog Tryz.f106.results.toList ((cnE n X a b).at [false]))) =
    (([!finB (fadd .f32 a b)], some (some ([.f true .f32 0, .i true .i64 3], []), [])), ([!!finB (fadd .f32 a b)], some (some ([.f false .f32 (fdiv .f32 (fsub .f32 a b) (fadd .f32 a b)), .i true .i64 0], []), []))) := by kernel_rfl
noncomputable def tabPn : Table := tabOf (jdeep Tryz.prog rowsN [115] 4000 10)
theorem tabPn_sound : SoundT Tryz.prog tabPn := jdeep_sound rowsN_at 10
theorem cn_side (n : Int) (X : Nat → Nat) : joinR 0 (tabPn 106 [pvT false n X] [] [] fun v H nd => .ret v H nd) = some (.tup [.f true .f32 0, .i true .i64 1], [!sideB n]) := by kernel_rfl
theorem reP_top {X : Nat → Nat} : ∀ k, k < 64 → topI (reP X) k = topI X k
  | 0, h => reP_eq h
  | k + 1, h => by rw [topI, topI, reP_top k (by omega), reP_eq h]
/-- What impl's contrast comes to. -/
noncomputable def conR (n : Int) (X : Nat → Nat) : AV := match eqQ false (tcC (isPicB n X) (n.toNat * n.toNat) X) 0 with
  | false => .tup [.f false .f32 0, .i false .i64 (tcC (isPicB n X) (n.toNat * n.toNat) X)]
  | true => match finB (fadd .f32 (topI X (n.toNat * n.toNat - 1)) (botI X (n.toNat * n.toNat - 1))) with
    | false => .tup [.f false .f32 0, .i false .i64 3]
    | true => .tup [.f false .f32 (fdiv .f32 (fsub .f32 (topI X (n.toNat * n.toNat - 1)) (botI X (n.toNat * n.toNat - 1))) (fadd .f32 (topI X (n.toNat * n.toNat - 1)) (botI X (n.toNat * n.toNat - 1)))), .i false .i64 0]
theorem pvT_low (l : Bool) (n : Int) (X : Nat → Nat) : below 0 (pvT l n X) = true := by
  have := pv_low n X
  simpa [pv, pvT, picL, below, belowL] using this
theorem cn_call {n : Int} {X : Nat → Nat} {t : List AV} {H' : List AB} {l l' : Bool} {x : Nat} {k : Int} (he : Ends Tryz.prog [.code cnC] (pvT true n X :: undefs 28) [] t H') (hr : resV Tryz.prog t H' Tryz.f106.results.toList = some ([.f l .f32 x, .i l' .i64 k], [])) (H : List AB) : CallOK Tryz.prog 106 [pv n X] H (.tup [.f false .f32 x, .i false .i64 k]) H := by
  have h := call_of_ends (args := [pvT true n X]) (m := []) Tryz.func106 (rfl : Tryz.f106.body = some cnC) he hr rfl
  exact ((h.lift rfl (by simp [belowL, pvT_low]) H rfl).deep (args' := [pv n X]) rfl).weaken fun σ y r => tup_bare (by rfl) r
theorem noSide_pic {n : Int} {X : Nat → Nat} (h : sideB n = false) : isPicB n X = false := by simp [isPicB, h]
theorem con_ok (n : Int) (X : Nat → Nat) (H : List AB) : CallOK Tryz.prog 106 [pv n X] H (conR n X) H := by
  cases hs : sideB n with
  | false =>
    have h := (call_of_join tabPn_sound (cn_side n X) (by simp [allT, hs]) (by simp [belowL, pvT_low]) H).deep (args' := [pv n X]) rfl
    refine h.weaken fun σ x r => ?_
    have e : tcC (isPicB n X) (n.toNat * n.toNat) X = 1 := by rw [noSide_pic hs]; rfl
    unfold conR
    rw [e]
    exact tup_bare (by rfl) r
  | true =>
    have hd := side_cases hs
    cases hC : eqQ false (tcC (isPicB n X) (n.toNat * n.toNat) X) 0 with
    | false =>
      have hz := cn_no _ n hd X
      simp only [Prod.mk.injEq] at hz
      rw [isPicB_re] at hz
      obtain ⟨t, H', e1, e2⟩ := endV_ends (stop := atReg 4) (n := 400) (L := [.code cnC]) (p := [true]) (t0 := pvT true n X :: undefs 28) (H0 := []) tabPc_sound (by
        show allT (condsP (cnZ n X) [true]) = true
        rw [hz.1, hC]; rfl) hz.2 rfl
      have k := cn_call e1 e2 H
      unfold conR
      rw [hC]
      exact k
    | true =>
      have hz := cn_ok _ n hd X
      simp only [Prod.mk.injEq] at hz
      rw [isPicB_re] at hz
      have r1 := way_reach (P := Tryz.prog) (T := tabPc) (stop := atReg 4) (n := 400) (L := [.code cnC]) (R := [.code cnC]) (p := [false]) (t0 := pvT true n X :: undefs 28) (H0 := []) tabPc_sound rfl (by
        show allT (condsP (cnZ n X) [false]) = true
        rw [hz.1, hC]; rfl) hz.2 rfl
      rw [cnLp_eq] at r1
      have r2 := box2_way (P := Tryz.prog) (T := tabPc) (ops := cnOps) tabPc_sound (by kernel_rfl) 5 3 cnD (by decide +kernel) (by decide) rfl (by kernel_rfl) (by kernel_rfl) (id := 4) (k := cnK) (t := tmpsOf 29 cnL3) (H := [cnB n X]) (M := cnM5) (by
        have : ∀ (l : List Nat), belowL 1 (l.map (fx X)) = true := fun l => by
          induction l with
          | nil => rfl
          | cons j l ih => simp [belowL, below, fx, ih]
        simp only [List.length_cons, List.length_nil, lowH, lowB, cnB, belowL, below, this, Bool.and_true]) (cnR_ok _ n hd X) rfl
      have r3 := r1.trans r2
      have he := cnE_ok n X (topI X (n.toNat * n.toNat - 1)) (botI X (n.toNat * n.toNat - 1))
      simp only [Prod.mk.injEq] at he
      obtain ⟨⟨a1, a2⟩, a3, a4⟩ := he
      unfold conR
      rw [hC]
      cases hf : finB (fadd .f32 (topI X (n.toNat * n.toNat - 1)) (botI X (n.toNat * n.toNat - 1))) with
      | false =>
        obtain ⟨t, H', e1, e2⟩ := endV_ends (stop := atCut 99) (n := 400) (L := cnK) (p := [true]) (t0 := tmpsOf 29 (cnL5 (topI X (n.toNat * n.toNat - 1)) (botI X (n.toNat * n.toNat - 1)))) (H0 := [cnB n X, cnB n X]) tabPc_sound (by
          show allT (condsP (cnE n X _ _) [true]) = true
          rw [a1, hf]; rfl) a2 rfl
        exact cn_call (r3.ends e1) e2 H
      | true =>
        obtain ⟨t, H', e1, e2⟩ := endV_ends (stop := atCut 99) (n := 400) (L := cnK) (p := [false]) (t0 := tmpsOf 29 (cnL5 (topI X (n.toNat * n.toNat - 1)) (botI X (n.toNat * n.toNat - 1)))) (H0 := [cnB n X, cnB n X]) tabPc_sound (by
          show allT (condsP (cnE n X _ _) [false]) = true
          rw [a3, hf]; rfl) a4 rfl
        exact cn_call (r3.ends e1) e2 H
end Go.Ax
