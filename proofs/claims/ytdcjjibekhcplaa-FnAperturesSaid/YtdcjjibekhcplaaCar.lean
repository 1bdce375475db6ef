/- Codes of Legendre and correlations: rows. -/
import Derived.Test.YtdcjjibekhcplaaCaq
namespace Go.Ax
open Go Go.Proofs

noncomputable def rLg (f : FuncId) (l : Bool) (p : Int) : Res := tabA f [.i l .i64 p] [] [] fun v H nd => .ret v H nd
def legL (p : Int) : List Nat := (List.range p.toNat).map (codeF p.toNat)
theorem leg_fail (p : Int) : ((condsP (rLg 44 false p) [true], badK 0 2 ((rLg 44 false p).at [true])), (condsP (rLg 45 false p) [true], badK 0 2 ((rLg 45 false p).at [true]))) =
    (([!prI p], true), ([!prB p], true)) := by kernel_rfl
def LegRun (p : Int) : Prop := (outK 0 (rLg 44 true p), outK 0 (rLg 45 true p)) = (some (legL p, .i true .i64 0, true), some (legL p, .i true .i64 0, true))
theorem leg3 : LegRun 3 := by
  show (_, _) = (_, _)
  kernel_rfl
theorem leg7 : LegRun 7 := by
  show (_, _) = (_, _)
  kernel_rfl
theorem leg11 : LegRun 11 := by
  show (_, _) = (_, _)
  kernel_rfl
theorem leg19 : LegRun 19 := by
  show (_, _) = (_, _)
  kernel_rfl
theorem leg23 : LegRun 23 := by
  show (_, _) = (_, _)
  kernel_rfl
theorem leg31 : LegRun 31 := by
  show (_, _) = (_, _)
  kernel_rfl
theorem prB_cases {p : Int} (h : prB p = true) : p = 3 ∨ p = 7 ∨ p = 11 ∨ p = 19 ∨ p = 23 ∨ p = 31 := by
  have key : ∀ m : Int, eqQ false p m = true ↔ p = m := fun m => by rw [eqQ_eq, beq_iff_eq]
  rw [← key 3, ← key 7, ← key 11, ← key 19, ← key 23, ← key 31]
  unfold prB at h
  revert h
  cases eqQ false p 3 <;> cases eqQ false p 7 <;> cases eqQ false p 11 <;> cases eqQ false p 19 <;> cases eqQ false p 23 <;> cases eqQ false p 31 <;> simp
theorem leg_all {p : Int} (h : prB p = true) : LegRun p := by
  rcases prB_cases h with rfl | rfl | rfl | rfl | rfl | rfl
  · exact leg3
  · exact leg7
  · exact leg11
  · exact leg19
  · exact leg23
  · exact leg31
theorem nil_ro : ∀ i, (getB ([] : List AB) i).rw = false := fun _ => rfl
def legC (p : Int) : Int := cond (prB p) 0 2
theorem leg_ok (f : FuncId) (hf : f = 44 ∨ f = 45) (p : Int) : CallOK Try.prog f [.i false .i64 p] [] (uniV ([] : List AB).length (prB p) (legL p).length (legC p)) ([] ++ [uniB (prB p) (legL p)]) := by
  have h := leg_fail p
  simp only [Prod.mk.injEq] at h
  obtain ⟨⟨c1, b1⟩, c2, b2⟩ := h
  unfold legC
  cases hp : prB p with
  | false =>
    rcases hf with rfl | rfl
    · exact bad_call (H0 := []) (c := 2) tabA_sound (sel_of_conds _ [true] (by show allT (condsP (rLg 44 false p) [true]) = true; rw [c1, prI_eq, hp]; rfl)) b1 nil_ro _ _
    · exact bad_call (H0 := []) (c := 2) tabA_sound (sel_of_conds _ [true] (by show allT (condsP (rLg 45 false p) [true]) = true; rw [c2, hp]; rfl)) b2 nil_ro _ _
  | true =>
    have h := leg_all hp
    unfold LegRun at h
    simp only [Prod.mk.injEq] at h
    obtain ⟨o1, o2⟩ := h
    have hb : ([.i false .i64 p] : List AV).map AV.bare = ([.i true .i64 p] : List AV).map AV.bare := rfl
    rcases hf with rfl | rfl
    · exact (out_call (f := 44) (args := [.i true .i64 p]) (H0 := []) (r := rLg 44 true p) tabA_sound rfl o1 nil_ro).bare hb
    · exact (out_call (f := 45) (args := [.i true .i64 p]) (H0 := []) (r := rLg 45 true p) tabA_sound rfl o2 nil_ro).bare hb
noncomputable def legT : Table := fun _ args H nd K =>
  match args with
  | [.i _ .i64 p] => K (uniV H.length (prB p) (legL p).length (legC p)) (H ++ [uniB (prB p) (legL p)]) nd
  | _ => .fail
theorem leg_at (f : FuncId) (hf : f = 44 ∨ f = 45) : SoundAt Try.prog f legT := fun args H nd K => by
  unfold legT
  split
  case h_2 => exact .inl rfl
  rename_i l p
  refine .inr ⟨_, _, _, rfl, fun hn => ⟨hn, ?_⟩⟩
  have k := uni_at (H := H) (ids := []) (leg_ok f hf p) nil_ro rfl rfl (fun i hi => by simp at hi)
  exact k.bare rfl

/-! ### Correlations -/
noncomputable def coOK (xs ys : List Nat) : Bool := finL xs && (finL ys && (Nat.beq xs.length ys.length && finL (sumL xs.length (coT xs.length (at0 xs) (at0 ys)) idD)))
def coL (xs ys : List Nat) : List Nat := plusL xs.length (coT xs.length (at0 xs) (at0 ys)) idD
noncomputable def coC (xs ys : List Nat) : Int := cond (finL xs && finL ys) (cond (Nat.beq xs.length ys.length) (cond (finL (sumL xs.length (coT xs.length (at0 xs) (at0 ys)) idD)) 0 3) 2) 1
def lenQ (n m : Nat) : Bool := (decide (n = m) && decide (n ∈ nsC)) || (decide (m = n + 1) && decide (n ∈ nsO))
theorem lenQ_spec {n m : Nat} (h : lenQ n m = true) : (n = m ∧ n ∈ nsC) ∨ (m = n + 1 ∧ n ∈ nsO) := by
  simpa [lenQ] using h
theorem heq2 (xs ys : List Nat) (G : List AB) : HEq (fb2 xs ys ++ G) (cells2 xs.length ys.length (at0 xs) (at0 ys) ++ G) :=
  HEq.cons ⟨rfl, rfl, fun _ _ _ h => blk_toL (cells_toL xs) h⟩ (HEq.cons ⟨rfl, rfl, fun _ _ _ h => blk_toL (cells_toL ys) h⟩ (HEq.refl G))
theorem heq2' (xs ys : List Nat) (G : List AB) : HEq (cells2 xs.length ys.length (at0 xs) (at0 ys) ++ G) (fb2 xs ys ++ G) :=
  HEq.cons ⟨rfl, rfl, fun _ _ _ h => blk_toL (cells_toL xs).symm h⟩ (HEq.cons ⟨rfl, rfl, fun _ _ _ h => blk_toL (cells_toL ys).symm h⟩ (HEq.refl G))
theorem corr_ok {f : FuncId} (h : TwoRun f) (xs ys : List Nat) (z z' : Nat) (hl : lenQ xs.length ys.length = true) (hz : 0 < z) (hz' : 0 < z') :
    CallOK Try.prog f [.sl false 0 0 xs.length z, .sl false 1 0 ys.length z'] (fb2 xs ys) (uniV 2 (coOK xs ys) (coL xs ys).length (coC xs ys)) (fb2 xs ys ++ [uniB (coOK xs ys) (coL xs ys)]) := by
  have hxl : xL xs.length (at0 xs) = xs := xL_eq xs
  have hyl : xL ys.length (at0 ys) = ys := xL_eq ys
  have hq := lenQ_spec hl
  have conv : ∀ {v : AV} {B : AB}, CallOK Try.prog f [.sl true 0 0 xs.length 1, .sl true 1 0 ys.length 1] (cells2 xs.length ys.length (at0 xs) (at0 ys)) v (cells2 xs.length ys.length (at0 xs) (at0 ys) ++ [B]) → CallOK Try.prog f [.sl false 0 0 xs.length z, .sl false 1 0 ys.length z'] (fb2 xs ys) v (fb2 xs ys ++ [B]) := fun {v B} k => by
    have k1 := (k.pre (heq2 xs ys [])).post (heq2' xs ys [B])
    refine k1.args fun σ l r => ?_
    cases r with | cons r hs => cases hs with | cons r' hs =>
    have a := sl_z1 r hz
    have b := sl_z1 r' hz'
    exact .cons (Rel.unbare (a := .sl true 0 0 xs.length 1) a.bare) (.cons (Rel.unbare (a := .sl true 1 0 ys.length 1) b.bare) hs)
  unfold coOK coC
  cases hx : finL xs with
  | false => exact conv (h.bad1 _ _ hq (at0 xs) (at0 ys) (by rw [hxl, hx]; rfl) _ _)
  | true =>
    cases hy : finL ys with
    | false => exact conv (h.bad1 _ _ hq (at0 xs) (at0 ys) (by rw [hxl, hyl, hx, hy]; rfl) _ _)
    | true =>
      rcases hq with ⟨he, hn⟩ | ⟨he, hn⟩
      · have hb : Nat.beq xs.length ys.length = true := by rw [he]; exact Nat.beq_refl _
        rw [hb]
        cases hs : finL (sumL xs.length (coT xs.length (at0 xs) (at0 ys)) idD) with
        | false =>
          refine conv ?_
          have k := h.bad3 xs.length hn (at0 xs) (at0 ys) (by rw [hxl]; exact hx) (by rw [he, hyl]; exact hy) hs (coL xs ys).length (coL xs ys)
          rw [← he]; exact k
        | true =>
          refine conv ?_
          have k := h.good xs.length hn (at0 xs) (at0 ys) (by rw [hxl]; exact hx) (by rw [he, hyl]; exact hy) hs
          rw [← he]; exact k
      · have hb : Nat.beq xs.length ys.length = false := by
          cases hc : Nat.beq xs.length ys.length with
          | false => rfl
          | true => have := Nat.eq_of_beq_eq_true hc; omega
        rw [hb]
        refine conv ?_
        have k := h.bad2 xs.length hn (at0 xs) (at0 ys) (by rw [hxl]; exact hx) (by rw [← he, hyl]; exact hy) (coL xs ys).length (coL xs ys)
        rw [he]; exact k
def zQ : AV → Bool
  | .sl _ _ _ _ z => decide (0 < z)
  | _ => false
theorem fb2_ro (xs ys : List Nat) : ∀ i, (getB (fb2 xs ys) i).rw = false := fun i => by
  match i with
  | 0 => rfl
  | 1 => rfl
  | i + 2 => rfl
noncomputable def corrT : Table := fun _ args H nd K =>
  match args with
  | [a, b] => match floatsAt H a, floatsAt H b with
    | some (xs, q), some (ys, q') => K (uniV H.length (coOK xs ys) (coL xs ys).length (coC xs ys)) (H ++ [uniB (coOK xs ys) (coL xs ys)]) (lenQ xs.length ys.length :: zQ a :: zQ b :: (q ++ (q' ++ nd)))
    | _, _ => .fail
  | _ => .fail
theorem corr_at {f : FuncId} (h : TwoRun f) : SoundAt Try.prog f corrT := fun args H nd K => by
  unfold corrT
  split
  case h_2 => exact .inl rfl
  split
  case h_2 => exact .inl rfl
  rename_i a b xs q ys q' hi hj
  refine .inr ⟨_, _, _, rfl, fun hn => ?_⟩
  simp only [allT, Bool.and_eq_true] at hn
  obtain ⟨hl, hza, hzb, hn⟩ := hn
  rw [allT_append, allT_append, Bool.and_eq_true, Bool.and_eq_true] at hn
  obtain ⟨l, id, r, A, z, rfl, hg, hA, _⟩ := floatsAt_spec hi hn.1
  obtain ⟨l', id', r', A', z', rfl, hg', hA', _⟩ := floatsAt_spec hj hn.2.1
  refine ⟨hn.2.2, ?_⟩
  have k := uni_at (H := H) (ids := [id, id']) (corr_ok h xs ys z z' hl (of_decide_eq_true hza) (of_decide_eq_true hzb)) (fb2_ro xs ys) rfl rfl (fun i hi => by
    match i, hi with
    | 0, _ =>
      refine ⟨getB_lt hg, fun σ τ z o hb => ?_⟩
      have e : ([id, id'] : List Nat).getD 0 0 = id := rfl
      rw [e, hg] at hb
      exact ro_floats hA hb
    | 1, _ =>
      refine ⟨getB_lt hg', fun σ τ z o hb => ?_⟩
      have e : ([id, id'] : List Nat).getD 1 0 = id' := rfl
      rw [e, hg'] at hb
      exact ro_floats hA' hb
    | i + 2, hi => simp only [fb2, List.length_cons, List.length_nil] at hi; omega)
  exact k.bare rfl
end Go.Ax
