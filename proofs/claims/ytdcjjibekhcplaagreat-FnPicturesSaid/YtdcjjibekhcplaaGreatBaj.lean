/- spec.l01Phase and spec.PhaseOf for every k. -/
import Derived.Test.YtdcjjibekhcplaaGreatBai
namespace Go.Ax
open Go Go.Proofs

def spX (k : Int) : Nat := spXs.getD (k % 64).toNat 0
def spY (k : Int) : Nat := spYs.getD (k % 64).toNat 0
theorem sp_leaf (j : Nat) (h : spChk j = true) : ∃ l H nd, spRun j = .ret (.c l .f32 (spXs.getD j 0) (spYs.getD j 0)) H nd ∧ nd = [] ∧ H = [] := by
  unfold spChk at h
  split at h <;> (try (cases h; done))
  rename_i v H nd hr
  split at h <;> (try (cases h; done))
  rename_i l x y
  simp only [Bool.and_eq_true] at h
  obtain ⟨⟨⟨h1, h2⟩, h3⟩, h4⟩ := h
  have e1 := Nat.eq_of_beq_eq_true h1
  have e2 := Nat.eq_of_beq_eq_true h2
  exact ⟨l, H, nd, by rw [hr, e1, e2], by simpa using h3, by simpa using h4⟩
theorem sp_ok (k : Int) (H : List AB) : CallOK Tryz.prog 154 [.i false .i64 k] H (.c false .f32 (spX k) (spY k)) H := by
  obtain ⟨e1, e2⟩ := sp0_fin k
  rw [mod_val] at e2
  obtain ⟨t0, e3, e4⟩ := leafM_stop e1 e2
  have hj : (k % 64).toNat < 64 := by omega
  have hk : k % 64 = Int.ofNat (k % 64).toNat := by simp; omega
  have hr : Reach Tryz.prog [.code spC] (.i false .i64 k :: undefs 53) [] spL (spT true (Int.ofNat (k % 64).toNat)) [] := by
    have h1 : Reach Tryz.prog [.code spC] (.i false .i64 k :: undefs 53) [] spL t0 [] := by
      refine toLoop_reach (n := 100) (nd := []) hT0 (T := noT) ?_ rfl
      have := e3
      unfold sp0 at this
      rw [this]; rfl
    refine (h1.weak (blur_eqv spM t0)).weak (eqv_of_bare ?_)
    rw [← e4, ← hk]
    rfl
  obtain ⟨l, H1, nd, e5, rfl, rfl⟩ := sp_leaf _ (sp_all _ hj)
  have e6 : (run Tryz.prog tabH 3000 spL (spT true (Int.ofNat (k % 64).toNat)) [] [] (retK Tryz.prog Tryz.f154 fun v H nd => .ret v H nd)).sel = .ret (.c l .f32 (spXs.getD (k % 64).toNat 0) (spYs.getD (k % 64).toNat 0)) [] [] := by
    unfold spRun at e5
    rw [e5]; rfl
  have hb : Tryz.f154.body = some spC := rfl
  have := call_of_stage tabH_sound (args := [.i false .i64 k]) Tryz.func154 hb hr e6 rfl
  exact (this.lift rfl rfl H rfl).weaken fun σ x r => (by cases r with | c h1 h2 => exact .c h1 h2)
def gSp : List AV → Option (AV × List Bool)
  | [.i _ .i64 k] => some (.c false .f32 (spX k) (spY k), [])
  | _ => none
theorem sp_at : SoundAt Tryz.prog 154 (pureT gSp) := fun args H nd K => by
  refine pureT_sound (fun args v n h hn H => ?_) args H nd K
  unfold gSp at h
  split at h <;> cases h
  rename_i l k
  exact (sp_ok k H).bare (args' := [.i l .i64 k]) rfl
end Go.Ax

/- A call's answer along one way through its tests. -/
namespace Go.Ax
open Go

/-- Finite. -/
noncomputable def finB (x : Nat) : Bool := feq .f32 (fsub .f32 x x) 0
def plusF (x : Nat) : Nat := bif feq .f32 x 0 then 0 else x
/-- What must hold along a way. -/
def condsP : Res → List Bool → List Bool
  | .ite b x y, d :: l => match d with
    | true => b :: condsP x l
    | false => (!b) :: condsP y l
  | _, _ => []
def leafP : Res → Option (AV × List Bool)
  | .ret v _ nd => some (v, nd)
  | _ => none
theorem sel_of_conds : ∀ (r : Res) (l : List Bool), allT (condsP r l) = true → r.sel = (r.at l).sel
  | .ite b x y, d :: l, h => by
    cases d with
    | true =>
      simp only [condsP, allT, Bool.and_eq_true] at h
      simp only [Res.sel, Res.at, h.1, if_true]
      exact sel_of_conds x l h.2
    | false =>
      simp only [condsP, allT, Bool.and_eq_true, Bool.not_eq_true'] at h
      simp only [Res.sel, Res.at, h.1]
      exact sel_of_conds y l h.2
  | .ite _ _ _, [], _ => rfl
  | .ret _ _ _, _, _ => by simp [Res.at]
  | .stop _ _ _ _, _, _ => by simp [Res.at]
  | .fail, _, _ => by simp [Res.at]
theorem call_of_path {P : Program} {T : Table} {f : FuncId} {args : List AV} {H : List AB} {dirs conds nd : List Bool} {v : AV} (hT : SoundT P T)
    (h : (condsP (T f args H [] fun v H nd => .ret v H nd) dirs, leafP ((T f args H [] fun v H nd => .ret v H nd).at dirs)) = (conds, some (v, nd))) (hc : allT conds = true) (hn : allT nd = true) : ∃ H', CallOK P f args H v H' := by
  simp only [Prod.mk.injEq] at h
  obtain ⟨h1, h2⟩ := h
  have e := sel_of_conds _ dirs (by rw [h1]; exact hc)
  generalize hl : (T f args H [] fun v H nd => .ret v H nd).at dirs = r at h2 e
  unfold leafP at h2
  split at h2 <;> cases h2
  exact ⟨_, call_of_sel hT e hn⟩

noncomputable def lfM (M : List Bool) (r : Res) : Bool × List Item × List AV × List AB × List Bool := (r.isStop, r.todo, bareBlur M r.tOf, r.HOf, r.nds)
theorem isStop_at {r : Res} {L : List Bool} (h : (r.at L).isStop = true) (hc : allT (condsP r L) = true) : r.sel = .stop (r.at L).todo (r.at L).tOf (r.at L).HOf (r.at L).nds := by
  rw [sel_of_conds r L hc]
  conv => lhs; rw [Res.isStop_eq h]
  rfl
end Go.Ax

/- spec.PhaseOf: the same as impl.PhaseOf. -/
namespace Go.Ax
open Go Go.Proofs

noncomputable def rowsS : List (FuncId × Table) := [(154, pureT gSp)]
theorem rowsS_at : allAt Tryz.prog rowsS := ⟨sp_at, trivial⟩
noncomputable def tabS : Table := deep Tryz.prog rowsS [] 300 5
theorem tabS_sound : SoundT Tryz.prog tabS := deep_sound (allAt_mem rowsS_at) 5
theorem plus_all : ((List.range 64).all fun j => Nat.beq (plusF (spXs.getD j 0)) (phXs.getD j 0) && Nat.beq (plusF (spYs.getD j 0)) (phYs.getD j 0)) = true := by kernel_rfl
theorem plus_ph (k : Int) : plusF (spX k) = phX k ∧ plusF (spY k) = phY k := by
  have hj : (k % 64).toNat < 64 := by omega
  have h := List.all_eq_true.1 plus_all (k % 64).toNat (by simpa using hj)
  rw [Bool.and_eq_true] at h
  have e1 := Nat.eq_of_beq_eq_true h.1
  have e2 := Nat.eq_of_beq_eq_true h.2
  have hk : k % 64 = ((k % 64).toNat : Int) := by omega
  constructor
  · unfold spX phX
    rw [e1]
    generalize (k % 64).toNat = j at hk hj
    rw [hk, chain_get _ _ 63 (by omega)]
  · unfold spY phY
    rw [e2]
    generalize (k % 64).toNat = j at hk hj
    rw [hk, chain_get _ _ 63 (by omega)]
end Go.Ax

/- spec.l01Simple: some complex number with simple parts. -/
namespace Go.Ax
open Go Go.Proofs

noncomputable def rows7 (mx : Int) : List (FuncId × Table) := (154, pureT gSp) :: rows6 mx
theorem rows7_at (mx : Int) : allAt Tryz.prog (rows7 mx) := ⟨sp_at, rows6_at mx⟩
noncomputable def tab7 (mx : Int) : Table := deep Tryz.prog (rows7 mx) [73, 180] 2000 6
theorem tab7_sound (mx : Int) : SoundT Tryz.prog (tab7 mx) := deep_sound (allAt_mem (rows7_at mx)) 6
noncomputable def simR (c : Cd) (a : Nat) (h : Int) : Option ((Nat × Nat) × Nat × Int × List Bool) :=
  srcEx formC c (runF Tryz.prog (tab7 9) 1000 220 [.p true 1 0] [codeB c false, srcB c a h] [] fun v H nd => .ret v H nd)
theorem sim_nd (c : Cd) (a : Nat) (h : Int) : (simR c a h).map (fun r => r.2.2.2) = some (List.replicate 661 (okB c c.off c.len)) := by kernel_rfl
theorem sim_ex {c : Cd} (hc : goodB c = true) (a : Nat) (h : Int) : ∃ (x : Nat × Nat) (a' : Nat) (h' : Int), SrcOK Tryz.prog 220 [] c a h (.c false .f32 x.1 x.2) a' h' := by
  have hn := sim_nd c a h
  have hk : okB c c.off c.len = true := by simp [okB, hc]
  cases hr : simR c a h with
  | none => rw [hr] at hn; cases hn
  | some r =>
    obtain ⟨x, a', h', nd⟩ := r
    rw [hr] at hn
    simp only [Option.map_some, Option.some.injEq] at hn
    refine ⟨x, a', h', srcOK_of_ex (F := formC) (runF_sound (tab7_sound 9) 1000) hr ?_ rfl⟩
    rw [hn, hk]
    exact allT_rep 661
noncomputable def simV (c : Cd) (a : Nat) (h : Int) : (Nat × Nat) × Nat × Int :=
  open Classical in if hx : ∃ r : (Nat × Nat) × Nat × Int, SrcOK Tryz.prog 220 [] c a h (.c false .f32 r.1.1 r.1.2) r.2.1 r.2.2 then hx.choose else ((0, 0), a, h)
theorem simV_ok {c : Cd} (hc : goodB c = true) (a : Nat) (h : Int) : SrcOK Tryz.prog 220 [] c a h (.c false .f32 (simV c a h).1.1 (simV c a h).1.2) (simV c a h).2.1 (simV c a h).2.2 := by
  obtain ⟨x, a', h', hx⟩ := sim_ex hc a h
  have he : ∃ r : (Nat × Nat) × Nat × Int, SrcOK Tryz.prog 220 [] c a h (.c false .f32 r.1.1 r.1.2) r.2.1 r.2.2 := ⟨(x, a', h'), hx⟩
  unfold simV
  rw [dif_pos he]
  exact he.choose_spec
noncomputable def simT : Table := srcT fun c a h sc => match sc with
  | [] => some (.c false .f32 (simV c a h).1.1 (simV c a h).1.2, (simV c a h).2.1, (simV c a h).2.2, [])
  | _ => none
theorem sim_at : SoundAt Tryz.prog 220 simT := fun args H nd K => by
  refine srcT_sound (fun c a h sc v a' h' q hc hg _ => ?_) args H nd K
  split at hg <;> cases hg
  exact simV_ok hc a h
end Go.Ax
