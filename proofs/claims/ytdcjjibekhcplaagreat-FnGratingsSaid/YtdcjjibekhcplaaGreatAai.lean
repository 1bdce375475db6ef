/- spec.l01Phase and spec.PhaseOf for every k. -/
import Derived.Test.YtdcjjibekhcplaaGreatAah
import Derived.Test.YtdcjjibekhcplaaGreatProg
import Derived.KernelRfl
namespace Go.Ax
open Go Go.Proofs

def spX (k : Int) : Nat := spXs.getD (k % 64).toNat 0
def spY (k : Int) : Nat := spYs.getD (k % 64).toNat 0
theorem sp_leaf (j : Nat) (h : spChk j = true) : ∃ l H nd, spRun j = .ret (.c l .f32 (spXs.getD j 0) (spYs.getD j 0)) H nd ∧ nd = [] ∧ H = [] := by
  unfold spChk at h
  split at h <;> (try (cases h; done))
  rename_i v H nd hr
  split at h <;> (try (cases h; done))
  rename_i l x y
  simp only [Bool.and_eq_true] at h
  obtain ⟨⟨⟨h1, h2⟩, h3⟩, h4⟩ := h
  have e1 := Nat.eq_of_beq_eq_true h1
  have e2 := Nat.eq_of_beq_eq_true h2
  exact ⟨l, H, nd, by rw [hr, e1, e2], by simpa using h3, by simpa using h4⟩
theorem sp_ok (k : Int) (H : List AB) : CallOK Tryz.prog 154 [.i false .i64 k] H (.c false .f32 (spX k) (spY k)) H := by
  obtain ⟨e1, e2⟩ := sp0_fin k
  rw [mod_val] at e2
  obtain ⟨t0, e3, e4⟩ := leafM_stop e1 e2
  have hj : (k % 64).toNat < 64 := by omega
  have hk : k % 64 = Int.ofNat (k % 64).toNat := by simp; omega
  have hr : Reach Tryz.prog [.code spC] (.i false .i64 k :: undefs 53) [] spL (spT true (Int.ofNat (k % 64).toNat)) [] := by
    have h1 : Reach Tryz.prog [.code spC] (.i false .i64 k :: undefs 53) [] spL t0 [] := by
      refine toLoop_reach (n := 100) (nd := []) hT0 (T := noT) ?_ rfl
      have := e3
      unfold sp0 at this
      rw [this]; rfl
    refine (h1.weak (blur_eqv spM t0)).weak (eqv_of_bare ?_)
    rw [← e4, ← hk]
    rfl
  obtain ⟨l, H1, nd, e5, rfl, rfl⟩ := sp_leaf _ (sp_all _ hj)
  have e6 : (run Tryz.prog tabH 3000 spL (spT true (Int.ofNat (k % 64).toNat)) [] [] (retK Tryz.prog Tryz.f154 fun v H nd => .ret v H nd)).sel = .ret (.c l .f32 (spXs.getD (k % 64).toNat 0) (spYs.getD (k % 64).toNat 0)) [] [] := by
    unfold spRun at e5
    rw [e5]; rfl
  have hb : Tryz.f154.body = some spC := rfl
  have := call_of_stage tabH_sound (args := [.i false .i64 k]) Tryz.func154 hb hr e6 rfl
  exact (this.lift rfl rfl H rfl).weaken fun σ x r => (by cases r with | c h1 h2 => exact .c h1 h2)
def gSp : List AV → Option (AV × List Bool)
  | [.i _ .i64 k] => some (.c false .f32 (spX k) (spY k), [])
  | _ => none
theorem sp_at : SoundAt Tryz.prog 154 (pureT gSp) := fun args H nd K => by
  refine pureT_sound (fun args v n h hn H => ?_) args H nd K
  unfold gSp at h
  split at h <;> cases h
  rename_i l k
  exact (sp_ok k H).bare (args' := [.i l .i64 k]) rfl
end Go.Ax

/- What all ways of an evaluation come to. -/
namespace Go.Ax
open Go

structure Leaf where
  todo : List Item
  t : List AV
  H : List AB
  nd : List Bool
/-- All ways, where each comes to a place. -/
def Res.stops : Res → List Leaf
  | .stop todo t H nd => [⟨todo, t, H, nd⟩]
  | .ite _ x y => x.stops ++ y.stops
  | .ret _ _ _ => []
  | .fail => []
def Res.allStop : Res → Bool
  | .stop _ _ _ _ => true
  | .ite _ x y => x.allStop && y.allStop
  | .ret _ _ _ => false
  | .fail => false
theorem Res.stops_sel : ∀ {r : Res}, r.allStop = true → ∃ x ∈ r.stops, r.sel = .stop x.todo x.t x.H x.nd
  | .stop todo t H nd, _ => ⟨⟨todo, t, H, nd⟩, by simp [Res.stops], rfl⟩
  | .ite b x y, h => by
    simp only [Res.allStop, Bool.and_eq_true] at h
    cases b with
    | true =>
      obtain ⟨z, h1, h2⟩ := Res.stops_sel h.1
      exact ⟨z, by simp [Res.stops, h1], h2⟩
    | false =>
      obtain ⟨z, h1, h2⟩ := Res.stops_sel h.2
      exact ⟨z, by simp [Res.stops, h1], h2⟩
  | .ret _ _ _, h => by cases h
  | .fail, h => by cases h
/-- What the places have in common: where, what the temporaries hold, and what is to be shown (all of it one Bool). -/
def bareBlur (M : List Bool) (t : List AV) : List AV := (blur M t).map AV.bare
theorem cNext_loop (stop : List Item → Bool) (n : Nat) (c : Code) (k : List Item) : cNext stop (n + 1) (.code (.loop c) :: k) = cNext stop (n + 1) (.inLoop c :: k) := rfl
theorem cupto_loop (P : Program) (T : Table) (stop : List Item → Bool) (n : Nat) (c : Code) (k : List Item) (t : List AV) (H : List AB) : cupto P T stop n (.code (.loop c) :: k) t H = cupto P T stop n (.inLoop c :: k) t H := by
  cases n with
  | zero => rfl
  | succ n =>
    unfold cupto cRun
    rw [cNext_loop stop 99 c k]

def toLp : List Item → List Item
  | .code (.loop c) :: k => .inLoop c :: k
  | l => l
theorem cupto_toLp (P : Program) (T : Table) (stop : List Item → Bool) (n : Nat) (L : List Item) (t : List AV) (H : List AB) : cupto P T stop n (toLp L) t H = cupto P T stop n L t H := by
  unfold toLp
  split
  · exact (cupto_loop P T stop n _ _ t H).symm
  · rfl
/-- The kernel's part of a step from places to places: all ways stop, in memories that can be read. -/
def leafOf {β : Type} (M : List Bool) (fix : List AB → β) (x : Leaf) : List Item × List AV × β := (x.todo, bareBlur M x.t, fix x.H)
def Res.sound1 {α : Type} (r : Res) (get : List AB → Option α) : Bool := r.allStop && r.stops.all fun x => (get x.H).isSome
def Res.nds : Res → List Bool
  | .stop _ _ _ nd => nd
  | .ite _ x y => x.nds ++ y.nds
  | .ret _ _ nd => nd
  | .fail => []
theorem Res.nds_mem : ∀ {r : Res} {x : Leaf}, x ∈ r.stops → ∀ b ∈ x.nd, b ∈ r.nds
  | .stop todo t H nd, x, hx, b, hb => by
    simp only [Res.stops, List.mem_singleton] at hx
    subst hx
    exact hb
  | .ite _ y z, x, hx, b, hb => by
    simp only [Res.stops, List.mem_append] at hx
    simp only [Res.nds, List.mem_append]
    rcases hx with hx | hx
    · exact .inl (Res.nds_mem hx b hb)
    · exact .inr (Res.nds_mem hx b hb)
  | .ret _ _ _, x, hx, _, _ => by cases hx
  | .fail, x, hx, _, _ => by cases hx
theorem allT_of : ∀ {l : List Bool}, (∀ b ∈ l, b = true) → allT l = true
  | [], _ => rfl
  | b :: l, h => by
    rw [allT, Bool.and_eq_true]
    exact ⟨h b (by simp), allT_of fun x hx => h x (by simp [hx])⟩
noncomputable def Res.pack {α β : Type} (r : Res) (M : List Bool) (get : List AB → Option α) (fix : List AB → β) : Bool × List (List Item × List AV × β) × List Bool := (r.sound1 get, r.stops.map (leafOf M fix), r.nds)
def packed {β : Type} (L : List Item) (t : List AV) (fv : β) (m q : Nat) (ok : Bool) : Bool × List (List Item × List AV × β) × List Bool := (true, List.replicate m (L, t, fv), List.replicate q ok)
structure Steps1 {α β : Type} (r : Res) (L : List Item) (M : List Bool) (t : List AV) (get : List AB → Option α) (fix : List AB → β) (fv : β) (m q : Nat) (ok : Bool) : Prop where
  all : r.sound1 get = true
  eqs : r.stops.map (leafOf M fix) = List.replicate m (L, t, fv)
  nds : r.nds = List.replicate q ok
theorem Steps1.of {α β : Type} {r : Res} {L : List Item} {M : List Bool} {t : List AV} {get : List AB → Option α} {fix : List AB → β} {fv : β} {m q : Nat} {ok : Bool} (h : r.pack M get fix = packed L t fv m q ok) : Steps1 r L M t get fix fv m q ok := by
  simp only [Res.pack, packed, Prod.mk.injEq] at h
  exact ⟨h.1, h.2.1, h.2.2⟩
theorem map_mem {α β : Type} {f g : α → β} {l : List α} (h : l.map f = l.map g) {x : α} (hx : x ∈ l) : f x = g x := by
  induction l with
  | nil => cases hx
  | cons a l ih =>
    simp only [List.map_cons, List.cons.injEq] at h
    rcases List.mem_cons.1 hx with rfl | hx
    · exact h.1
    · exact ih h.2 hx
theorem Steps1.reach_sel {α β : Type} {P : Program} {T : Table} {stop : List Item → Bool} {n : Nat} {todo : List Item} {t0 : List AV} {H0 : List AB} {L : List Item} {M : List Bool} {t t' : List AV} {get : List AB → Option α} {fix : List AB → β} {fv : β} {m q : Nat} {ok : Bool} {r : Res} (hT : SoundT P T)
    (h : Steps1 r L M t get fix fv m q ok) (hs : (cupto P T stop n todo t0 H0).sel = r.sel) (hok : ok = true) (ht : t = t'.map AV.bare) : ∃ H x, get H = some x ∧ fix H = fv ∧ Reach P todo t0 H0 L t' H := by
  have hall := h.all
  unfold Res.sound1 at hall
  rw [Bool.and_eq_true] at hall
  obtain ⟨z, h1, h2⟩ := Res.stops_sel hall.1
  rw [← hs] at h2
  have hmem : leafOf M fix z ∈ List.replicate m (L, t, fv) := by
    rw [← h.eqs]
    exact List.mem_map.2 ⟨z, h1, rfl⟩
  have e := List.eq_of_mem_replicate hmem
  simp only [leafOf, Prod.mk.injEq] at e
  obtain ⟨e1, e2, e5⟩ := e
  have e4 : allT z.nd = true := allT_of fun b hb => by
    have := Res.nds_mem h1 b hb
    rw [h.nds, hok] at this
    exact List.eq_of_mem_replicate this
  have e3 := List.all_eq_true.1 hall.2 z h1
  cases hg : get z.H with
  | none => rw [hg] at e3; cases e3
  | some x =>
    refine ⟨z.H, x, hg, e5, ?_⟩
    rw [e1] at h2
    refine ((cupto_reach hT h2 e4).weak (blur_eqv M z.t)).weak (eqv_of_bare ?_)
    rw [← ht, ← e2]; rfl
theorem Steps1.reach {α β : Type} {P : Program} {T : Table} {n : Nat} {todo : List Item} {t0 : List AV} {H0 : List AB} {L : List Item} {M : List Bool} {t t' : List AV} {get : List AB → Option α} {fix : List AB → β} {fv : β} {m q : Nat} {ok : Bool} (hT : SoundT P T)
    (h : Steps1 (cupto P T atLoop n todo t0 H0) L M t get fix fv m q ok) (hok : ok = true) (ht : t = t'.map AV.bare) : ∃ H x, get H = some x ∧ fix H = fv ∧ Reach P todo t0 H0 L t' H := h.reach_sel hT rfl hok ht
/-- The end of a call: results and memory. -/
noncomputable def endOf (P : Program) (rs : List ResultVar) (r : Res) : Option (Option (List AV × List Bool) × List AB × List Bool) :=
  match r with
  | .ret v H nd => match v with
    | .tup t => some (resV P t H rs, H, nd)
    | _ => none
  | _ => none
theorem endOf_ends {P : Program} {T : Table} {stop : List Item → Bool} {n : Nat} {todo : List Item} {t0 : List AV} {H0 : List AB} {rs : List ResultVar} {r : Res} {x : Option (List AV × List Bool)} {H : List AB} {nd : List Bool} (hT : SoundT P T)
    (h : endOf P rs r = some (x, H, nd)) (hs : (cupto P T stop n todo t0 H0).sel = r.sel) (hn : allT nd = true) : ∃ t, Ends P todo t0 H0 t H ∧ resV P t H rs = x := by
  unfold endOf at h
  split at h <;> (try (cases h; done))
  split at h <;> cases h
  exact ⟨_, cupto_ends hT hs hn, rfl⟩

/-! ### One way -/
def Res.isStop : Res → Bool
  | .stop _ _ _ _ => true
  | _ => false
def Res.tOf : Res → List AV
  | .stop _ t _ _ => t
  | _ => []
def Res.HOf : Res → List AB
  | .stop _ _ H _ => H
  | _ => []
theorem Res.isStop_eq : ∀ {r : Res}, r.isStop = true → r = .stop r.todo r.tOf r.HOf r.nds
  | .stop _ _ _ _, _ => rfl
  | .ite _ _ _, h => by cases h
  | .ret _ _ _, h => by cases h
  | .fail, h => by cases h
def atReg (n : Nat) : List Item → Bool
  | .code (.region id _ _) :: _ => Nat.beq id n
  | _ => false
theorem one_reach {P : Program} {T : Table} {stop : List Item → Bool} {n : Nat} {todo : List Item} {t0 : List AV} {H0 : List AB} {r : Res} (hT : SoundT P T) (hr : (cupto P T stop n todo t0 H0).sel = r.sel) (hs : r.isStop = true) (hn : allT r.nds = true) : Reach P todo t0 H0 r.todo r.tOf r.HOf := by
  have e := Res.isStop_eq hs
  have h1 : (cupto P T stop n todo t0 H0).sel = .stop r.todo r.tOf r.HOf r.nds := by
    rw [hr]
    conv => lhs; rw [e]
    rfl
  exact cupto_reach hT h1 hn
end Go.Ax

/- A call's answer along one way through its tests. -/
namespace Go.Ax
open Go

/-- Finite. -/
noncomputable def finB (x : Nat) : Bool := feq .f32 (fsub .f32 x x) 0
def plusF (x : Nat) : Nat := bif feq .f32 x 0 then 0 else x
/-- What must hold along a way. -/
def condsP : Res → List Bool → List Bool
  | .ite b x y, d :: l => match d with
    | true => b :: condsP x l
    | false => (!b) :: condsP y l
  | _, _ => []
def leafP : Res → Option (AV × List Bool)
  | .ret v _ nd => some (v, nd)
  | _ => none
theorem sel_of_conds : ∀ (r : Res) (l : List Bool), allT (condsP r l) = true → r.sel = (r.at l).sel
  | .ite b x y, d :: l, h => by
    cases d with
    | true =>
      simp only [condsP, allT, Bool.and_eq_true] at h
      simp only [Res.sel, Res.at, h.1, if_true]
      exact sel_of_conds x l h.2
    | false =>
      simp only [condsP, allT, Bool.and_eq_true, Bool.not_eq_true'] at h
      simp only [Res.sel, Res.at, h.1]
      exact sel_of_conds y l h.2
  | .ite _ _ _, [], _ => rfl
  | .ret _ _ _, _, _ => by simp [Res.at]
  | .stop _ _ _ _, _, _ => by simp [Res.at]
  | .fail, _, _ => by simp [Res.at]
theorem call_of_path {P : Program} {T : Table} {f : FuncId} {args : List AV} {H : List AB} {dirs conds nd : List Bool} {v : AV} (hT : SoundT P T)
    (h : (condsP (T f args H [] fun v H nd => .ret v H nd) dirs, leafP ((T f args H [] fun v H nd => .ret v H nd).at dirs)) = (conds, some (v, nd))) (hc : allT conds = true) (hn : allT nd = true) : ∃ H', CallOK P f args H v H' := by
  simp only [Prod.mk.injEq] at h
  obtain ⟨h1, h2⟩ := h
  have e := sel_of_conds _ dirs (by rw [h1]; exact hc)
  generalize hl : (T f args H [] fun v H nd => .ret v H nd).at dirs = r at h2 e
  unfold leafP at h2
  split at h2 <;> cases h2
  exact ⟨_, call_of_sel hT e hn⟩

noncomputable def lfM (M : List Bool) (r : Res) : Bool × List Item × List AV × List AB × List Bool := (r.isStop, r.todo, bareBlur M r.tOf, r.HOf, r.nds)
theorem isStop_at {r : Res} {L : List Bool} (h : (r.at L).isStop = true) (hc : allT (condsP r L) = true) : r.sel = .stop (r.at L).todo (r.at L).tOf (r.at L).HOf (r.at L).nds := by
  rw [sel_of_conds r L hc]
  conv => lhs; rw [Res.isStop_eq h]
  rfl
end Go.Ax

/- spec.PhaseOf: the same as impl.PhaseOf. -/
namespace Go.Ax
open Go Go.Proofs

noncomputable def rowsS : List (FuncId × Table) := [(154, pureT gSp)]
theorem rowsS_at : allAt Tryz.prog rowsS := ⟨sp_at, trivial⟩
noncomputable def tabS : Table := deep Tryz.prog rowsS [] 300 5
theorem tabS_sound : SoundT Tryz.prog tabS := deep_sound (allAt_mem rowsS_at) 5
theorem plus_all : ((List.range 64).all fun j => Nat.beq (plusF (spXs.getD j 0)) (phXs.getD j 0) && Nat.beq (plusF (spYs.getD j 0)) (phYs.getD j 0)) = true := by kernel_rfl
theorem plus_ph (k : Int) : plusF (spX k) = phX k ∧ plusF (spY k) = phY k := by
  have hj : (k % 64).toNat < 64 := by omega
  have h := List.all_eq_true.1 plus_all (k % 64).toNat (by simpa using hj)
  rw [Bool.and_eq_true] at h
  have e1 := Nat.eq_of_beq_eq_true h.1
  have e2 := Nat.eq_of_beq_eq_true h.2
  have hk : k % 64 = ((k % 64).toNat : Int) := by omega
  constructor
  · unfold spX phX
    rw [e1]
    generalize (k % 64).toNat = j at hk hj
    rw [hk, chain_get _ _ 63 (by omega)]
  · unfold spY phY
    rw [e2]
    generalize (k % 64).toNat = j at hk hj
    rw [hk, chain_get _ _ 63 (by omega)]
end Go.Ax

/- spec.l01Simple: some complex number with simple parts. -/
namespace Go.Ax
open Go Go.Proofs

noncomputable def rows7 (mx : Int) : List (FuncId × Table) := (154, pureT gSp) :: rows6 mx
theorem rows7_at (mx : Int) : allAt Tryz.prog (rows7 mx) := ⟨sp_at, rows6_at mx⟩
noncomputable def tab7 (mx : Int) : Table := deep Tryz.prog (rows7 mx) [73, 180] 2000 6
theorem tab7_sound (mx : Int) : SoundT Tryz.prog (tab7 mx) := deep_sound (allAt_mem (rows7_at mx)) 6
noncomputable def simR (c : Cd) (a : Nat) (h : Int) : Option ((Nat × Nat) × Nat × Int × List Bool) :=
  srcEx formC c (runF Tryz.prog (tab7 9) 1000 220 [.p true 1 0] [codeB c false, srcB c a h] [] fun v H nd => .ret v H nd)
theorem sim_nd (c : Cd) (a : Nat) (h : Int) : (simR c a h).map (fun r => r.2.2.2) = some (List.replicate 661 (okB c c.off c.len)) := by kernel_rfl
theorem sim_ex {c : Cd} (hc : goodB c = true) (a : Nat) (h : Int) : ∃ (x : Nat × Nat) (a' : Nat) (h' : Int), SrcOK Tryz.prog 220 [] c a h (.c false .f32 x.1 x.2) a' h' := by
  have hn := sim_nd c a h
  have hk : okB c c.off c.len = true := by simp [okB, hc]
  cases hr : simR c a h with
  | none => rw [hr] at hn; cases hn
  | some r =>
    obtain ⟨x, a', h', nd⟩ := r
    rw [hr] at hn
    simp only [Option.map_some, Option.some.injEq] at hn
    refine ⟨x, a', h', srcOK_of_ex (F := formC) (runF_sound (tab7_sound 9) 1000) hr ?_ rfl⟩
    rw [hn, hk]
    exact allT_rep 661
noncomputable def simV (c : Cd) (a : Nat) (h : Int) : (Nat × Nat) × Nat × Int :=
  open Classical in if hx : ∃ r : (Nat × Nat) × Nat × Int, SrcOK Tryz.prog 220 [] c a h (.c false .f32 r.1.1 r.1.2) r.2.1 r.2.2 then hx.choose else ((0, 0), a, h)
theorem simV_ok {c : Cd} (hc : goodB c = true) (a : Nat) (h : Int) : SrcOK Tryz.prog 220 [] c a h (.c false .f32 (simV c a h).1.1 (simV c a h).1.2) (simV c a h).2.1 (simV c a h).2.2 := by
  obtain ⟨x, a', h', hx⟩ := sim_ex hc a h
  have he : ∃ r : (Nat × Nat) × Nat × Int, SrcOK Tryz.prog 220 [] c a h (.c false .f32 r.1.1 r.1.2) r.2.1 r.2.2 := ⟨(x, a', h'), hx⟩
  unfold simV
  rw [dif_pos he]
  exact he.choose_spec
noncomputable def simT : Table := srcT fun c a h sc => match sc with
  | [] => some (.c false .f32 (simV c a h).1.1 (simV c a h).1.2, (simV c a h).2.1, (simV c a h).2.2, [])
  | _ => none
theorem sim_at : SoundAt Tryz.prog 220 simT := fun args H nd K => by
  refine srcT_sound (fun c a h sc v a' h' q hc hg _ => ?_) args H nd K
  split at hg <;> cases hg
  exact simV_ok hc a h
end Go.Ax

/- Waves: what the tests of waves come to. -/
namespace Go.Ax
open Go Go.Proofs

noncomputable def wholeB (z : Nat × Nat) : Bool := cond (finB z.1) (finB z.2) false
noncomputable def zeroB (z : Nat × Nat) : Bool := feq .f32 z.1 0 && feq .f32 z.2 0
/-- The tests of the cells of a wave, from one on; the last one's form is its own. -/
noncomputable def isWF (N : Nat) (X : Nat → Nat × Nat) : Nat → Nat → Bool
  | 0, j => match Nat.ble N j with
    | true => cond (!wholeB (X j)) false (!(!zeroB (X j)))
    | false => !(!wholeB (X j))
  | m + 1, j => match Nat.ble N j with
    | true => cond (!wholeB (X j)) false (cond (!zeroB (X j)) false (isWF N X m (Nat.succ j)))
    | false => cond (!wholeB (X j)) false (isWF N X m (Nat.succ j))
theorem isWF_iff (N : Nat) (X : Nat → Nat × Nat) : ∀ (m j : Nat), isWF N X m j = true ↔ ∀ i, i ≤ m → wholeB (X (j + i)) = true ∧ (N ≤ j + i → zeroB (X (j + i)) = true)
  | 0, j => by
    unfold isWF
    constructor
    · intro h i hi
      have : i = 0 := by omega
      subst this
      rw [Nat.add_zero]
      split at h
      · cases hw : wholeB (X j) <;> rw [hw] at h <;> simp at h
        exact ⟨rfl, fun _ => h⟩
      · rename_i hb
        simp at h
        exact ⟨h, fun hn => by have := Nat.ble_eq_true_of_le hn; rw [this] at hb; cases hb⟩
    · intro h
      obtain ⟨h1, h2⟩ := h 0 (Nat.le_refl 0)
      rw [Nat.add_zero] at h1 h2
      split
      · rename_i hb
        rw [h1, h2 (Nat.le_of_ble_eq_true hb)]; rfl
      · rw [h1]; rfl
  | m + 1, j => by
    have ih := isWF_iff N X m (j + 1)
    unfold isWF
    rw [Nat.succ_eq_add_one]
    have key : (∀ i, i ≤ m + 1 → wholeB (X (j + i)) = true ∧ (N ≤ j + i → zeroB (X (j + i)) = true)) ↔ (wholeB (X j) = true ∧ (N ≤ j → zeroB (X j) = true)) ∧ isWF N X m (j + 1) = true := by
      rw [ih]
      constructor
      · intro h
        refine ⟨h 0 (by omega), fun i hi => ?_⟩
        have := h (i + 1) (by omega)
        rwa [show j + (i + 1) = j + 1 + i by omega] at this
      · rintro ⟨h0, h⟩ i hi
        cases i with
        | zero => exact h0
        | succ i =>
          have := h i (by omega)
          rwa [show j + 1 + i = j + (i + 1) by omega] at this
    rw [key]
    split
    · rename_i hb
      have hb := Nat.le_of_ble_eq_true hb
      cases wholeB (X j) <;> cases zeroB (X j) <;> simp [hb]
    · rename_i hb
      have hb : ¬ N ≤ j := fun hn => by have := Nat.ble_eq_true_of_le hn; rw [this] at hb; cases hb
      cases wholeB (X j) <;> simp [hb]
def sideB (n : Int) : Bool := n == 1 || (n == 2 || (n == 4 || n == 8))
theorem sideB_iff {n : Int} : sideB n = true ↔ n = 1 ∨ n = 2 ∨ n = 4 ∨ n = 8 := by simp [sideB]
noncomputable def isWaveB (n : Int) (X : Nat → Nat × Nat) : Bool := sideB n && isWF (n.toNat * n.toNat) X 63 0
theorem isWaveB_iff {n : Int} {X : Nat → Nat × Nat} : isWaveB n X = true ↔ (n = 1 ∨ n = 2 ∨ n = 4 ∨ n = 8) ∧ ∀ j, j < 64 → wholeB (X j) = true ∧ (n.toNat * n.toNat ≤ j → zeroB (X j) = true) := by
  unfold isWaveB
  rw [Bool.and_eq_true, sideB_iff, isWF_iff]
  constructor
  · rintro ⟨h1, h2⟩
    exact ⟨h1, fun j hj => by simpa using h2 j (by omega)⟩
  · rintro ⟨h1, h2⟩
    exact ⟨h1, fun j hj => by simpa using h2 j (by omega)⟩

/-- A wave as a value. -/
def waveL (n : Int) (X : Nat → Nat × Nat) : List AV := .i false .i64 n :: (List.range 64).map (cx X)
def wvT (l : Bool) (n : Int) (X : Nat → Nat × Nat) : AV := .agg (.i l .i64 n :: (List.range 64).map (cx X))
def wv (n : Int) (X : Nat → Nat × Nat) : AV := .agg (waveL n X)
theorem RelL.unbare {σ : List (Nat × Nat)} : ∀ {l : List AV} {v : List Value}, RelL σ (l.map AV.bare) v → RelL σ l v
  | [], _, h => h
  | a :: l, _, h => by
    cases h with | cons h hs => exact .cons h.unbare (RelL.unbare hs)
theorem RelL.bare {σ : List (Nat × Nat)} : ∀ {l : List AV} {v : List Value}, RelL σ l v → RelL σ (l.map AV.bare) v
  | _, _, .nil => .nil
  | _, _, .cons h hs => .cons h.bare (RelL.bare hs)
theorem agg_bare {l l' : List AV} (h : l.map AV.bare = l'.map AV.bare) {σ : List (Nat × Nat)} {v : Value} (r : Rel σ (.agg l) v) : Rel σ (.agg l') v := by
  cases r with | agg r => exact .agg (RelL.unbare (h ▸ r.bare))
/-- Values that say the same, tags aside. -/
def AV.deep : AV → AV
  | .agg l => .agg (l.map AV.bare)
  | a => a.bare
theorem Rel.deep {σ : List (Nat × Nat)} {a : AV} {v : Value} (r : Rel σ a v) : Rel σ a.deep v := by
  cases a
  case agg l => cases r with | agg r => exact .agg r.bare
  all_goals exact r.bare
theorem Rel.undeep {σ : List (Nat × Nat)} {a : AV} {v : Value} (r : Rel σ a.deep v) : Rel σ a v := by
  cases a
  case agg l => cases r with | agg r => exact .agg r.unbare
  all_goals exact r.unbare
theorem relL_deep {σ : List (Nat × Nat)} : ∀ {l l' : List AV} {v : List Value}, l.map AV.deep = l'.map AV.deep → RelL σ l v → RelL σ l' v
  | [], [], _, _, h => h
  | [], _ :: _, _, e, _ => by cases e
  | _ :: _, [], _, e, _ => by cases e
  | a :: l, b :: l', _, e, h => by
    simp only [List.map_cons, List.cons.injEq] at e
    cases h with | cons h hs => exact .cons (e.1 ▸ h.deep).undeep (relL_deep e.2 hs)
theorem CallOK.deep {P : Program} {f : FuncId} {args args' : List AV} {v : AV} {H H' : List AB} (h : CallOK P f args H v H') (hb : args'.map AV.deep = args.map AV.deep) : CallOK P f args' H v H' := fun σ w rargs s hra =>
  h σ w rargs s (relL_deep hb hra)

noncomputable def tabW : Table := tabOf (cdeep Tryz.prog [] [] 3000 8)
theorem tabW_sound : SoundT Tryz.prog tabW := cdeep_sound (fun p hp => by cases hp) 8
theorem is_run (f : FuncId) (hf : f = 137 ∨ f = 162) (X : Nat → Nat × Nat) : (∀ n ∈ ([1, 2, 4, 8] : List Int), joinR 0 (tabW f [wvT true n X] [] [] fun v H nd => .ret v H nd) = some (.b false (isWF (n.toNat * n.toNat) X 63 0), [])) := by
  intro n hn
  simp only [List.mem_cons, List.not_mem_nil, or_false] at hn
  rcases hf with rfl | rfl <;> rcases hn with rfl | rfl | rfl | rfl <;> kernel_rfl

/-! ### Numbers that are no sides -/
theorem side_run (f : FuncId) (hf : f = 123 ∨ f = 108) (n : Int) : joinR 0 (tabW f [.i false .i64 n] [] [] fun v H nd => .ret v H nd) = some (.b false (cond (n == 1) true (cond (n == 2) true (cond (n == 4) true (n == 8)))), []) := by
  rcases hf with rfl | rfl <;> kernel_rfl
def gNoSide : List AV → Option (AV × List Bool)
  | [.i false .i64 n] => some (.b true false, [!sideB n])
  | _ => none
theorem noSide_at (f : FuncId) (hf : f = 123 ∨ f = 108) : SoundAt Tryz.prog f (pureT gNoSide) := fun args H nd K => by
  refine pureT_sound (fun args v n h hn H => ?_) args H nd K
  unfold gNoSide at h
  split at h <;> cases h
  rename_i n
  have hs : sideB n = false := by simpa [allT] using hn
  have := call_of_join tabW_sound (side_run f hf n) rfl rfl H
  refine this.weaken fun σ x r => ?_
  have e : cond (n == 1) true (cond (n == 2) true (cond (n == 4) true (n == 8))) = false := by
    rw [← hs]; unfold sideB; cases n == 1 <;> cases n == 2 <;> cases n == 4 <;> rfl
  rw [e] at r
  cases r; exact .b _
noncomputable def rowsN : List (FuncId × Table) := [(123, pureT gNoSide), (108, pureT gNoSide)]
theorem rowsN_at : ∀ p ∈ rowsN, SoundAt Tryz.prog p.1 p.2 := fun p hp => by
  simp only [rowsN, List.mem_cons, List.not_mem_nil, or_false] at hp
  rcases hp with rfl | rfl
  · exact noSide_at 123 (.inl rfl)
  · exact noSide_at 108 (.inr rfl)
noncomputable def tabN : Table := tabOf (cdeep Tryz.prog rowsN [] 3000 8)
theorem tabN_sound : SoundT Tryz.prog tabN := cdeep_sound rowsN_at 8
theorem is_no (f : FuncId) (hf : f = 137 ∨ f = 162) (n : Int) (X : Nat → Nat × Nat) : joinR 0 (tabN f [wvT false n X] [] [] fun v H nd => .ret v H nd) = some (.b true false, [!sideB n]) := by
  rcases hf with rfl | rfl <;> kernel_rfl
theorem is_ok (f : FuncId) (hf : f = 137 ∨ f = 162) (n : Int) (X : Nat → Nat × Nat) (H : List AB) : CallOK Tryz.prog f [wv n X] H (.b false (isWaveB n X)) H := by
  by_cases hs : sideB n = true
  · have hn := sideB_iff.1 hs
    have := call_of_join tabW_sound (is_run f hf X n (by simpa using hn)) rfl rfl H
    have e : isWaveB n X = isWF (n.toNat * n.toNat) X 63 0 := by simp [isWaveB, hs]
    rw [e]
    exact this.deep rfl
  · have hs : sideB n = false := by simpa using hs
    have := call_of_join tabN_sound (is_no f hf n X) (by simp [allT, hs]) rfl H
    have e : isWaveB n X = false := by simp [isWaveB, hs]
    rw [e]
    exact (this.deep (args' := [wv n X]) rfl).weaken fun σ x r => by cases r; exact .b _
end Go.Ax

/- Table rows on waves. -/
namespace Go.Ax
open Go Go.Proofs

/-- The numbers of a wave. -/
def ofW : List AV → Option (Int × (Nat → Nat × Nat))
  | .i _ .i64 n :: l => match asC64 l with
    | some xs => match Nat.beq xs.length 64 with
      | true => some (n, fun j => xs.getD j (0, 0))
      | false => none
    | none => none
  | _ => none
theorem ofW_spec {l : List AV} {n : Int} {X : Nat → Nat × Nat} (h : ofW l = some (n, X)) : (AV.agg l).deep = (wv n X).deep := by
  unfold ofW at h
  split at h <;> (try (cases h; done))
  split at h <;> (try (cases h; done))
  rename_i xs hx
  split at h <;> (try (cases h; done))
  rename_i hlen
  simp only [Option.some.injEq, Prod.mk.injEq] at h
  obtain ⟨rfl, rfl⟩ := h
  have e1 := asC64_bare hx
  rw [map_range_getD (fun z => AV.c false .f32 z.1 z.2) (0, 0) xs 64 (Nat.eq_of_beq_eq_true hlen)] at e1
  simp only [AV.deep, wv, waveL, List.map_cons, e1]
  rw [List.map_map]
  rfl
noncomputable def gIsWave : List AV → Option (AV × List Bool)
  | [.agg l] => match ofW l with
    | some (n, X) => some (.b false (isWaveB n X), [])
    | none => none
  | _ => none
theorem isWave_at (f : FuncId) (hf : f = 137 ∨ f = 162) : SoundAt Tryz.prog f (pureT gIsWave) := fun args H nd K => by
  refine pureT_sound (fun args v n h hn H => ?_) args H nd K
  unfold gIsWave at h
  split at h <;> (try (cases h; done))
  split at h <;> cases h
  rename_i hl
  exact (is_ok f hf _ _ H).deep (by simp [ofW_spec hl])
noncomputable def rowsW : List (FuncId × Table) := [(137, pureT gIsWave), (162, pureT gIsWave)]
theorem rowsW_at : ∀ p ∈ rowsW, SoundAt Tryz.prog p.1 p.2 := fun p hp => by
  simp only [rowsW, List.mem_cons, List.not_mem_nil, or_false] at hp
  rcases hp with rfl | rfl
  · exact isWave_at 137 (.inl rfl)
  · exact isWave_at 162 (.inr rfl)
noncomputable def tabX : Table := tabOf (cdeep Tryz.prog rowsW [] 3000 8)
theorem tabX_sound : SoundT Tryz.prog tabX := cdeep_sound rowsW_at 8
end Go.Ax
