/- Drawing functions that branch ahead of a region of the mixed kind. -/
import Derived.Test.YtdcjjibekhcplaaGreatBap
namespace Go.Ax
open Go Go.Proofs

def opsOf : List Item → Array Oper
  | .code (.region _ ops _) :: _ => ops
  | _ => #[]
def tlOf : List Item → List Item
  | _ :: k => k
  | [] => []
def rwAt (H : List AB) (i : Nat) : Bool := (getB H i).rw
noncomputable def endF {α : Type} (F : Form α) (rs : List ResultVar) (r : Res) : Option (α × List Bool) :=
  match endOf Tryz.prog rs r with
  | some (x, _, nd) => match x with
    | some (vs, m) => match F.get (tupV vs) with
      | some y => some (y, m ++ nd)
      | none => none
    | none => none
  | none => none
noncomputable def endN {α : Type} (x : Option (α × List Bool)) : Option (List Bool) := x.map (·.2)
noncomputable def mx0 (T : Table) (C : Code) (rid nt : Nat) (c : Cd) : Res := cupto Tryz.prog T (atReg rid) 100 [.code C] (.sl false 0 c.off c.len 0 :: undefs nt) [codeB c false]
noncomputable def mx1 (T : Table) (E : List FuncId) (src m : Nat) (L : List Item) (x : Leaf) : Res := runM Tryz.prog T E src ((opsOf L).toList.take m) x.t x.H [] fun t H nd => runOps Tryz.prog T (opsOf L) ((opsOf L).toList.drop m) t H nd fun t H nd => .stop [] t H nd
noncomputable def mx2 (T : Table) (L : List Item) (r : Res) : Res := cupto Tryz.prog T (fun _ => false) 100 (tlOf L) r.tOf r.HOf
noncomputable def mxLeaf {α : Type} (T : Table) (E : List FuncId) (src m : Nat) (L : List Item) (F : Form α) (rs : List ResultVar) (x : Leaf) : List Item × Bool × Bool × List Item × List Bool × Option (List Bool) :=
  (x.todo, rwAt x.H src, (mx1 T E src m L x).isStop, (mx1 T E src m L x).todo, x.nd ++ (mx1 T E src m L x).nds, endN (endF F rs (mx2 T L (mx1 T E src m L x))))
theorem mix_draw {α : Type} {T0 T : Table} {C : Code} {rid nt src m : Nat} {E : List FuncId} {L : List Item} {F : Form α} {f : FuncId} {fn : Func} {c : Cd} {qs : List Nat} (hT0 : SoundT Tryz.prog T0) (hT : SoundT Tryz.prog T) (hc : goodB c = true)
    (hfn : Tryz.prog.funcs[f]? = some fn) (hb : fn.body = some C) (hnt : fn.ntmps = nt + 1)
    (hL : L = .code (.region rid (opsOf L) true) :: tlOf L) (hd : (drawOK (opsOf L) m && effOK E (opsOf L) m && Tryz.prog.follows .mixedOrders && Nat.ble m (opsOf L).size) = true)
    (h0 : (mx0 T0 C rid nt c).allStop = true) (hl : (mx0 T0 C rid nt c).stops.map (mxLeaf T E src m L F fn.results.toList) = qs.map fun q => (L, true, true, [], List.replicate q (okB c c.off c.len), some [])) : ∃ x, DrawOK Tryz.prog f c (F.val x) := by
  obtain ⟨x, hx, hs⟩ := Res.stops_sel h0
  have hmem : mxLeaf T E src m L F fn.results.toList x ∈ qs.map fun q => (L, true, true, [], List.replicate q (okB c c.off c.len), some []) := by
    rw [← hl]
    exact List.mem_map.2 ⟨x, hx, rfl⟩
  obtain ⟨q, _, hq⟩ := List.mem_map.1 hmem
  simp only [mxLeaf, Prod.mk.injEq] at hq
  obtain ⟨a2, a3, b1, b2, hnd, hn⟩ := hq
  have hall := nd_ok hc hnd.symm
  rw [allT_append, Bool.and_eq_true] at hall
  have r0 := cupto_reach hT0 hs hall.1
  rw [← a2, hL] at r0
  simp only [Bool.and_eq_true] at hd
  obtain ⟨⟨⟨d1, d2⟩, d3⟩, d4⟩ := hd
  have e1 := Res.isStop_eq b1.symm
  rw [← b2] at e1
  have hsel : (mx1 T E src m L x).sel = .stop [] (mx1 T E src m L x).tOf (mx1 T E src m L x).HOf (mx1 T E src m L x).nds := by
    conv => lhs; rw [e1]
    rfl
  have r1 := mix_reach (k := tlOf L) (id := rid) hT d3 (Nat.le_of_ble_eq_true d4) d1 d2 a3.symm hsel hall.2
  cases hr : endF F fn.results.toList (mx2 T L (mx1 T E src m L x)) with
  | none => rw [hr] at hn; cases hn
  | some y =>
    obtain ⟨x, nd⟩ := y
    rw [hr] at hn
    simp only [endN, Option.map_some, Option.some.injEq] at hn
    subst hn
    unfold endF at hr
    split at hr <;> (try (cases hr; done))
    rename_i rx H nd0 he
    split at hr <;> (try (cases hr; done))
    rename_i vs m
    split at hr <;> (try (cases hr; done))
    rename_i y hy
    simp only [Option.some.injEq, Prod.mk.injEq, List.append_eq_nil_iff] at hr
    obtain ⟨rfl, rfl, rfl⟩ := hr
    obtain ⟨t, g1, g2⟩ := endOf_ends hT he rfl rfl
    have hcall := call_of_ends (args := [.sl false 0 c.off c.len 0]) hfn hb (by rw [hnt]; exact (r0.trans r1).ends g1) g2 rfl
    have hw := hcall.weaken fun σ z r => F.rel hy σ z r
    exact ⟨y, fun Hr => hw.read (F.low y) rfl Hr⟩
end Go.Ax

/- Pictures and numbers drawn. -/
namespace Go.Ax
open Go Go.Proofs

def normP : List AV → Option (List AV × List Bool)
  | [.agg l] => match ofP l, belowL 0 l with
    | some (n, X), true => some ([pv n X], [])
    | _, _ => none
  | _ => none
instance : Inhabited (Int × (Nat → Nat)) := ⟨(0, fun _ => 0)⟩
instance : Inhabited ((Int × (Nat → Nat)) × (Int × (Nat → Nat))) := ⟨((0, fun _ => 0), (0, fun _ => 0))⟩
theorem normP_at {α : Type} [Inhabited α] {F : Form α} {f : FuncId} (h : ∀ n X c a h, goodB c = true → ∃ x a' h', SrcOK Tryz.prog f [pv n X] c a h (F.val x) a' h') : SoundAt Tryz.prog f (exT F f normP) :=
  exT_at fun sc sc' q hs _ => by
    unfold normP at hs
    split at hs <;> (try (cases hs; done))
    split at hs <;> cases hs
    rename_i hl hb _
    exact ⟨by simp [ofP_spec hl], by simp [belowL, below, hb], h _ _⟩
noncomputable def badPNd (k : Bool) (v : Int) : List Bool := List.replicate 15 k ++ ([decide (1 + v.toNat * 1 < 65), !decide (1 + v.toNat * 1 = 0), decide (0 ≤ v) && decide (v < ((64 : Nat) : Int))] ++ List.replicate 4 k)
noncomputable def rowsP1 (mx : Int) : List (FuncId × Table) := (164, dpTb) :: rows11 mx
theorem rowsP1_at (mx : Int) : allAt Tryz.prog (rowsP1 mx) := ⟨dpTb_at, rows11_at mx⟩
noncomputable def tabP1 (mx : Int) : Table := tabOf (cdeep Tryz.prog (rowsP1 mx) [73, 180, 95, 163, 96, 103] 2000 6)
theorem tabP1_sound (mx : Int) : SoundT Tryz.prog (tabP1 mx) := cdeep_sound (allAt_mem (rowsP1_at mx)) 6
theorem badP_nd (n : Int) (X : Nat → Nat) (c : Cd) (a : Nat) (h : Int) : ndsOf formP (tabP1 5) 163 [pv n X] c a h = some (badPNd (okB c c.off c.len) (nxV c (nxA c a 40) (nxS h 40) 64)) := by kernel_rfl
theorem badP_at : SoundAt Tryz.prog 163 (exT formP 163 normP) := normP_at fun n X c a h hc => by
  refine src_ex' (tabP1_sound 5) (badP_nd n X c a h) ?_ (by simp [belowL, pv_low])
  have hk : okB c c.off c.len = true := by simp [okB, hc]
  have hb := nxV_bound hc (nxA c a 40) (nxS h 40) 64
  have hb2 := hb.2 (by decide)
  generalize nxV c (nxA c a 40) (nxS h 40) 64 = v at *
  have e1 : decide (1 + v.toNat * 1 < 65) = true := by simp; omega
  have e2 : (!decide (1 + v.toNat * 1 = 0)) = true := by simp
  have e3 : (decide (0 ≤ v) && decide (v < ((64 : Nat) : Int))) = true := by simp; omega
  unfold badPNd
  rw [hk, e1, e2, e3]
  rfl
noncomputable def numF (v : Int) : Bool := fcvtOK .f64 .f32 (fdiv .f64 (FloatKind.f64.nearest (wrapQ false .i64 (1 + v))) 4616189618054758400)
noncomputable def numPNd (k : Bool) (v : Int) : List Bool := List.replicate 23 k ++ ([numF v] ++ List.replicate 2 k)
theorem numP_nd (c : Cd) (a : Nat) (h : Int) : ndsOf formF (tabP1 1) 103 [] c a h = some (numPNd (okB c c.off c.len) (nxV c (nxA c a 8) (nxS h 8) 8)) := by kernel_rfl
theorem numF_all : (List.range 8).all (fun v => fcvtOK .f64 .f32 (fdiv .f64 (FloatKind.f64.nearest (wrapQ false .i64 (1 + Int.ofNat v))) 4616189618054758400)) = true := by decide +kernel
theorem numP_at : SoundAt Tryz.prog 103 (exT formF 103 norm0) := norm0_at fun c a h hc => by
  refine src_ex' (tabP1_sound 1) (numP_nd c a h) ?_ rfl
  have hk : okB c c.off c.len = true := by simp [okB, hc]
  have hb := nxV_bound hc (nxA c a 8) (nxS h 8) 8
  have hb2 := hb.2 (by decide)
  generalize nxV c (nxA c a 8) (nxS h 8) 8 = v at *
  have := List.all_eq_true.1 numF_all v.toNat (by simp; omega)
  have e : Int.ofNat v.toNat = v := by simp; omega
  rw [e] at this
  have e1 : numF v = true := by
    unfold numF
    exact this
  unfold numPNd
  rw [hk, e1]
  rfl
noncomputable def rowsP2 (mx : Int) : List (FuncId × Table) := (163, exT formP 163 normP) :: (103, exT formF 103 norm0) :: rowsP1 mx
theorem rowsP2_at (mx : Int) : allAt Tryz.prog (rowsP2 mx) := ⟨badP_at, numP_at, rowsP1_at mx⟩
noncomputable def tabP2 (mx : Int) : Table := tabOf (cdeep Tryz.prog (rowsP2 mx) [73, 180, 95, 96] 2000 6)
theorem tabP2_sound (mx : Int) : SoundT Tryz.prog (tabP2 mx) := cdeep_sound (allAt_mem (rowsP2_at mx)) 6
theorem picP_nd (c : Cd) (a : Nat) (h : Int) : ndsOf formP (tabP2 7) 96 [] c a h = some (List.replicate 28 (okB c c.off c.len)) := by kernel_rfl
theorem picP_at : SoundAt Tryz.prog 96 (exT formP 96 norm0) := norm0_at fun c a h hc => src_ex (tabP2_sound 7) (picP_nd c a h) hc rfl
noncomputable def rowsP3 (mx : Int) : List (FuncId × Table) := (96, exT formP 96 norm0) :: rowsP2 mx
theorem rowsP3_at (mx : Int) : allAt Tryz.prog (rowsP3 mx) := ⟨picP_at, rowsP2_at mx⟩
noncomputable def tabP3 (mx : Int) : Table := tabOf (cdeep Tryz.prog (rowsP3 mx) [73, 180, 95, 36, 42, 45, 48, 51, 54, 57, 60, 90] 2000 6)
theorem tabP3_sound (mx : Int) : SoundT Tryz.prog (tabP3 mx) := cdeep_sound (allAt_mem (rowsP3_at mx)) 6
/-! ### Forms -/
def form2 {α β : Type} (F : Form α) (G : Form β) : Form (α × β) where
  get := fun
    | .tup [a, b] => match F.get a, G.get b with
      | some x, some y => some (x, y)
      | _, _ => none
    | _ => none
  val := fun x => .tup [F.val x.1, G.val x.2]
  rel := fun {v x} h σ y r => by
    split at h <;> (try (cases h; done))
    split at h <;> cases h
    rename_i a b x1 x2 h1 h2
    cases r with | tup hr =>
    generalize hal : Array.toList _ = al at hr
    cases hr with | cons r1 hr => cases hr with | cons r2 hr => cases hr with | nil =>
    refine .tup ?_
    rw [hal]
    exact .cons (F.rel h1 σ _ r1) (.cons (G.rel h2 σ _ r2) .nil)
  low := fun x => by
    have h1 := F.low x.1
    have h2 := G.low x.2
    simp [below, belowL, h1, h2]
def form3 {α β γ : Type} (F : Form α) (G : Form β) (K : Form γ) : Form (α × β × γ) where
  get := fun
    | .tup [a, b, c] => match F.get a, G.get b, K.get c with
      | some x, some y, some z => some (x, y, z)
      | _, _, _ => none
    | _ => none
  val := fun x => .tup [F.val x.1, G.val x.2.1, K.val x.2.2]
  rel := fun {v x} h σ y r => by
    split at h <;> (try (cases h; done))
    split at h <;> cases h
    rename_i a b c x1 x2 x3 h1 h2 h3
    cases r with | tup hr =>
    generalize hal : Array.toList _ = al at hr
    cases hr with | cons r1 hr => cases hr with | cons r2 hr => cases hr with | cons r3 hr => cases hr with | nil =>
    refine .tup ?_
    rw [hal]
    exact .cons (F.rel h1 σ _ r1) (.cons (G.rel h2 σ _ r2) (.cons (K.rel h3 σ _ r3) .nil))
  low := fun x => by
    have h1 := F.low x.1
    have h2 := G.low x.2.1
    have h3 := K.low x.2.2
    simp [below, belowL, h1, h2, h3]
noncomputable def ndD {α : Type} (F : Form α) (f : FuncId) (mx : Int) (c : Cd) : Option (List Bool) := (drawEx F (tabP3 mx f [.sl false 0 c.off c.len 0] [codeB c false] [] fun v H nd => .ret v H nd)).map fun r => r.2
end Go.Ax
