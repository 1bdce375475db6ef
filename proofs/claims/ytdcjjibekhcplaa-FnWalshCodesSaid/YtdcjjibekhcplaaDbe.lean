/- What the law of codes draws. -/
import Derived.Test.YtdcjjibekhcplaaDbd
namespace Go.Ax
open Go Go.Proofs

noncomputable def rowsDW (mx : Int) : List (FuncId × Table) := (161, dpTb) :: rowsDL mx
theorem rowsDW_at (mx : Int) : allAt Try.prog (rowsDW mx) := ⟨dpTb_at, rowsDL_at mx⟩
def inlDW : List FuncId := [95, 60, 63, 66, 69, 72, 75, 166]
noncomputable def tabDW (mx : Int) : Table := tabOf (cdeep Try.prog (rowsDW mx) inlDW 4000 6)
theorem tabDW_sound (mx : Int) : SoundT Try.prog (tabDW mx) := cdeep_sound (allAt_mem (rowsDW_at mx)) 6
/-- A drawing function whose answers are all known. -/
theorem draw_of_list {T : Table} {f : FuncId} {c : Cd} {L : List (AV × List Bool)} (hT : SoundT Try.prog T) (h : ((drawR T f c).allRet, (drawR T f c).rets.map fun x => (x.v, x.nd)) = (true, L)) (hL : ∀ p ∈ L, allT p.2 = true ∧ below 0 p.1 = true) : ∃ p ∈ L, DrawOK Try.prog f c p.1 := by
  simp only [Prod.mk.injEq] at h
  obtain ⟨x, hx, hs⟩ := Res.rets_sel h.1
  have hm : (x.v, x.nd) ∈ L := by
    rw [← h.2]
    exact List.mem_map.2 ⟨x, hx, rfl⟩
  obtain ⟨hn, hb⟩ := hL _ hm
  exact ⟨_, hm, fun Hr => (call_of_sel hT hs hn).read hb rfl Hr⟩
/-- The number behind a pick of P numbers. -/
noncomputable def v16 (P : Int) (c : Cd) : Int := nxV c (nxA c 0 P) (nxS (fromV c) P) 16
noncomputable def kV (P : Int) (c : Cd) (m : Int) : Int := nxV c (nxA c (nxA c 0 P) 16) (nxS (nxS (fromV c) P) 16) (IntKind.i64.wrap (m + IntKind.i64.wrap ((v16 P c).tdiv 15)))
theorem small_wrap {m v k : Int} (hm : 0 ≤ m ∧ m ≤ 1000) (hv : 0 ≤ v ∧ v < 1000) (hk : 1 ≤ k ∧ k ≤ 1000) : IntKind.i64.wrap (m + IntKind.i64.wrap (v.tdiv k)) = m + v.tdiv k := by
  have h1 : 0 ≤ v.tdiv k := Int.tdiv_nonneg hv.1 (by omega)
  have h2 : v.tdiv k ≤ v := Int.tdiv_le_self _ hv.1
  rw [wrap64_id (n := v.tdiv k) (by omega) (by omega), wrap64_id (by omega) (by omega)]
theorem kV_bound {c : Cd} (hc : goodB c = true) (P : Int) {m : Int} (hm : 1 ≤ m ∧ m ≤ 64) : 0 ≤ kV P c m ∧ kV P c m ≤ m := by
  have hv := nxV_bound hc (nxA c 0 P) (nxS (fromV c) P) 16
  have hv2 := hv.2 (by decide)
  have hv' : 0 ≤ v16 P c ∧ v16 P c < 16 := ⟨hv.1, hv2⟩
  unfold kV
  rw [small_wrap (by omega) (by omega) (by omega)]
  have h0 : 0 ≤ (v16 P c).tdiv 15 := Int.tdiv_nonneg hv'.1 (by omega)
  have h1 : (v16 P c).tdiv 15 ≤ 1 := by
    rw [Int.tdiv_eq_ediv_of_nonneg hv'.1]
    omega
  have hb := nxV_bound hc (nxA c (nxA c 0 P) 16) (nxS (nxS (fromV c) P) 16) (m + (v16 P c).tdiv 15)
  have := hb.2 (by omega)
  omega
/-! ### DrawWalshCode -/
def ns60 : List Int := [12, 64, 32, 16, 8, 4, 2, 1]
noncomputable def l60 (c : Cd) : List (AV × List Bool) := ns60.map fun n => (.tup [.i true .i64 n, .i false .i64 (kV 8 c n)], List.replicate 4 (okB c c.off c.len))
theorem draw60 (c : Cd) : ((drawR (tabDW 8) 60 c).allRet, (drawR (tabDW 8) 60 c).rets.map fun x => (x.v, x.nd)) = (true, l60 c) := by kernel_rfl
def formI2 : Form (Int × Int) where
  get := fun
    | .tup [a, b] => match formI.get a, formI.get b with
      | some x, some y => some (x, y)
      | _, _ => none
    | _ => none
  val := fun x => .tup [.i false .i64 x.1, .i false .i64 x.2]
  rel := fun {v x} h σ y r => by
    split at h <;> (try (cases h; done))
    split at h <;> cases h
    rename_i a b x1 x2 h1 h2
    cases r with | tup hr =>
    generalize hal : Array.toList _ = al at hr
    cases hr with | cons r1 hr => cases hr with | cons r2 hr => cases hr with | nil =>
    refine .tup ?_
    rw [hal]
    exact .cons (formI.rel h1 σ _ r1) (.cons (formI.rel h2 σ _ r2) .nil)
  low := fun _ => rfl
def in60 (x : Int × Int) : Bool := decide (x.1 ∈ ns60) && (decide (0 ≤ x.2) && decide (x.2 ≤ x.1))
theorem drawOK_val {α : Type} {F : Form α} {f : FuncId} {c : Cd} {v : AV} {x : α} (h : DrawOK Try.prog f c v) (hg : F.get v = some x) : DrawOK Try.prog f c (F.val x) := fun Hr => (h Hr).weaken fun σ y r => F.rel hg σ y r
theorem ok_rep {c : Cd} (hc : goodB c = true) (n : Nat) : allT (List.replicate n (okB c c.off c.len)) = true := by
  have hk : okB c c.off c.len = true := by simp [okB, hc]
  rw [hk]; exact allT_rep n
theorem draw60_ok {c : Cd} (hc : goodB c = true) : ∃ x, in60 x = true ∧ DrawOK Try.prog 60 c (formI2.val x) := by
  obtain ⟨p, hp, hd⟩ := draw_of_list (tabDW_sound 8) (draw60 c) (fun p hp => by
    obtain ⟨n, _, rfl⟩ := List.mem_map.1 hp
    exact ⟨ok_rep hc 4, rfl⟩)
  obtain ⟨n, hn, rfl⟩ := List.mem_map.1 hp
  refine ⟨(n, kV 8 c n), ?_, drawOK_val hd rfl⟩
  have hb : 1 ≤ n ∧ n ≤ 64 := by
    simp only [ns60, List.mem_cons, List.not_mem_nil, or_false] at hn
    omega
  have := kV_bound hc 8 hb
  simp [in60, hn]; omega
/-! ### DrawCodeWave -/
def ns69 : List (Int × Int) := [(3, 9), (8, 64), (4, 16), (2, 4), (1, 1)]
noncomputable def l69 (c : Cd) : List (AV × List Bool) := ns69.map fun n => (.tup [.i true .i64 n.1, .i false .i64 (kV 5 c n.2)], List.replicate 4 (okB c c.off c.len))
theorem draw69 (c : Cd) : ((drawR (tabDW 5) 69 c).allRet, (drawR (tabDW 5) 69 c).rets.map fun x => (x.v, x.nd)) = (true, l69 c) := by kernel_rfl
def in69 (x : Int × Int) : Bool := decide (x.1 ∈ [3, 8, 4, 2, 1]) && (decide (0 ≤ x.2) && decide (x.2 ≤ x.1 * x.1))
theorem draw69_ok {c : Cd} (hc : goodB c = true) : ∃ x, in69 x = true ∧ DrawOK Try.prog 69 c (formI2.val x) := by
  obtain ⟨p, hp, hd⟩ := draw_of_list (tabDW_sound 5) (draw69 c) (fun p hp => by
    obtain ⟨n, _, rfl⟩ := List.mem_map.1 hp
    exact ⟨ok_rep hc 4, rfl⟩)
  obtain ⟨n, hn, rfl⟩ := List.mem_map.1 hp
  refine ⟨(n.1, kV 5 c n.2), ?_, drawOK_val hd rfl⟩
  simp only [ns69, List.mem_cons, List.not_mem_nil, or_false] at hn
  have hb : 1 ≤ n.2 ∧ n.2 ≤ 64 := by rcases hn with rfl | rfl | rfl | rfl | rfl <;> decide
  have := kV_bound hc 5 hb
  rcases hn with rfl | rfl | rfl | rfl | rfl <;> simp [in69] <;> simp at this <;> omega
/-! ### DrawSumsByCodes -/
def ok63 (n : Nat) : Bool := Nat.ble n 64
def okNW (c : Cd) (r : Res) : List (List Bool) := r.rets.map fun x => List.replicate x.nd.length (okB c c.off c.len)
theorem okNW_ok {c : Cd} {r : Res} (h : okB c c.off c.len = true) : ∀ l ∈ okNW c r, allT l = true := fun l hl => by
  obtain ⟨x, _, rfl⟩ := List.mem_map.1 hl
  rw [h]; exact allT_rep _
theorem draw63 (c : Cd) : ((drawR (tabDW 10) 63 c).allRet, (drawR (tabDW 10) 63 c).rets.all (lenOK ok63), (drawR (tabDW 10) 63 c).rets.map (fun x => x.nd)) = (true, true, okNW c (drawR (tabDW 10) 63 c)) := by kernel_rfl
theorem draw66 (c : Cd) : ((drawR (tabDW 10) 66 c).allRet, (drawR (tabDW 10) 66 c).rets.all (lenOK ok63), (drawR (tabDW 10) 66 c).rets.map (fun x => x.nd)) = (true, true, okNW c (drawR (tabDW 10) 66 c)) := by kernel_rfl
theorem draw63_ok {c : Cd} (hc : goodB c = true) : ∃ xs, ok63 xs.length = true ∧ DrawL 63 c xs := by
  have h := draw63 c
  simp only [Prod.mk.injEq] at h
  exact drawF_of (tabDW_sound 10) hc h.1 h.2.1 h.2.2 fun h => okNW_ok h
theorem draw66_ok {c : Cd} (hc : goodB c = true) : ∃ xs, ok63 xs.length = true ∧ DrawL 66 c xs := by
  have h := draw66 c
  simp only [Prod.mk.injEq] at h
  exact drawF_of (tabDW_sound 10) hc h.1 h.2.1 h.2.2 fun h => okNW_ok h
/-! ### DrawSumOfPicture -/
noncomputable def dpV (n : Int) (c : Cd) : (Nat → Nat) × Nat × Int := dpX n c (nxA c 0 4) (nxS (fromV c) 4)
noncomputable def kP (n m : Int) (c : Cd) : Int := nxV c (nxA c (dpV n c).2.1 16) (nxS (dpV n c).2.2 16) (IntKind.i64.wrap (m + IntKind.i64.wrap ((nxV c (dpV n c).2.1 (dpV n c).2.2 16).tdiv 15)))
theorem kP_bound {c : Cd} (hc : goodB c = true) (n : Int) {m : Int} (hm : 1 ≤ m ∧ m ≤ 64) : 0 ≤ kP n m c ∧ kP n m c ≤ m := by
  have hv := nxV_bound hc (dpV n c).2.1 (dpV n c).2.2 16
  have hv2 := hv.2 (by decide)
  unfold kP
  generalize nxV c (dpV n c).2.1 (dpV n c).2.2 16 = v at hv hv2
  rw [small_wrap (by omega) (by omega) (by omega)]
  have h0 : 0 ≤ v.tdiv 15 := Int.tdiv_nonneg hv.1 (by omega)
  have h1 : v.tdiv 15 ≤ 1 := by
    rw [Int.tdiv_eq_ediv_of_nonneg hv.1]
    omega
  have hb := nxV_bound hc (nxA c (dpV n c).2.1 16) (nxS (dpV n c).2.2 16) (m + v.tdiv 15)
  have := hb.2 (by omega)
  omega
def ns72 : List (Int × Int) := [(8, 64), (4, 16), (2, 4), (1, 1)]
noncomputable def l72 (c : Cd) : List (AV × List Bool) := ns72.map fun n => (.tup [pvT true n.1 (dpV n.1 c).1, .i false .i64 (kP n.1 n.2 c)], List.replicate 5 (okB c c.off c.len))
theorem draw72 (c : Cd) : ((drawR (tabDW 4) 72 c).allRet, (drawR (tabDW 4) 72 c).rets.map fun x => (x.v, x.nd)) = (true, l72 c) := by kernel_rfl
def formPI : Form ((Int × (Nat → Nat)) × Int) where
  get := fun
    | .tup [a, b] => match formP.get a, formI.get b with
      | some x, some y => some (x, y)
      | _, _ => none
    | _ => none
  val := fun x => .tup [pv x.1.1 x.1.2, .i false .i64 x.2]
  rel := fun {v x} h σ y r => by
    split at h <;> (try (cases h; done))
    split at h <;> cases h
    rename_i a b x1 x2 h1 h2
    cases r with | tup hr =>
    generalize hal : Array.toList _ = al at hr
    cases hr with | cons r1 hr => cases hr with | cons r2 hr => cases hr with | nil =>
    refine .tup ?_
    rw [hal]
    exact .cons (formP.rel h1 σ _ r1) (.cons (formI.rel h2 σ _ r2) .nil)
  low := fun x => by simp [below, belowL, pv_low]
theorem formP_get (l : Bool) (n : Int) (X : Nat → Nat) : formP.get (pvT l n X) = some (n, reP X) := by
  show ofP (.i l .i64 n :: (List.range 64).map (fx X)) = _
  have e : ∀ (L : List Nat), asF32 (L.map (fx X)) = some (L.map fun i => X i) := fun L => by
    induction L with
    | nil => rfl
    | cons a L ih => simp [fx, asF32, ih]
  have e2 : ((List.range 64).map fun i => X i).length = 64 := by simp
  unfold ofP
  simp only [e]
  rw [e2]
  rfl
def in72 (x : (Int × (Nat → Nat)) × Int) : Bool := decide (x.1.1 ∈ ([8, 4, 2, 1] : List Int)) && (decide (0 ≤ x.2) && decide (x.2 ≤ x.1.1 * x.1.1))
theorem pvT_low (l : Bool) (n : Int) (X : Nat → Nat) : below 0 (pvT l n X) = true := by
  have := pv_low n X
  simpa [pv, picL, pvT, below, belowL] using this
theorem draw72_ok {c : Cd} (hc : goodB c = true) : ∃ x, in72 x = true ∧ DrawOK Try.prog 72 c (formPI.val x) := by
  obtain ⟨p, hp, hd⟩ := draw_of_list (tabDW_sound 4) (draw72 c) (fun p hp => by
    obtain ⟨n, _, rfl⟩ := List.mem_map.1 hp
    exact ⟨ok_rep hc 5, by simp [below, belowL, pvT_low]⟩)
  obtain ⟨n, hn, rfl⟩ := List.mem_map.1 hp
  refine ⟨((n.1, reP (dpV n.1 c).1), kP n.1 n.2 c), ?_, drawOK_val hd ?_⟩
  · simp only [ns72, List.mem_cons, List.not_mem_nil, or_false] at hn
    have hb : 1 ≤ n.2 ∧ n.2 ≤ 64 := by rcases hn with rfl | rfl | rfl | rfl <;> decide
    have := kP_bound hc n.1 hb
    rcases hn with rfl | rfl | rfl | rfl <;> simp [in72] <;> simp at this <;> omega
  · simp only [formPI, formP_get]
    rfl
/-! ### DrawPictureOfSums -/
/-- Of what a call made only its list is kept, behind a number. -/
theorem keep2n {P : Program} {f : FuncId} {args : List AV} {H0 H1 : List AB} {c : AV} {l r : Bool} {id off len z : Nat} {ys : List Nat} (h : CallOK P f args H0 (.tup [c, .sl l id off len z]) H1) (hro : ∀ i, (getB H0 i).rw = false) (hc : below 0 c = true) (hid : H0.length ≤ id) (hB : getB H1 id = .cells r (.f32 ys)) :
    CallOK P f args H0 (.tup [c, .sl l H0.length off len z]) (H0 ++ [.cells false (.f32 ys)]) := fun σ w rargs s hra => by
  refine (h σ w rargs s hra).mono ?_
  rintro e w' ⟨rv, rfl, σ1, r1, s1, F⟩
  have hold : ∀ b, b < w.heap.size → w'.heap[b]? = w.heap[b]? := fun b hb => F.old b hb fun i z hr => by rw [hro] at hr; cases hr
  have hlt : id < σ1.length := by rw [s1.len]; exact getB_lt hB
  obtain ⟨b0, z0, hb0⟩ : ∃ b0 z0, σ1[id]? = some (b0, z0) := ⟨(σ1[id]).1, (σ1[id]).2, by rw [List.getElem?_eq_getElem hlt]⟩
  have hnew : σ[id]? = none := List.getElem?_eq_none (by rw [s.len]; exact hid)
  have hge : w.heap.size ≤ b0 := by
    rcases F.new id b0 z0 hb0 hnew with h' | ⟨j, z', hj, _⟩
    · exact h'
    · rw [hro] at hj; cases hj
  have gl : ∀ i, i < H0.length → getB (H0 ++ [.cells false (.f32 ys)]) i = getB H0 i := fun i hi => getB_append_left hi
  have hrw : ∀ i, (getB (H0 ++ [.cells false (.f32 ys)]) i).rw = false := fun i => by
    rcases Nat.lt_or_ge i H0.length with hi | hi
    · rw [gl i hi]; exact hro i
    · rw [getB_append_right hi]
      match i - H0.length with
      | 0 => rfl
      | k + 1 => rfl
  have hσl := s.len
  refine ⟨rv, rfl, σ ++ [(b0, z0)], ?_, ⟨by simp [s.len], fun i b z hbz => ?_, fun i j b z z' _ _ hr _ => by rw [hrw] at hr; cases hr⟩, ⟨F.os, F.tape, F.output, F.size, fun b hb _ => hold b hb, Ext.append _ _, fun i b z hbz hn => ?_, fun i hi hr => by rw [hrw] at hr; cases hr⟩⟩
  · cases r1 with | tup hr =>
    generalize hal : Array.toList _ = al at hr
    cases hr with | cons r1 hr => cases hr with | cons r2 hr => cases hr with | nil =>
    refine .tup ?_
    rw [hal]
    refine .cons (below_free hc r1) (.cons ?_ .nil)
    cases r2 with
    | sl h1 h2 h3 =>
      rw [hb0] at h1
      cases h1
      refine .sl ?_ h2 h3
      rw [List.getElem?_append_right (by omega), hσl, Nat.sub_self]; rfl
    | slz => exact .slz
  · rcases snoc_cases hbz with ⟨hi, hb'⟩ | ⟨rfl, hb'⟩
    · rw [gl i (by omega)]
      have hbl := (s.blk i b z hb').mono (Ext.append σ [(b0, z0)])
      cases hg : getB H0 i with
      | dead => trivial
      | cells r A => rw [hold b (s.lt hb' (by rw [hg]; rfl)), ← hg]; exact hbl
      | code o xs => rw [hold b (s.lt hb' (by rw [hg]; rfl)), ← hg]; exact hbl
    · cases hb'
      rw [getB_append_right (by omega), hσl, Nat.sub_self]
      have := s1.blk id _ _ hb0
      rw [hB] at this
      exact ro_f32 this
  · rcases snoc_cases hbz with ⟨hi, hb'⟩ | ⟨rfl, hb'⟩
    · rw [hn] at hb'; cases hb'
    · cases hb'; exact .inl hge
/-- The side and the length of a drawn list. -/
def exI : AV → Option Int
  | .i _ .i64 n => some n
  | _ => none
def lenI (x : LeafR) : Option (Int × Nat) := match x.v with
  | .tup [a, b] => match exI a, lenF ⟨b, x.H, []⟩ with
    | some n, some m => some (n, m)
    | _, _ => none
  | _ => none
def DrawIL (f : FuncId) (c : Cd) (n : Int) (xs : List Nat) : Prop := ∀ Hr, CallOK Try.prog f [.sl false 0 c.off c.len 0] (codeB c false :: Hr) (.tup [.i false .i64 n, .sl false (Hr.length + 1) 0 xs.length 1]) (codeB c false :: (Hr ++ [.cells false (.f32 xs)]))
theorem lenI_spec {f : FuncId} {c : Cd} {x : LeafR} {n : Int} {m : Nat} (h : lenI x = some (n, m)) (hk : CallOK Try.prog f [.sl false 0 c.off c.len 0] [codeB c false] x.v x.H) : ∃ xs, xs.length = m ∧ DrawIL f c n xs := by
  unfold lenI at h
  split at h <;> (try (cases h; done))
  rename_i a b hv
  split at h <;> cases h
  rename_i h1 h2
  unfold exI at h1
  split at h1 <;> cases h1
  rename_i l0
  obtain ⟨l, id, z, r, A, xs, rfl, hz, hid, hg, hA, hm⟩ := lenF_parts h2
  rw [hv] at hk
  refine ⟨xs, hm, fun Hr => ?_⟩
  have k0 := hk.refit hg hA
  have k2 := (keep2n k0 (code_ro c) rfl hid (getB_setB_same (getB_lt hg))).frame rfl rfl rfl Hr
  have e : frameH [codeB c false] Hr ([codeB c false] ++ [.cells false (.f32 xs)]) = codeB c false :: (Hr ++ [.cells false (.f32 xs)]) := rfl
  rw [e] at k2
  refine k2.weaken fun σ v r => ?_
  have e2 : upV [codeB c false].length Hr.length (.tup [.i l0 .i64 n, .sl l [codeB c false].length 0 xs.length z]) = .tup [.i l0 .i64 n, .sl l (1 + Hr.length) 0 xs.length z] := rfl
  rw [e2, Nat.add_comm 1] at r
  cases r with | tup hr =>
  generalize hal : Array.toList _ = al at hr
  cases hr with | cons r1 hr => cases hr with | cons r2 hr => cases hr with | nil =>
  refine .tup ?_
  rw [hal]
  exact .cons (by cases r1; exact .i _ _) (.cons (sl_z1 r2 hz) .nil)
noncomputable def st1 (c : Cd) (m : Int) : Nat × Int := ((l10V c (nxA c 0 4) (nxS (fromV c) 4) m).2.1, (l10V c (nxA c 0 4) (nxS (fromV c) 4) m).2.2)
noncomputable def st2 (c : Cd) (m : Int) : Nat × Int := (nxA c (st1 c m).1 2, nxS (st1 c m).2 2)
noncomputable def st3 (c : Cd) (n m : Int) : Nat × Int := ((dpX n c (st2 c m).1 (st2 c m).2).2.1, (dpX n c (st2 c m).1 (st2 c m).2).2.2)
noncomputable def n75 (c : Cd) (n : Int) (s : Nat × Int) : Int := IntKind.i64.wrap (n + IntKind.i64.wrap ((nxV c s.1 s.2 24).tdiv 23))
noncomputable def l75 (c : Cd) : List (Option (Int × Nat)) := ns72.flatMap fun n => [some (n75 c n.1 (st2 c n.2), n.2.toNat), some (n75 c n.1 (st3 c n.1 n.2), n.2.toNat)]
def pat75 (b : Bool) (x : LeafR) : List Bool := match Nat.ble x.nd.length 5 with
  | true => List.replicate x.nd.length b
  | false => b :: (List.replicate (x.nd.length - 6) true ++ List.replicate 5 b)
theorem pat75_ok (x : LeafR) : allT (pat75 true x) = true := by
  unfold pat75
  split
  · exact allT_rep _
  · simp only [allT, Bool.true_and]
    rw [allT_append, allT_rep, allT_rep]; rfl
theorem draw75 (c : Cd) : ((drawR (tabDW 4) 75 c).allRet, (drawR (tabDW 4) 75 c).rets.map lenI, (drawR (tabDW 4) 75 c).rets.map (fun x => x.nd)) = (true, l75 c, (drawR (tabDW 4) 75 c).rets.map (pat75 (okB c c.off c.len))) := by kernel_rfl
def in75 (n : Int) (m : Nat) : Bool := decide ((n, m) ∈ ([(8, 64), (9, 64), (4, 16), (5, 16), (2, 4), (3, 4), (1, 1), (2, 1)] : List (Int × Nat)))
theorem n75_val {c : Cd} (hc : goodB c = true) {n : Int} (hn : 1 ≤ n ∧ n ≤ 8) (s : Nat × Int) : n75 c n s = n ∨ n75 c n s = n + 1 := by
  have hv := nxV_bound hc s.1 s.2 24
  have hv2 := hv.2 (by decide)
  unfold n75
  generalize nxV c s.1 s.2 24 = v at hv hv2
  rw [small_wrap (by omega) (by omega) (by omega), Int.tdiv_eq_ediv_of_nonneg hv.1]
  omega
theorem draw75_ok {c : Cd} (hc : goodB c = true) : ∃ n xs, in75 n xs.length = true ∧ DrawIL 75 c n xs := by
  have h := draw75 c
  simp only [Prod.mk.injEq] at h
  obtain ⟨ha, hl, hn⟩ := h
  have hk : okB c c.off c.len = true := by simp [okB, hc]
  obtain ⟨x, hx, hs⟩ := Res.rets_sel ha
  have hnd : allT x.nd = true := by
    have := map_mem hn hx
    rw [this, hk]
    exact pat75_ok x
  have hcall := call_of_sel (tabDW_sound 4) hs hnd
  have hm : lenI x ∈ l75 c := by
    rw [← hl]
    exact List.mem_map.2 ⟨x, hx, rfl⟩
  obtain ⟨n, hn', hm⟩ := List.mem_flatMap.1 hm
  have key : ∀ s, lenI x = some (n75 c n.1 s, n.2.toNat) → ∃ n xs, in75 n xs.length = true ∧ DrawIL 75 c n xs := fun s he => by
    obtain ⟨xs, h1, h2⟩ := lenI_spec he hcall
    refine ⟨_, xs, ?_, h2⟩
    rw [h1]
    simp only [ns72, List.mem_cons, List.not_mem_nil, or_false] at hn'
    rcases hn' with rfl | rfl | rfl | rfl
    · rcases n75_val hc (n := 8) (by omega) s with e | e <;> rw [e] <;> rfl
    · rcases n75_val hc (n := 4) (by omega) s with e | e <;> rw [e] <;> rfl
    · rcases n75_val hc (n := 2) (by omega) s with e | e <;> rw [e] <;> rfl
    · rcases n75_val hc (n := 1) (by omega) s with e | e <;> rw [e] <;> rfl
  simp only [List.mem_cons, List.not_mem_nil, or_false] at hm
  rcases hm with e | e
  · exact key _ e
  · exact key _ e
end Go.Ax
