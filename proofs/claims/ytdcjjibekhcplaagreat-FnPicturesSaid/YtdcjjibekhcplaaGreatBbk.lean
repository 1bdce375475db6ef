/- Steps of all levels: calls. -/
import Derived.Test.YtdcjjibekhcplaaGreatBbj
import Derived.Test.YtdcjjibekhcplaaGreatRows
import Derived.ProofKit
import Derived.HandedShaped
namespace Go.Ax
open Go Go.Proofs

theorem n55 (n : Int) (X : Nat → Nat) (q : Nat) (m : Int) : jN 55 [pvT false n X, .f false .f32 q, .i false .i64 m] = some (.tup [.slnil, .i true .i64 1], [!sideB n]) := by kernel_rfl
theorem n56 (n : Int) (X : Nat → Nat) (q : Nat) (m : Int) : jN 56 [pvT false n X, .f false .f32 q, .i false .i64 m] = some (.tup [.slnil, .i true .i64 1], [!sideB n]) := by kernel_rfl
theorem stNd_ok {n : Int} {X : Nat → Nat} {q : Nat} {m : Int} (hs : sideB n = true) (hc : eqQ false (stC (isPicB n X) q m) 0 = true) : allT (stNd (n.toNat * n.toNat) X q m) = true := by
  refine allT_of fun b hb => ?_
  obtain ⟨k, hk, hb⟩ := List.mem_flatMap.1 hb
  obtain ⟨h1, h2⟩ := side_N hs
  have hk := List.mem_range.1 hk
  simp only [List.mem_cons, List.not_mem_nil, or_false] at hb
  rcases hb with rfl | rfl
  · rfl
  · exact st_ok hc (by omega)
theorem st_run (f : FuncId) (hf : f = 55 ∨ f = 56) (n : Int) (hs : sideB n = true) (X : Nat → Nat) (q : Nat) (m : Int) : ∃ L, ((condsP (stR f n X q m) [true], leafD 0 [0] ((stR f n X q m).at [true])), (condsP (stR f n X q m) [false], leafD 0 (List.replicate L 0) ((stR f n X q m).at [false]))) =
    (([!eqQ false (stC (isPicB n X) q m) 0], some (.tup [.slnil, .i false .i64 (stC (isPicB n X) q m)], [], [])), ([!!eqQ false (stC (isPicB n X) q m) 0], some (.tup [.sl true 0 0 (n.toNat * n.toNat) 1, .i true .i64 0], [.cells true (.ints .i64 (stLs (n.toNat * n.toNat) X q m))], stNd (n.toNat * n.toNat) X q m))) := by
  have hd := side_cases hs
  rcases hf with rfl | rfl
  · have h := st55 _ n hd X q m
    unfold gN at h
    rw [isPicB_re] at h
    exact ⟨_, h⟩
  · have h := st56 _ n hd X q m
    unfold gN at h
    rw [isPicB_re] at h
    exact ⟨_, h⟩
theorem st_low (n : Int) (X : Nat → Nat) (q : Nat) (m : Int) (l : Bool) : belowL 0 [pvT l n X, .f false .f32 q, .i false .i64 m] = true := by simp [belowL, below, pvT_low]
theorem steps_good (f : FuncId) (hf : f = 55 ∨ f = 56) {n : Int} {X : Nat → Nat} {q : Nat} {m : Int} (h : eqQ false (stC (isPicB n X) q m) 0 = true) (H : List AB) : CallOK Tryz.prog f [pv n X, .f false .f32 q, .i false .i64 m] H (.tup [.sl false H.length 0 (n.toNat * n.toNat) 1, .i true .i64 0]) (H ++ [.cells true (.ints .i64 (stLs (n.toNat * n.toNat) X q m))]) := by
  have hs : sideB n = true := pic_side (stC_zero h).1
  obtain ⟨L, hr⟩ := st_run f hf n hs X q m
  simp only [Prod.mk.injEq] at hr
  obtain ⟨_, h1, h2⟩ := hr
  have k := call_of_leaf (H0 := []) (ks := List.replicate L 0) (dirs := [false]) tabSl6_sound (Prod.ext h1 h2) (by rw [h]; rfl) (stNd_ok hs h)
  have k2 := ((CallOK.fresh k (fun g => rfl) (st_low _ _ _ _ _) H).deep (args' := [pv n X, .f false .f32 q, .i false .i64 m]) rfl)
  refine k2.weaken fun σ x r => ?_
  have e : mapV (pickI 0 H.length []) (.tup [.sl true 0 0 (n.toNat * n.toNat) 1, .i true .i64 0]) = .tup [.sl true (0 - 0 + H.length) 0 (n.toNat * n.toNat) 1, .i true .i64 0] := by
    simp [mapV, mapL, pickI]
  rw [e] at r
  refine tup_bare ?_ r
  simp [AV.bare]
theorem steps_bad (f : FuncId) (hf : f = 55 ∨ f = 56) {n : Int} {X : Nat → Nat} {q : Nat} {m : Int} (h : eqQ false (stC (isPicB n X) q m) 0 = false) (H : List AB) : CallOK Tryz.prog f [pv n X, .f false .f32 q, .i false .i64 m] H (.tup [.slnil, .i false .i64 (stC (isPicB n X) q m)]) H := by
  cases hs : sideB n with
  | true =>
    obtain ⟨L, hr⟩ := st_run f hf n hs X q m
    simp only [Prod.mk.injEq] at hr
    obtain ⟨⟨h1, h2⟩, _⟩ := hr
    have k := call_of_leaf (H0 := []) (ks := [0]) (dirs := [true]) tabSl6_sound (Prod.ext h1 h2) (by rw [h]; rfl) rfl
    exact ((k.lift rfl (st_low _ _ _ _ _) H rfl).deep (args' := [pv n X, .f false .f32 q, .i false .i64 m]) rfl)
  | false =>
    have e : stC (isPicB n X) q m = 1 := by unfold stC; rw [noSide_pic hs]; rfl
    rw [e]
    rcases hf with rfl | rfl
    · exact ((call_of_join tabPn_sound (n55 n X q m) (by simp [allT, hs]) (st_low _ _ _ _ _) H).deep (args' := [pv n X, .f false .f32 q, .i false .i64 m]) rfl).weaken fun σ x r => tup_bare (by rfl) r
    · exact ((call_of_join tabPn_sound (n56 n X q m) (by simp [allT, hs]) (st_low _ _ _ _ _) H).deep (args' := [pv n X, .f false .f32 q, .i false .i64 m]) rfl).weaken fun σ x r => tup_bare (by rfl) r
noncomputable def stepsT : Table := fun _ args H nd K =>
  match args with
  | [.agg l, .f _ .f32 q, .i _ .i64 m] => match ofP l with
    | some (n, X) => .ite (eqQ false (stC (isPicB n X) q m) 0) (K (.tup [.sl false H.length 0 (n.toNat * n.toNat) 1, .i true .i64 0]) (H ++ [.cells true (.ints .i64 (stLs (n.toNat * n.toNat) X q m))]) nd) (K (.tup [.slnil, .i false .i64 (stC (isPicB n X) q m)]) H nd)
    | none => .fail
  | _ => .fail
theorem steps_at (f : FuncId) (hf : f = 55 ∨ f = 56) : SoundAt Tryz.prog f stepsT := fun args H nd K => by
  unfold stepsT
  split
  case h_2 => exact .inl rfl
  split
  case h_2 => exact .inl rfl
  rename_i l l1 q l2 m _ n X hl
  cases h : eqQ false (stC (isPicB n X) q m) 0 with
  | true => exact .inr ⟨_, _, _, rfl, fun hn => ⟨hn, (steps_good f hf h H).deep (by simp only [List.map_cons, ofP_spec hl]; rfl)⟩⟩
  | false => exact .inr ⟨_, _, _, rfl, fun hn => ⟨hn, (steps_bad f hf h H).deep (by simp only [List.map_cons, ofP_spec hl]; rfl)⟩⟩
end Go.Ax

/- Waves compared, memories that name few blocks (as in the texts of gratings, for texts that do not import those). -/
namespace Go.Ax
open Go Go.Proofs

instance : Inhabited (Int × (Nat → Nat × Nat)) := ⟨(0, fun _ => (0, 0))⟩
def eqZX (X Y : Nat → Nat × Nat) : Nat → Nat → Bool
  | 0, _ => true
  | m + 1, j => (feq .f32 (X j).1 (Y j).1 && feq .f32 (X j).2 (Y j).2) && eqZX X Y m (Nat.succ j)
def eqZ (n : Int) (X : Nat → Nat × Nat) (n' : Int) (X' : Nat → Nat × Nat) : Bool := (n == n') && (eqZX X X' 64 0 && true)
def wvB (n : Int) (X : Nat → Nat × Nat) : AB := .cells true (.lit (waveL n X))
def c0 : Cd := ⟨[], 0, 0⟩
theorem eqZX_of {X Y : Nat → Nat × Nat} (h : ∀ j, feq .f32 (X j).1 (Y j).1 = true ∧ feq .f32 (X j).2 (Y j).2 = true) : ∀ m j, eqZX X Y m j = true
  | 0, _ => rfl
  | m + 1, j => by simp only [eqZX, h j, Bool.and_self, eqZX_of h m]
theorem wvB_low (m : Int) (Y : Nat → Nat × Nat) (n : Nat) : belowB n (wvB m Y) = true := by
  have : ∀ l : List Nat, belowL n (l.map (cx Y)) = true := fun l => by
    induction l with
    | nil => rfl
    | cons j l ih => simp [belowL, below, cx, ih]
  simp [wvB, belowB, waveL, belowL, below, this]
theorem cB_low (c : Cd) (n : Nat) : belowB n (codeB c false) = true := rfl
theorem h1_low (c : Cd) (n : Nat) : belowH n [codeB c false] = true := by simp only [belowH, cB_low, Bool.and_self]
end Go.Ax

/- The law of pictures: rows. -/
namespace Go.Ax
open Go Go.Proofs

/-- What the functions of pictures come to. -/
structure LG where
  df : Int → (Nat → Nat) → Int → (Nat → Nat) → Nat
  dk : Int → (Nat → Nat) → Int → (Nat → Nat) → Int
  nS : Int → (Nat → Nat) → Int
  nZ : Int → (Nat → Nat) → Nat → Nat
  nK : Int → (Nat → Nat) → Int
  aS : Int → (Nat → Nat) → Int → (Nat → Nat) → Int
  aZ : Int → (Nat → Nat) → Int → (Nat → Nat) → Nat → Nat
  aK : Int → (Nat → Nat) → Int → (Nat → Nat) → Int
  sS : Nat → Int → (Nat → Nat) → Int
  sZ : Nat → Int → (Nat → Nat) → Nat → Nat
  sK : Nat → Int → (Nat → Nat) → Int
  cF : Int → (Nat → Nat) → Nat
  cK : Int → (Nat → Nat) → Int
  gS : Int → (Nat → Nat) → Nat → Int
  gZ : Int → (Nat → Nat) → Nat → Nat → Nat
  gK : Int → (Nat → Nat) → Nat → Int
  tS : Int → (Nat → Nat) → Nat → Int
  tY : Int → (Nat → Nat) → Nat → Nat → Nat × Nat
  tK : Int → (Nat → Nat) → Nat → Int
  hS : Int → (Nat → Nat) → Nat → Int
  hY : Int → (Nat → Nat) → Nat → Nat → Nat × Nat
  hK : Int → (Nat → Nat) → Nat → Int
  iS : Int → (Nat → Nat) → Nat → Int → Int
  iZ : Int → (Nat → Nat) → Nat → Int → Nat → Nat
  iK : Int → (Nat → Nat) → Nat → Int → Int
  oK : Int → (Nat → Nat) → Nat → Int → Bool
  ls : Int → (Nat → Nat) → Nat → Int → List Int
  lK : Int → (Nat → Nat) → Nat → Int → Int
noncomputable def lG : LG where
  df n X m Y := plusF (lim (tpC (isPicB n X) (isPicB m Y) n m) (finB (difF X Y (n.toNat * n.toNat))) 0 (difF X Y (n.toNat * n.toNat)))
  dk n X m Y := limC (tpC (isPicB n X) (isPicB m Y) n m) (finB (difF X Y (n.toNat * n.toNat)))
  nS n X := cond (eqQ false (norC n X) 0) n 0
  nZ n X := pcX n (norC n X) (quoX X (topI X (n.toNat * n.toNat - 1)))
  nK n X := norC n X
  aS n X m Y := cond (eqQ false (addC n X m Y) 0) n 0
  aZ n X m Y := pcX n (addC n X m Y) (addX X Y)
  aK n X m Y := addC n X m Y
  sS t n X := cond (eqQ false (scaC t n X) 0) n 0
  sZ t n X := pcX n (scaC t n X) (mulX t X)
  sK t n X := scaC t n X
  cF n X := plusF (conF n X)
  cK n X := conK n X
  gS n X t := cond (eqQ false (negC n X t) 0) n 0
  gZ n X t := pcX n (negC n X t) (negX t X)
  gK n X t := negC n X t
  tS n X t := cond (pBad n X t) 0 n
  tY n X t := thrY n X t
  tK n X t := cond (pBad n X t) 1 0
  hS n X t := cond (eqQ false (htK n X t) 0) n 0
  hY n X t := fun j => (plusF (htW n X t j).1, plusF (htW n X t j).2)
  hK n X t := htK n X t
  iS n X q m := cond (eqQ false (insC n X q m) 0) n 0
  iZ n X q m := pcX n (insC n X q m) (insX X q m)
  iK n X q m := insC n X q m
  oK n X q m := eqQ false (stC (isPicB n X) q m) 0
  ls n X q m := stLs (n.toNat * n.toNat) X q m
  lK n X q m := stC (isPicB n X) q m
def g2 (v : Int → (Nat → Nat) → Int → (Nat → Nat) → AV) : List AV → Option (AV × List Bool)
  | [.agg l, .agg l'] => match ofP l, ofP l' with
    | some (n, X), some (m, Y) => some (v n X m Y, [])
    | _, _ => none
  | _ => none
def g1 (v : Int → (Nat → Nat) → AV) : List AV → Option (AV × List Bool)
  | [.agg l] => match ofP l with
    | some (n, X) => some (v n X, [])
    | none => none
  | _ => none
def gF1 (v : Nat → Int → (Nat → Nat) → AV) : List AV → Option (AV × List Bool)
  | [.f _ .f32 t, .agg l] => match ofP l with
    | some (n, X) => some (v t n X, [])
    | none => none
  | _ => none
def g1F (v : Int → (Nat → Nat) → Nat → AV) : List AV → Option (AV × List Bool)
  | [.agg l, .f _ .f32 t] => match ofP l with
    | some (n, X) => some (v n X t, [])
    | none => none
  | _ => none
def g1FI (v : Int → (Nat → Nat) → Nat → Int → AV) : List AV → Option (AV × List Bool)
  | [.agg l, .f _ .f32 t, .i _ .i64 m] => match ofP l with
    | some (n, X) => some (v n X t m, [])
    | none => none
  | _ => none
theorem g2_at {f : FuncId} {v : Int → (Nat → Nat) → Int → (Nat → Nat) → AV} (h : ∀ n X m Y H, CallOK Tryz.prog f [pv n X, pv m Y] H (v n X m Y) H) : SoundAt Tryz.prog f (pureT (g2 v)) := fun args H nd K => by
  refine pureT_sound (fun args v n h' hn H => ?_) args H nd K
  unfold g2 at h'
  split at h' <;> (try (cases h'; done))
  split at h' <;> cases h'
  rename_i h1 h2
  exact (h _ _ _ _ H).deep (by simp only [List.map_cons, ofP_spec h1, ofP_spec h2])
theorem g1_at {f : FuncId} {v : Int → (Nat → Nat) → AV} (h : ∀ n X H, CallOK Tryz.prog f [pv n X] H (v n X) H) : SoundAt Tryz.prog f (pureT (g1 v)) := fun args H nd K => by
  refine pureT_sound (fun args v n h' hn H => ?_) args H nd K
  unfold g1 at h'
  split at h' <;> (try (cases h'; done))
  split at h' <;> cases h'
  rename_i h1
  exact (h _ _ H).deep (by simp only [List.map_cons, ofP_spec h1])
theorem gF1_at {f : FuncId} {v : Nat → Int → (Nat → Nat) → AV} (h : ∀ t n X H, CallOK Tryz.prog f [.f false .f32 t, pv n X] H (v t n X) H) : SoundAt Tryz.prog f (pureT (gF1 v)) := fun args H nd K => by
  refine pureT_sound (fun args v n h' hn H => ?_) args H nd K
  unfold gF1 at h'
  split at h' <;> (try (cases h'; done))
  split at h' <;> cases h'
  rename_i h1
  exact (h _ _ _ H).deep (by simp only [List.map_cons, ofP_spec h1]; rfl)
theorem g1F_at {f : FuncId} {v : Int → (Nat → Nat) → Nat → AV} (h : ∀ n X t H, CallOK Tryz.prog f [pv n X, .f false .f32 t] H (v n X t) H) : SoundAt Tryz.prog f (pureT (g1F v)) := fun args H nd K => by
  refine pureT_sound (fun args v n h' hn H => ?_) args H nd K
  unfold g1F at h'
  split at h' <;> (try (cases h'; done))
  split at h' <;> cases h'
  rename_i h1
  exact (h _ _ _ H).deep (by simp only [List.map_cons, ofP_spec h1]; rfl)
theorem g1FI_at {f : FuncId} {v : Int → (Nat → Nat) → Nat → Int → AV} (h : ∀ n X t m H, CallOK Tryz.prog f [pv n X, .f false .f32 t, .i false .i64 m] H (v n X t m) H) : SoundAt Tryz.prog f (pureT (g1FI v)) := fun args H nd K => by
  refine pureT_sound (fun args v n h' hn H => ?_) args H nd K
  unfold g1FI at h'
  split at h' <;> (try (cases h'; done))
  split at h' <;> cases h'
  rename_i h1
  exact (h _ _ _ _ H).deep (by simp only [List.map_cons, ofP_spec h1]; rfl)
def stepsG (G : LG) : Table := fun _ args H nd K =>
  match args with
  | [.agg l, .f _ .f32 q, .i _ .i64 m] => match ofP l with
    | some (n, X) => .ite (G.oK n X q m) (K (.tup [.sl false H.length 0 (n.toNat * n.toNat) 1, .i true .i64 0]) (H ++ [.cells true (.ints .i64 (G.ls n X q m))]) nd) (K (.tup [.slnil, .i false .i64 (G.lK n X q m)]) H nd)
    | none => .fail
  | _ => .fail
theorem stepsG_at (f : FuncId) (hf : f = 55 ∨ f = 56) : SoundAt Tryz.prog f (stepsG lG) := steps_at f hf
def vD (G : LG) (n : Int) (X : Nat → Nat) (m : Int) (Y : Nat → Nat) : AV := .tup [.f false .f32 (G.df n X m Y), .i false .i64 (G.dk n X m Y)]
def vN (G : LG) (n : Int) (X : Nat → Nat) : AV := .tup [pv (G.nS n X) (G.nZ n X), .i false .i64 (G.nK n X)]
def vA (G : LG) (n : Int) (X : Nat → Nat) (m : Int) (Y : Nat → Nat) : AV := .tup [pv (G.aS n X m Y) (G.aZ n X m Y), .i false .i64 (G.aK n X m Y)]
def vS (G : LG) (t : Nat) (n : Int) (X : Nat → Nat) : AV := .tup [pv (G.sS t n X) (G.sZ t n X), .i false .i64 (G.sK t n X)]
def vC (G : LG) (n : Int) (X : Nat → Nat) : AV := .tup [.f false .f32 (G.cF n X), .i false .i64 (G.cK n X)]
def vG (G : LG) (n : Int) (X : Nat → Nat) (t : Nat) : AV := .tup [pv (G.gS n X t) (G.gZ n X t), .i false .i64 (G.gK n X t)]
def vT (G : LG) (n : Int) (X : Nat → Nat) (t : Nat) : AV := .tup [wv (G.tS n X t) (G.tY n X t), .i false .i64 (G.tK n X t)]
def vH (G : LG) (n : Int) (X : Nat → Nat) (t : Nat) : AV := .tup [wv (G.hS n X t) (G.hY n X t), .i false .i64 (G.hK n X t)]
def vI (G : LG) (n : Int) (X : Nat → Nat) (q : Nat) (m : Int) : AV := .tup [pv (G.iS n X q m) (G.iZ n X q m), .i false .i64 (G.iK n X q m)]
noncomputable def rowsL4 (G : LG) : List (FuncId × Table) :=
  [(33, drawT (form2 formP formP)), (34, pureT (g2 (vD G))), (35, pureT (g2 (vD G))), (36, drawT formP), (37, pureT (g1 (vN G))), (38, pureT (g1 (vN G))), (39, drawT (form2 formP formP)), (40, pureT (g2 (vA G))), (41, pureT (g2 (vA G))),
   (42, drawT (form2 formF formP)), (43, pureT (gF1 (vS G))), (44, pureT (gF1 (vS G))), (45, drawT formP), (46, pureT (g1 (vC G))), (47, pureT (g1 (vC G))), (48, drawT (form2 formP formF)), (49, pureT (g1F (vG G))), (50, pureT (g1F (vG G))),
   (51, drawT (form2 formP formF)), (52, pureT (g1F (vT G))), (53, pureT (g1F (vT G))), (54, drawT (form3 formP formF formI)), (55, stepsG G), (56, stepsG G), (57, drawT (form3 formP formF formI)), (58, pureT (g1FI (vI G))), (59, pureT (g1FI (vI G))),
   (60, drawT (form2 formP formF)), (61, pureT (g1F (vH G))), (62, pureT (g1F (vH G))), (63, likeT)]
theorem rowsL4_at : ∀ p ∈ rowsL4 lG, SoundAt Tryz.prog p.1 p.2 := fun p hp => by
  simp only [rowsL4, List.mem_cons, List.not_mem_nil, or_false] at hp
  rcases hp with rfl | rfl | rfl | rfl | rfl | rfl | rfl | rfl | rfl | rfl | rfl | rfl | rfl | rfl | rfl | rfl | rfl | rfl | rfl | rfl | rfl | rfl | rfl | rfl | rfl | rfl | rfl | rfl | rfl | rfl | rfl
  · exact drawT_at fun c hc => d33_ok hc
  · exact g2_at fun n X m Y H => dif_ok 34 (.inl rfl) n X m Y H
  · exact g2_at fun n X m Y H => dif_ok 35 (.inr rfl) n X m Y H
  · exact drawT_at fun c hc => d36_ok hc
  · exact g1_at fun n X H => nor_ok 37 (.inl rfl) n X H
  · exact g1_at fun n X H => nor_ok 38 (.inr rfl) n X H
  · exact drawT_at fun c hc => d39_ok hc
  · exact g2_at fun n X m Y H => add_ok 40 (.inl rfl) n X m Y H
  · exact g2_at fun n X m Y H => add_ok 41 (.inr rfl) n X m Y H
  · exact drawT_at fun c hc => d42_ok hc
  · exact gF1_at fun t n X H => sca_ok 43 (.inl rfl) t n X H
  · exact gF1_at fun t n X H => sca_ok 44 (.inr rfl) t n X H
  · exact drawT_at fun c hc => d45_ok hc
  · exact g1_at fun n X H => ctr_ok 46 (.inl rfl) n X H
  · exact g1_at fun n X H => ctr_ok 47 (.inr rfl) n X H
  · exact drawT_at fun c hc => d48_ok hc
  · exact g1F_at fun n X t H => neg_ok 49 (.inl rfl) n X t H
  · exact g1F_at fun n X t H => neg_ok 50 (.inr rfl) n X t H
  · exact drawT_at fun c hc => d51_ok hc
  · exact g1F_at fun n X t H => thr_ok 52 (.inl rfl) n X t H
  · exact g1F_at fun n X t H => thr_ok 53 (.inr rfl) n X t H
  · exact drawT_at fun c hc => d54_ok hc
  · exact stepsG_at 55 (.inl rfl)
  · exact stepsG_at 56 (.inr rfl)
  · exact drawT_at fun c hc => d57_ok hc
  · exact g1FI_at fun n X t m H => ins_ok 58 (.inl rfl) n X t m H
  · exact g1FI_at fun n X t m H => ins_ok 59 (.inr rfl) n X t m H
  · exact drawT_at fun c hc => d60_ok hc
  · exact g1F_at fun n X t H => half_ok 61 (.inl rfl) n X t H
  · exact g1F_at fun n X t H => half_ok 62 (.inr rfl) n X t H
  · exact like_at
noncomputable def tabL4 (G : LG) : Table := tabOf (jdeep Tryz.prog (rowsL4 G) [4] 3000 8)
theorem tabL4_sound : SoundT Tryz.prog (tabL4 lG) := jdeep_sound rowsL4_at 8
noncomputable def pwC : Code := Tryz.f4.body.getD .skip
noncomputable def pwAt (p : Nat) : List Item := [.code (dropSeq p pwC)]
end Go.Ax

/- The law of pictures: its parts, evaluated. -/
namespace Go.Ax
open Go Go.Proofs

def ePic (n : Int) (X : Nat → Nat) (m : Int) (Y : Nat → Nat) : Bool := (n == m) && (eqP X Y 64 0 && true)
noncomputable def dP2 (f : FuncId) (c : Cd) : (Int × (Nat → Nat)) × (Int × (Nat → Nat)) := drawV (form2 formP formP) f c
noncomputable def dPF (f : FuncId) (c : Cd) : (Int × (Nat → Nat)) × Nat := drawV (form2 formP formF) f c
noncomputable def dFP (f : FuncId) (c : Cd) : Nat × (Int × (Nat → Nat)) := drawV (form2 formF formP) f c
noncomputable def dP (f : FuncId) (c : Cd) : Int × (Nat → Nat) := drawV formP f c
noncomputable def dPFI (f : FuncId) (c : Cd) : (Int × (Nat → Nat)) × Nat × Int := drawV (form3 formP formF formI) f c
def w0 (c : Cd) : List AV := .sl false 0 c.off c.len 0 :: undefs 411
def wk (c : Cd) : List (Nat × AV) := [(0, .sl false 0 c.off c.len 0)]
def wT (c : Cd) : List AV := tmpsOf 412 (wk c)
def wM : List Bool := maskOf 412 (wk c0)
noncomputable def wA (G : LG) (c : Cd) : Res := jupto Tryz.prog (tabL4 G) (atCut 34) 2000 (pwAt 0) (w0 c) [codeB c false]
noncomputable def wB (G : LG) (c : Cd) : Res := jupto Tryz.prog (tabL4 G) (atCut 29) 2000 (pwAt 7) (wT c) [codeB c false]
noncomputable def wC (G : LG) (c : Cd) : Res := jupto Tryz.prog (tabL4 G) (atCut 15) 2000 (pwAt 12) (wT c) [codeB c false]
noncomputable def wD (G : LG) (c : Cd) : Res := jupto Tryz.prog (tabL4 G) (atCut 2) 2000 (pwAt 26) (wT c) [codeB c false]
theorem wA_big (G : LG) (c : Cd) : (condsP (wA G c) [true], endV Tryz.prog Tryz.f4.results.toList ((wA G c).at [true])) = ([ltQ false 4096 (c.len : Int)], some (some ([.b true true], []), [])) := by kernel_rfl
def e1 (x1 x2 x3 : Nat) (k1 k2 k3 : Int) (e : Bool) : Bool := cond (!eqQ false k1 k2) true (cond (!feq .f32 x1 x2) true (cond (!eqQ false k3 k1) true (cond (!feq .f32 x3 x1) true (cond (eqQ false k1 0) (!(feq .f32 x1 0 == e)) false))))
def eA (G : LG) (p : (Int × (Nat → Nat)) × (Int × (Nat → Nat))) : Bool :=
  e1 (G.df p.1.1 (reP p.1.2) p.2.1 (reP p.2.2)) (G.df p.1.1 (reP p.1.2) p.2.1 (reP p.2.2)) (G.df p.2.1 (reP p.2.2) p.1.1 (reP p.1.2)) (G.dk p.1.1 (reP p.1.2) p.2.1 (reP p.2.2)) (G.dk p.1.1 (reP p.1.2) p.2.1 (reP p.2.2)) (G.dk p.2.1 (reP p.2.2) p.1.1 (reP p.1.2)) (ePic p.1.1 p.1.2 p.2.1 p.2.2)
theorem wA_ok (G : LG) (c : Cd) : (condsP (wA G c) [false, false], lfK 1 wM ((wA G c).at [false, false])) = ([!ltQ false 4096 (c.len : Int), !eA G (dP2 33 c)], (true, pwAt 7, (wT c).map AV.bare, [codeB c false], [okB c c.off c.len])) := by kernel_rfl
def eB (G : LG) (p : Int × (Nat → Nat)) : Bool := cond (!eqQ false (G.nK p.1 (reP p.2)) (G.nK p.1 (reP p.2))) true (!ePic (G.nS p.1 (reP p.2)) (G.nZ p.1 (reP p.2)) (G.nS p.1 (reP p.2)) (G.nZ p.1 (reP p.2)))
def topA (Z : Nat → Nat) : Nat → Nat
  | 0 => 0
  | k + 1 => cond (fgt .f32 (Z k) (topA Z k)) (Z k) (topA Z k)
theorem wB_ok (G : LG) (c : Cd) : ((condsP (wB G c) [false, true, false], lfK 1 wM ((wB G c).at [false, true, false])), (condsP (wB G c) [false, false], lfK 1 wM ((wB G c).at [false, false]))) =
    (([!eB G (dP 36 c), eqQ false (G.nK (dP 36 c).1 (reP (dP 36 c).2)) 0, !!feq .f32 (topA (G.nZ (dP 36 c).1 (reP (dP 36 c).2)) 64) 1065353216], (true, pwAt 12, (wT c).map AV.bare, [codeB c false], [okB c c.off c.len])),
     ([!eB G (dP 36 c), !eqQ false (G.nK (dP 36 c).1 (reP (dP 36 c).2)) 0], (true, pwAt 12, (wT c).map AV.bare, [codeB c false], [okB c c.off c.len]))) := by kernel_rfl
end Go.Ax

/- Differences turned round: the same but for the sign. -/
namespace Go.Ax
open Go Ieee

/-- A zero of either sign. -/
def isZ (x : Nat) : Prop := x = single.word false 0 ∨ x = single.word true 0
theorem sub_form {x y : Nat} {a b : Int} (hx : fint x = some a) (hy : fint y = some b) : ∃ (T : Int) (p : Nat) (g g' : Bool), a - b = T * 2 ^ p ∧ fsub .f32 x y = single.nearest (if T = 0 then g else decide (T < 0)) T.natAbs (-149 + (p : Nat)) ∧ fsub .f32 y x = single.nearest (if T = 0 then g' else decide (0 < T)) T.natAbs (-149 + (p : Nat)) := by
  obtain ⟨s, m, r, e1, ha, _⟩ := fint_form hx
  obtain ⟨t, n, q, e2, hb, _⟩ := fint_form hy
  obtain ⟨p, h1, h2, h3⟩ := two_units (s := s) (t := !t) (m := m) (n := n) (r := r) (q := q)
  refine ⟨signed s m (-149 + (r : Int) - min (-149 + (r : Int)) (-149 + (q : Int))).toNat + signed (!t) n (-149 + (q : Int) - min (-149 + (r : Int)) (-149 + (q : Int))).toNat, p, s && !t, t && !s, ?_, ?_, ?_⟩
  · rw [Int.add_mul, ← h1, ← h2, ha, hb, signed_neg]; omega
  · unfold fsub Format.sub
    rw [show FloatKind.f32.format = single from rfl, e1, e2]
    show (((Datum.number s m (-149 + (r : Nat))).sum (.number (!t) n (-149 + (q : Nat)))).map single.write).getD _ = _
    simp only [Datum.sum, Option.map_some, Option.getD_some]
    rw [h3]
    rfl
  · unfold fsub Format.sub
    rw [show FloatKind.f32.format = single from rfl, e1, e2]
    show (((Datum.number t n (-149 + (q : Nat))).sum (.number (!s) m (-149 + (r : Nat)))).map single.write).getD _ = _
    simp only [Datum.sum, Option.map_some, Option.getD_some]
    have hmin : min (-149 + (q : Int)) (-149 + (r : Int)) = min (-149 + (r : Int)) (-149 + (q : Int)) := by omega
    rw [hmin, h3]
    generalize (-149 + (r : Int) - (-149 + (p : Int))).toNat = u
    generalize (-149 + (q : Int) - (-149 + (p : Int))).toNat = w
    have hT : signed t n w + signed (!s) m u = -(signed s m u + signed (!t) n w) := by rw [signed_neg, signed_neg]; omega
    rw [hT]
    generalize signed s m u + signed (!t) n w = T
    show single.nearest (if -T = 0 then t && !s else decide (-T < 0)) (-T).natAbs (-149 + (p : Nat)) = _
    rw [Int.natAbs_neg]
    by_cases hz : T = 0
    · subst hz; rfl
    · rw [if_neg hz, if_neg (by omega)]
      congr 1
      simp
theorem xor31 {k : Nat} (hk : k < 2 ^ 31) : (2 ^ 31 + k) ^^^ 2 ^ 31 = k := by
  have e : 2 ^ 31 + k = 2 ^ 31 ||| k := by
    have := Nat.two_pow_add_eq_or_of_lt hk 1
    simpa using this
  rw [e]
  apply Nat.eq_of_testBit_eq
  intro j
  rw [Nat.testBit_xor, Nat.testBit_or, Nat.testBit_two_pow]
  by_cases h : 31 = j
  · subst h
    have := Nat.testBit_lt_two_pow hk
    simp [this]
  · simp [h]
theorem fneg_word {k : Nat} (hk : k < 2147483648) : fneg .f32 (single.word true k) = single.word false k := by
  have h := xor31 (k := k) hk
  show (2147483648 + k) ^^^ 2147483648 = k
  exact h
def fabsX (x : Nat) : Nat := cond (flt .f32 x 0) (fneg .f32 x) x
theorem fabs_words {k : Nat} (h1 : 1 ≤ k) (h2 : k < 2139095040) : fabsX (single.word false k) = single.word false k ∧ fabsX (single.word true k) = single.word false k := by
  have hv := valU_pos h1
  have e1 := fint_word false h2
  have e2 := fint_word true h2
  unfold fabsX
  rw [flt_fint e1 fint_zero, flt_fint e2 fint_zero]
  constructor
  · rw [decide_eq_false (by simp)]; rfl
  · rw [decide_eq_true (by simp; omega)]
    exact fneg_word (by omega)
/-- Sizes of differences turned round are the same words, where the numbers differ. -/
theorem fabs_sub {x y : Nat} {a b : Int} (hx : fint x = some a) (hy : fint y = some b) (a0 : 0 ≤ a) (b0 : 0 ≤ b) (hne : a ≠ b) : fabsX (fsub .f32 x y) = fabsX (fsub .f32 y x) := by
  obtain ⟨T, p, g, g', hT, e1, e2⟩ := sub_form hx hy
  have hp : (0 : Int) < 2 ^ p := pow_pos' p
  have hz : T ≠ 0 := by
    rintro rfl
    simp at hT
    omega
  rw [if_neg hz] at e1 e2
  have hmag : T.natAbs ≠ 0 := by omega
  obtain ⟨M, R, hM, h1, h2, h3⟩ : ∃ M R : Nat, T.natAbs * 2 ^ p ≤ M * 2 ^ (R + 0) ∧ M < 16777216 ∧ (R = 0 ∨ 8388608 ≤ M) ∧ R ≤ 253 := by
    have habs : ((T.natAbs * 2 ^ p : Nat) : Int) = ((a - b).natAbs : Int) := by
      rw [hT, Int.natAbs_mul, Int.natAbs_pow]
      rfl
    rcases Int.le_total a b with h | h
    · obtain ⟨_, m, r, _, hm, q1, q2, q3, _⟩ := form_nonneg hy b0
      refine ⟨m, r, ?_, q1, q2, q3⟩
      have e : ((m * 2 ^ (r + 0) : Nat) : Int) = b := by rw [hm]; push_cast; rfl
      omega
    · obtain ⟨_, m, r, _, hm, q1, q2, q3, _⟩ := form_nonneg hx a0
      refine ⟨m, r, ?_, q1, q2, q3⟩
      have e : ((m * 2 ^ (r + 0) : Nat) : Int) = a := by rw [hm]; push_cast; rfl
      omega
  have hr := rung_le (K := 0) hmag hM h1 h2
  have hpl : (-149 + (p : Int)) = -149 - ((0 : Nat) : Int) + (p : Nat) := by omega
  rw [← hpl] at hr
  have hlt : rung T.natAbs (-149 + (p : Nat)) < 2139095040 := by
    have : R * 8388608 ≤ 253 * 8388608 := Nat.mul_le_mul_right _ h3
    omega
  have hpos := rung_pos (p := p) hmag
  rw [nearest_rung _ _ hmag, Nat.min_eq_left (by omega)] at e1 e2
  obtain ⟨f1, f2⟩ := fabs_words hpos hlt
  rw [e1, e2]
  rcases Int.lt_or_gt_of_ne hz with h | h
  · rw [decide_eq_true h, decide_eq_false (by omega), f1, f2]
  · rw [decide_eq_false (by omega), decide_eq_true h, f1, f2]
end Go.Ax

/- Sums of finite numbers: whichever comes first, and their sign; quotients are equal to themselves. -/
namespace Go.Ax
open Go Ieee

theorem add_form {x y : Nat} {a b : Int} (hx : fint x = some a) (hy : fint y = some b) : ∃ (T : Int) (p : Nat) (g : Bool), a + b = T * 2 ^ p ∧ fadd .f32 x y = single.nearest (if T = 0 then g else decide (T < 0)) T.natAbs (-149 + (p : Nat)) ∧ fadd .f32 y x = single.nearest (if T = 0 then g else decide (T < 0)) T.natAbs (-149 + (p : Nat)) := by
  obtain ⟨s, m, r, e1, ha, _⟩ := fint_form hx
  obtain ⟨t, n, q, e2, hb, _⟩ := fint_form hy
  obtain ⟨p, h1, h2, h3⟩ := two_units (s := s) (t := t) (m := m) (n := n) (r := r) (q := q)
  refine ⟨signed s m (-149 + (r : Int) - min (-149 + (r : Int)) (-149 + (q : Int))).toNat + signed t n (-149 + (q : Int) - min (-149 + (r : Int)) (-149 + (q : Int))).toNat, p, s && t, ?_, ?_, ?_⟩
  · rw [Int.add_mul, ← h1, ← h2, ha, hb]
  · unfold fadd Format.add
    rw [show FloatKind.f32.format = single from rfl, e1, e2]
    show (((Datum.number s m (-149 + (r : Nat))).sum (.number t n (-149 + (q : Nat)))).map single.write).getD _ = _
    simp only [Datum.sum, Option.map_some, Option.getD_some]
    rw [h3]
    rfl
  · unfold fadd Format.add
    rw [show FloatKind.f32.format = single from rfl, e1, e2]
    show (((Datum.number t n (-149 + (q : Nat))).sum (.number s m (-149 + (r : Nat)))).map single.write).getD _ = _
    simp only [Datum.sum, Option.map_some, Option.getD_some]
    have hmin : min (-149 + (q : Int)) (-149 + (r : Int)) = min (-149 + (r : Int)) (-149 + (q : Int)) := by omega
    rw [hmin, h3]
    generalize (-149 + (r : Int) - (-149 + (p : Int))).toNat = u
    generalize (-149 + (q : Int) - (-149 + (p : Int))).toNat = w
    rw [Int.add_comm (signed t n w), Bool.and_comm t s]
    rfl
/-- Sums of finite numbers turned round are the same words. -/
theorem fadd_comm {x y : Nat} {a b : Int} (hx : fint x = some a) (hy : fint y = some b) : fadd .f32 x y = fadd .f32 y x := by
  obtain ⟨T, p, g, _, e1, e2⟩ := add_form hx hy
  rw [e1, e2]
theorem nearest_zero (g : Bool) (place : Int) : single.nearest g 0 place = single.word g 0 := by
  unfold Format.nearest
  rw [if_pos rfl]
theorem fint_finite {x : Nat} (h : feq .f32 (fsub .f32 x x) 0 = true) : ∃ a, fint x = some a := finB_fint h
/-- A sum of numbers that are not below 0 is not below 0, and 0 for zeros alone. -/
theorem fadd_nonneg {x y : Nat} {a b : Int} (hx : fint x = some a) (hy : fint y = some b) (a0 : 0 ≤ a) (b0 : 0 ≤ b) :
    feq .f32 (fsub .f32 (fadd .f32 x y) (fadd .f32 x y)) 0 = false ∨ ∃ c : Int, 0 ≤ c ∧ fint (fadd .f32 x y) = some c ∧ (c = 0 ↔ a = 0 ∧ b = 0) := by
  obtain ⟨T, p, g, hT, e1, _⟩ := add_form hx hy
  have hp : (0 : Int) < 2 ^ p := pow_pos' p
  by_cases hz : T = 0
  · subst hz
    rw [if_pos rfl] at e1
    right
    refine ⟨0, Int.le_refl _, ?_, ?_⟩
    · rw [e1]
      show fint (single.nearest g 0 _) = some 0
      rw [nearest_zero]
      cases g <;> decide +kernel
    · simp at hT
      constructor
      · intro _; omega
      · intro _; rfl
  · have hpos : 0 < T := by
      have h1 : 0 ≤ T * 2 ^ p := by omega
      have h2 : 0 ≤ T := Int.nonneg_of_mul_nonneg_left h1 hp
      omega
    rw [if_neg hz] at e1
    have hmag : T.natAbs ≠ 0 := by omega
    have hr := rung_pos (p := p) hmag
    rw [nearest_rung _ _ hmag, decide_eq_false (by omega)] at e1
    rcases Nat.lt_or_ge (rung T.natAbs (-149 + (p : Nat))) 2139095040 with h | h
    · right
      rw [Nat.min_eq_left (by omega)] at e1
      have hf := fint_word false h
      have hv := valU_pos hr
      refine ⟨valU (rung T.natAbs (-149 + (p : Nat))), by omega, by rw [e1]; exact hf, ?_⟩
      constructor
      · intro h0; omega
      · rintro ⟨rfl, rfl⟩
        have h3 : (0 : Int) < T * 2 ^ p := Int.mul_pos hpos hp
        omega
    · left
      rw [Nat.min_eq_right h] at e1
      rw [e1]
      exact inf_not false
theorem feq_inf (g : Bool) : feq .f32 (single.word g 2139095040) (single.word g 2139095040) = true := by cases g <;> decide +kernel
theorem feq_word (g : Bool) {k : Nat} (h : k ≤ 2139095040) : feq .f32 (single.word g k) (single.word g k) = true := by
  rcases Nat.lt_or_eq_of_le h with h' | rfl
  · rw [feq_fint (fint_word g h') (fint_word g h')]
    simp
  · exact feq_inf g
theorem feq_nearest (g : Bool) (mag : Nat) (place : Int) : feq .f32 (single.nearest g mag place) (single.nearest g mag place) = true := by
  by_cases h : mag = 0
  · subst h
    rw [nearest_zero]
    exact feq_word g (by decide)
  · rw [nearest_rung _ _ h]
    exact feq_word g (Nat.min_le_right _ _)
/-- A quotient of numbers of which the second is no zero is equal to itself. -/
theorem fdiv_self {x y : Nat} {b : Int} (hx : feq .f32 x x = true) (hy : fint y = some b) (hb : b ≠ 0) : feq .f32 (fdiv .f32 x y) (fdiv .f32 x y) = true := by
  obtain ⟨t, n, q, e2, hb', _⟩ := fint_form hy
  have hn : n ≠ 0 := by
    rintro rfl
    rw [signed_zero] at hb'
    exact hb hb'
  rcases read_form x with ⟨s, m, r, e1, _⟩ | ⟨s, e1⟩ | ⟨s, u, e1⟩
  · have key : ∃ (g : Bool) (mag : Nat) (place : Int), fdiv .f32 x y = single.nearest g mag place := by
      unfold fdiv Format.div
      rw [show FloatKind.f32.format = single from rfl, e1, e2]
      show ∃ (g : Bool) (mag : Nat) (place : Int), (((Datum.quotient (23 + 2) (.number s m (-149 + (r : Nat))) (.number t n (-149 + (q : Nat)))).map single.write).getD (qnan .f32)) = _
      simp only [Datum.quotient, if_neg hn, Option.map_some, Option.getD_some]
      exact ⟨_, _, _, rfl⟩
    obtain ⟨g, mag, place, e⟩ := key
    rw [e]
    exact feq_nearest g mag place
  · have key : fdiv .f32 x y = single.word (s ^^ t) single.infRung := by
      unfold fdiv Format.div
      rw [show FloatKind.f32.format = single from rfl, e1, e2]; rfl
    rw [key]
    exact feq_inf _
  · exfalso
    unfold feq at hx
    rw [show FloatKind.f32.format = single from rfl] at hx
    unfold Format.order at hx
    rw [e1] at hx
    simp [Datum.order] at hx
theorem fsub_self {x y : Nat} {a b : Int} (hx : fint x = some a) (hy : fint y = some b) : feq .f32 (fsub .f32 x y) (fsub .f32 x y) = true := by
  obtain ⟨T, p, g, g', _, e1, _⟩ := sub_form hx hy
  rw [e1]
  exact feq_nearest _ _ _
end Go.Ax

/- The law of pictures: what must hold, differences and norms. -/
namespace Go.Ax
open Go Go.Proofs

theorem eqP_get {X Y : Nat → Nat} : ∀ (m j : Nat), eqP X Y m j = true → ∀ i, j ≤ i → i < j + m → feq .f32 (X i) (Y i) = true
  | 0, j, _, i, h1, h2 => by omega
  | m + 1, j, h, i, h1, h2 => by
    rw [eqP, Bool.and_eq_true] at h
    rcases Nat.lt_or_eq_of_le h1 with h3 | rfl
    · exact eqP_get m (j + 1) h.2 i (by omega) (by omega)
    · exact h.1
theorem eqP_iff {X Y : Nat → Nat} : eqP X Y 64 0 = true ↔ ∀ j, j < 64 → feq .f32 (X j) (Y j) = true :=
  ⟨fun h j hj => eqP_get 64 0 h j (Nat.zero_le _) (by omega), fun h => eqP_of 64 0 fun i _ hi => h i (by omega)⟩
theorem ePic_re {n m : Int} {X Y : Nat → Nat} : ePic n (reP X) m (reP Y) = ePic n X m Y := by
  have : eqP (reP X) (reP Y) 64 0 = eqP X Y 64 0 := by
    rw [Bool.eq_iff_iff, eqP_iff, eqP_iff]
    constructor
    · intro h j hj
      have := h j hj
      rwa [reP_eq hj, reP_eq hj] at this
    · intro h j hj
      rw [reP_eq hj, reP_eq hj]
      exact h j hj
  unfold ePic
  rw [this]
theorem ePic_self {n : Int} {X : Nat → Nat} (h : ∀ j, j < 64 → feq .f32 (X j) (X j) = true) : ePic n X n X = true := by
  unfold ePic
  rw [eqP_iff.2 h]
  simp
theorem eqQ_self (k : Int) : eqQ false k k = true := by rw [eqQ_eq]; simp
theorem tpC_comm (g g2 : Bool) (n m : Int) : tpC g2 g m n = tpC g g2 n m := by
  have e : eqQ false m n = eqQ false n m := by
    rw [eqQ_eq, eqQ_eq]
    rw [Bool.eq_iff_iff]
    simp only [beq_iff_eq]
    exact ⟨Eq.symm, Eq.symm⟩
  unfold tpC
  rw [e]
  cases g <;> cases g2 <;> rfl
/-! ### Differences -/
theorem fabs_zero {z : Nat} (h : fint z = some 0) : fint (fabsF z) = some 0 := by
  unfold fabsF
  rw [flt_fint h fint_zero]
  exact h
theorem fabs_pos {x y : Nat} {u v : Int} (hx : fint x = some u) (hy : fint y = some v) (u0 : 0 ≤ u) (v0 : 0 ≤ v) (hne : u ≠ v) : fabsF (fsub .f32 x y) = fabsF (fsub .f32 y x) ∧ ∃ w : Int, 0 < w ∧ fint (fabsF (fsub .f32 x y)) = some w := by
  have hs : fabsF (fsub .f32 x y) = fabsF (fsub .f32 y x) := fabs_sub hx hy u0 v0 hne
  refine ⟨hs, ?_⟩
  rcases Int.le_total v u with h | h
  · obtain ⟨w, w1, _, w3⟩ := fsub_le hx hy v0 h
    have hw : w ≠ 0 := fun e => hne (w3 e)
    refine ⟨w, by omega, ?_⟩
    unfold fabsF
    rw [flt_fint w1 fint_zero, decide_eq_false (by omega)]
    exact w1
  · obtain ⟨w, w1, _, w3⟩ := fsub_le hy hx u0 h
    have hw : w ≠ 0 := fun e => hne (w3 e).symm
    refine ⟨w, by omega, ?_⟩
    rw [hs]
    unfold fabsF
    rw [flt_fint w1 fint_zero, decide_eq_false (by omega)]
    exact w1
theorem dif_rel {n m : Int} {X Y : Nat → Nat} (hX : isPicB n X = true) (hY : isPicB m Y = true) : ∀ k, k ≤ 64 → (finB (difF X Y k) = false ∧ finB (difF Y X k) = false) ∨ ∃ a : Int, 0 ≤ a ∧ fint (difF X Y k) = some a ∧ fint (difF Y X k) = some a ∧ (a = 0 ↔ ∀ j, j < k → fint (X j) = fint (Y j))
  | 0, _ => .inr ⟨0, Int.le_refl _, fint_zero, fint_zero, ⟨fun _ j h => by omega, fun _ => rfl⟩⟩
  | k + 1, hk => by
    obtain ⟨u, hu, u0, _⟩ := pic_fint hX (j := k) (by omega)
    obtain ⟨v, hv, v0, _⟩ := pic_fint hY (j := k) (by omega)
    have habs : ∀ {D s : Nat}, finB D = false → finB (fadd .f32 D s) = false := fun {D s} h => by
      cases h1 : finB (fadd .f32 D s) with
      | false => rfl
      | true =>
        have := finB_iff.2 (fadd_absorb h1)
        rw [h] at this; cases this
    rcases dif_rel hX hY k (by omega) with ⟨h1, h2⟩ | ⟨a, a0, h1, h2, h3⟩
    · exact .inl ⟨habs h1, habs h2⟩
    · simp only [difF]
      by_cases huv : u = v
      · subst huv
        have z1 : fint (fabsF (fsub .f32 (X k) (Y k))) = some 0 := by
          have := fsub_fint hu hv (by simpa using rep_zero)
          rw [Int.sub_self] at this
          exact fabs_zero this
        have z2 : fint (fabsF (fsub .f32 (Y k) (X k))) = some 0 := by
          have := fsub_fint hv hu (by simpa using rep_zero)
          rw [Int.sub_self] at this
          exact fabs_zero this
        have f1 := fadd_fint h1 z1 (by simpa using fint_rep h1)
        have f2 := fadd_fint h2 z2 (by simpa using fint_rep h2)
        rw [Int.add_zero] at f1 f2
        refine .inr ⟨a, a0, f1, f2, ?_⟩
        rw [h3]
        constructor
        · intro h j hj
          rcases Nat.lt_or_eq_of_le (Nat.le_of_lt_succ hj) with h' | rfl
          · exact h j h'
          · rw [hu, hv]
        · exact fun h j hj => h j (by omega)
      · obtain ⟨hs, w, w0, hw⟩ := fabs_pos hu hv u0 v0 huv
        rw [← hs]
        have hsame : fadd .f32 (difF Y X k) (fabsF (fsub .f32 (X k) (Y k))) = fadd .f32 (difF X Y k) (fabsF (fsub .f32 (X k) (Y k))) := by
          rw [fadd_comm h2 hw, fadd_comm h1 hw]
          exact fadd_same hw w0 h2 h1
        rw [hsame]
        rcases fadd_nonneg h1 hw a0 (Int.le_of_lt w0) with h | ⟨c, c0, hc, hz⟩
        · exact .inl ⟨h, h⟩
        · refine .inr ⟨c, c0, hc, hc, ?_⟩
          constructor
          · intro h; have := (hz.1 h).2; omega
          · intro h
            exfalso
            have := h k (by omega)
            rw [hu, hv] at this
            exact huv (Option.some.inj this)
theorem feq_pz : feq .f32 (plusF 0) (plusF 0) = true := by rw [plus_zero]; exact feq_zz
theorem eA_no (p : (Int × (Nat → Nat)) × (Int × (Nat → Nat))) : eA lG p = false := by
  obtain ⟨⟨n, X0⟩, m, Y0⟩ := p
  unfold eA
  show e1 (lG.df n (reP X0) m (reP Y0)) (lG.df n (reP X0) m (reP Y0)) (lG.df m (reP Y0) n (reP X0)) (lG.dk n (reP X0) m (reP Y0)) (lG.dk n (reP X0) m (reP Y0)) (lG.dk m (reP Y0) n (reP X0)) (ePic n X0 m Y0) = false
  rw [← ePic_re]
  generalize reP X0 = X
  generalize reP Y0 = Y
  show e1 (plusF (lim (tpC (isPicB n X) (isPicB m Y) n m) (finB (difF X Y (n.toNat * n.toNat))) 0 (difF X Y (n.toNat * n.toNat)))) (plusF (lim (tpC (isPicB n X) (isPicB m Y) n m) (finB (difF X Y (n.toNat * n.toNat))) 0 (difF X Y (n.toNat * n.toNat))))
    (plusF (lim (tpC (isPicB m Y) (isPicB n X) m n) (finB (difF Y X (m.toNat * m.toNat))) 0 (difF Y X (m.toNat * m.toNat)))) (limC (tpC (isPicB n X) (isPicB m Y) n m) (finB (difF X Y (n.toNat * n.toNat)))) (limC (tpC (isPicB n X) (isPicB m Y) n m) (finB (difF X Y (n.toNat * n.toNat))))
    (limC (tpC (isPicB m Y) (isPicB n X) m n) (finB (difF Y X (m.toNat * m.toNat)))) (ePic n X m Y) = false
  rw [tpC_comm (isPicB n X) (isPicB m Y) n m]
  cases hT : eqQ false (tpC (isPicB n X) (isPicB m Y) n m) 0 with
  | false =>
    have hl : ∀ (g : Bool) (d : Nat), lim (tpC (isPicB n X) (isPicB m Y) n m) g 0 d = 0 := fun g d => by unfold lim; rw [hT]; rfl
    have hc : ∀ g : Bool, limC (tpC (isPicB n X) (isPicB m Y) n m) g = tpC (isPicB n X) (isPicB m Y) n m := fun g => by unfold limC; rw [hT]; rfl
    rw [hl, hl, hc, hc]
    unfold e1
    rw [eqQ_self, feq_pz, hT]; rfl
  | true =>
    obtain ⟨h1, h2, rfl⟩ := tpC_zero hT
    obtain ⟨hN1, hN2⟩ := side_N (pic_side h1)
    rcases dif_rel h1 h2 (n.toNat * n.toNat) hN2 with ⟨f1, f2⟩ | ⟨a, a0, f1, f2, f3⟩
    · have hl : ∀ (d : Nat), lim (tpC (isPicB n X) (isPicB n Y) n n) false 0 d = 0 := fun d => by unfold lim; rw [hT]; rfl
      have hc : limC (tpC (isPicB n X) (isPicB n Y) n n) false = 3 := by unfold limC; rw [hT]; rfl
      rw [f1, f2, hl, hl, hc]
      unfold e1
      rw [feq_pz]; rfl
    · have hl : ∀ (d : Nat), lim (tpC (isPicB n X) (isPicB n Y) n n) true 0 d = d := fun d => by unfold lim; rw [hT]; rfl
      have hc : limC (tpC (isPicB n X) (isPicB n Y) n n) true = 0 := by unfold limC; rw [hT]; rfl
      rw [finB_iff.2 ⟨_, f1⟩, finB_iff.2 ⟨_, f2⟩, hl, hl, hc]
      have p1 := plus_fint f1
      have p2 := plus_fint f2
      unfold e1
      rw [feq_fint p1 p1, feq_fint p2 p1, feq_zero_fint p1]
      have he : ePic n X n Y = (a == 0) := by
        rw [Bool.eq_iff_iff, beq_iff_eq, f3]
        unfold ePic
        simp only [beq_self_eq_true, Bool.true_and, Bool.and_true]
        rw [eqP_iff]
        constructor
        · intro h j hj
          obtain ⟨u, hu, _⟩ := pic_fint h1 (j := j) (by omega)
          obtain ⟨v, hv, _⟩ := pic_fint h2 (j := j) (by omega)
          have := h j (by omega)
          rw [feq_fint hu hv, beq_iff_eq] at this
          rw [hu, hv, this]
        · intro h j hj
          obtain ⟨u, hu, _, uz⟩ := pic_fint h1 hj
          obtain ⟨v, hv, _, vz⟩ := pic_fint h2 hj
          rw [feq_fint hu hv, beq_iff_eq]
          rcases Nat.lt_or_ge j (n.toNat * n.toNat) with h' | h'
          · have := h j h'
            rw [hu, hv] at this
            exact Option.some.inj this
          · rw [uz h', vz h']
      rw [he]
      simp
      rfl
/-! ### Norms -/
theorem pcX_self {n c : Int} {Z : Nat → Nat} (h : eqQ false c 0 = true → ∀ j, j < 64 → j < n.toNat * n.toNat → feq .f32 (plusF (Z j)) (plusF (Z j)) = true) (j : Nat) (hj : j < 64) : feq .f32 (pcX n c Z j) (pcX n c Z j) = true := by
  unfold pcX
  cases hc : eqQ false c 0 with
  | false => exact feq_zz
  | true =>
    cases hb : Nat.blt j (n.toNat * n.toNat) with
    | false => exact feq_zz
    | true => exact h hc j hj (blt_true hb)
theorem eB_no (p : Int × (Nat → Nat)) : eB lG p = false := by
  obtain ⟨n, X0⟩ := p
  unfold eB
  show cond (!eqQ false (norC n (reP X0)) (norC n (reP X0))) true (!ePic (cond (eqQ false (norC n (reP X0)) 0) n 0) (pcX n (norC n (reP X0)) (quoX (reP X0) (topI (reP X0) (n.toNat * n.toNat - 1)))) (cond (eqQ false (norC n (reP X0)) 0) n 0) (pcX n (norC n (reP X0)) (quoX (reP X0) (topI (reP X0) (n.toNat * n.toNat - 1))))) = false
  rw [eqQ_self, ePic_self (pcX_self fun hc j hj _ => ?_)]
  · rfl
  · obtain ⟨w, w1, _⟩ := quo_fint hc hj
    exact feq_plus (finB_iff.2 ⟨_, w1⟩)
theorem topA_rel {Z : Nat → Nat} (h : ∀ j, j < 64 → ∃ w : Nat, fint (Z j) = some (w : Int) ∧ w ≤ 2 ^ 149) : ∀ k, k ≤ 64 → ∃ v : Nat, fint (topA Z k) = some (v : Int) ∧ v ≤ 2 ^ 149 ∧ ∀ j (w : Nat), j < k → fint (Z j) = some (w : Int) → w ≤ v
  | 0, _ => ⟨0, fint_zero, Nat.zero_le _, fun j w h => by omega⟩
  | k + 1, hk => by
    obtain ⟨v, v1, v2, v3⟩ := topA_rel h k (by omega)
    obtain ⟨w, w1, w2⟩ := h k (by omega)
    unfold topA
    rw [fgt_fint w1 v1]
    by_cases hlt : (v : Int) < w
    · rw [decide_eq_true hlt]
      refine ⟨w, w1, w2, fun j u hj hu => ?_⟩
      rcases Nat.lt_or_eq_of_le (Nat.le_of_lt_succ hj) with h' | rfl
      · have := v3 j u h' hu; omega
      · rw [w1] at hu; cases hu; omega
    · rw [decide_eq_false hlt]
      refine ⟨v, v1, v2, fun j u hj hu => ?_⟩
      rcases Nat.lt_or_eq_of_le (Nat.le_of_lt_succ hj) with h' | rfl
      · exact v3 j u h' hu
      · rw [w1] at hu
        have := Option.some.inj hu
        omega
theorem top_one (p : Int × (Nat → Nat)) (h : eqQ false (lG.nK p.1 (reP p.2)) 0 = true) : feq .f32 (topA (lG.nZ p.1 (reP p.2)) 64) 1065353216 = true := by
  obtain ⟨n, X0⟩ := p
  show feq .f32 (topA (pcX n (norC n (reP X0)) (quoX (reP X0) (topI (reP X0) (n.toNat * n.toNat - 1)))) 64) 1065353216 = true
  have h : eqQ false (norC n (reP X0)) 0 = true := h
  generalize reP X0 = X at *
  have hq : ∀ j, j < 64 → ∃ w : Nat, fint (pcX n (norC n X) (quoX X (topI X (n.toNat * n.toNat - 1))) j) = some (w : Int) ∧ w ≤ 2 ^ 149 ∧ (j < n.toNat * n.toNat → fint (X j) = fint (topI X (n.toNat * n.toNat - 1)) → w = 2 ^ 149) := fun j hj => by
    unfold pcX
    rw [h]
    cases hb : Nat.blt j (n.toNat * n.toNat) with
    | false => exact ⟨0, fint_zero, Nat.zero_le _, fun h' => by have := blt_false hb; omega⟩
    | true =>
      obtain ⟨w, w1, w2, _, w4⟩ := quo_fint h hj
      exact ⟨w, plus_fint w1, w2, fun _ => w4⟩
  obtain ⟨v, v1, v2, v3⟩ := topA_rel (fun j hj => by obtain ⟨w, w1, w2, _⟩ := hq j hj; exact ⟨w, w1, w2⟩) 64 (Nat.le_refl _)
  obtain ⟨hp, _⟩ := tcC_zero h
  obtain ⟨t, _, t1, _, _, _, j0, j1, j2⟩ := top_of hp
  obtain ⟨hN1, hN2⟩ := side_N (pic_side hp)
  obtain ⟨w, w1, _, w3⟩ := hq j0 (by omega)
  have hw := w3 j1 (by rw [j2, t1])
  have := v3 j0 w (by omega) w1
  have hv : v = 2 ^ 149 := by omega
  rw [feq_fint v1 one_bits, hv]
  simp
end Go.Ax

/- The law of pictures: more of its parts, evaluated. -/
namespace Go.Ax
open Go Go.Proofs

def eC (G : LG) (p : (Int × (Nat → Nat)) × (Int × (Nat → Nat))) (q : Nat × (Int × (Nat → Nat))) (r : Int × (Nat → Nat)) (s : (Int × (Nat → Nat)) × Nat) : Bool :=
  cond (!eqQ false (G.aK p.1.1 (reP p.1.2) p.2.1 (reP p.2.2)) (G.aK p.1.1 (reP p.1.2) p.2.1 (reP p.2.2))) true
  (cond (!ePic (G.aS p.1.1 (reP p.1.2) p.2.1 (reP p.2.2)) (G.aZ p.1.1 (reP p.1.2) p.2.1 (reP p.2.2)) (G.aS p.1.1 (reP p.1.2) p.2.1 (reP p.2.2)) (G.aZ p.1.1 (reP p.1.2) p.2.1 (reP p.2.2))) true
  (cond (!eqQ false (G.aK p.2.1 (reP p.2.2) p.1.1 (reP p.1.2)) (G.aK p.1.1 (reP p.1.2) p.2.1 (reP p.2.2))) true
  (cond (!ePic (G.aS p.2.1 (reP p.2.2) p.1.1 (reP p.1.2)) (G.aZ p.2.1 (reP p.2.2) p.1.1 (reP p.1.2)) (G.aS p.1.1 (reP p.1.2) p.2.1 (reP p.2.2)) (G.aZ p.1.1 (reP p.1.2) p.2.1 (reP p.2.2))) true
  (cond (!eqQ false (G.sK q.1 q.2.1 (reP q.2.2)) (G.sK q.1 q.2.1 (reP q.2.2))) true
  (cond (!ePic (G.sS q.1 q.2.1 (reP q.2.2)) (G.sZ q.1 q.2.1 (reP q.2.2)) (G.sS q.1 q.2.1 (reP q.2.2)) (G.sZ q.1 q.2.1 (reP q.2.2))) true
  (cond (!eqQ false (G.cK r.1 (reP r.2)) (G.cK r.1 (reP r.2))) true
  (cond (!feq .f32 (G.cF r.1 (reP r.2)) (G.cF r.1 (reP r.2))) true
  (cond (!eqQ false (G.gK s.1.1 (reP s.1.2) s.2) (G.gK s.1.1 (reP s.1.2) s.2)) true
  (!ePic (G.gS s.1.1 (reP s.1.2) s.2) (G.gZ s.1.1 (reP s.1.2) s.2) (G.gS s.1.1 (reP s.1.2) s.2) (G.gZ s.1.1 (reP s.1.2) s.2))))))))))
theorem wC_ok (G : LG) (c : Cd) : (condsP (wC G c) [false], lfK 1 wM ((wC G c).at [false])) = ([!eC G (dP2 39 c) (dFP 42 c) (dP 45 c) (dPF 48 c)], (true, pwAt 26, (wT c).map AV.bare, [codeB c false], List.replicate 4 (okB c c.off c.len))) := by kernel_rfl
def eW (n : Int) (X : Nat → Nat × Nat) : Bool := eqZ n X n X
noncomputable def wE (G : LG) (c : Cd) : Res := cupto Tryz.prog (tabL4 G) (atCut 2) 2000 (pwAt 26) (wT c) [codeB c false]
def lsq (G : LG) (s : (Int × (Nat → Nat)) × Nat × Int) : List Int := G.ls s.1.1 (reP s.1.2) s.2.1 s.2.2
def gotS (G : LG) (s : (Int × (Nat → Nat)) × Nat × Int) : Bool := G.oK s.1.1 (reP s.1.2) s.2.1 s.2.2
def lkS (G : LG) (s : (Int × (Nat → Nat)) × Nat × Int) : Int := G.lK s.1.1 (reP s.1.2) s.2.1 s.2.2
def cT (G : LG) (t : (Int × (Nat → Nat)) × Nat) : List Bool :=
  [!!eqQ false (G.tK t.1.1 (reP t.1.2) t.2) (G.tK t.1.1 (reP t.1.2) t.2), !!eW (G.tS t.1.1 (reP t.1.2) t.2) (G.tY t.1.1 (reP t.1.2) t.2)]
def cI (G : LG) (i : (Int × (Nat → Nat)) × Nat × Int) (h : (Int × (Nat → Nat)) × Nat) : List Bool :=
  [!!eqQ false (G.iK i.1.1 (reP i.1.2) i.2.1 i.2.2) (G.iK i.1.1 (reP i.1.2) i.2.1 i.2.2),
   !!ePic (G.iS i.1.1 (reP i.1.2) i.2.1 i.2.2) (G.iZ i.1.1 (reP i.1.2) i.2.1 i.2.2) (G.iS i.1.1 (reP i.1.2) i.2.1 i.2.2) (G.iZ i.1.1 (reP i.1.2) i.2.1 i.2.2),
   !!eqQ false (G.hK h.1.1 (reP h.1.2) h.2) (G.hK h.1.1 (reP h.1.2) h.2),
   !!eW (G.hS h.1.1 (reP h.1.2) h.2) (G.hY h.1.1 (reP h.1.2) h.2)]
def wkD (_c : Cd) (N : Nat) (m : Int) : List AV := tmpsOf 412 [(51, .i false .i64 m), (52, .sl false 5 0 N 1)]
def wMD : List Bool := maskOf 412 [(51, .any), (52, .any)]
def wkE (m : Int) : List AV := tmpsOf 412 [(51, .i false .i64 m), (52, .slnil)]
def pB (n : Int) (X : Nat → Nat) : AB := .cells true (.lit (picL n X))
def wH (G : LG) (c : Cd) (t : (Int × (Nat → Nat)) × Nat) (s : (Int × (Nat → Nat)) × Nat × Int) : List AB :=
  [codeB c false, pB t.1.1 t.1.2, wvB (G.tS t.1.1 (reP t.1.2) t.2) (G.tY t.1.1 (reP t.1.2) t.2), wvB (G.tS t.1.1 (reP t.1.2) t.2) (G.tY t.1.1 (reP t.1.2) t.2), pB s.1.1 s.1.2, .cells true (.ints .i64 (lsq G s))]
def sN (s : (Int × (Nat → Nat)) × Nat × Int) : Nat := s.1.1.toNat * s.1.1.toNat
theorem wE_ok (G : LG) (c : Cd) : ((condsP (wE G c) [true, true, false, false, false, false, false, false, false], lfK 6 wMD ((wE G c).at [true, true, false, false, false, false, false, false, false]))) =
    (gotS G (dPFI 54 c) :: gotS G (dPFI 54 c) :: (cT G (dPF 51 c) ++ [!!(lsq G (dPFI 54 c) == lsq G (dPFI 54 c))] ++ cI G (dPFI 57 c) (dPF 60 c)),
      (true, pwAt 39, (wkD c (sN (dPFI 54 c)) (dPFI 54 c).2.2).map AV.bare, wH G c (dPF 51 c) (dPFI 54 c),
        [true, decide (sN (dPFI 54 c) = (lsq G (dPFI 54 c)).length), decide (sN (dPFI 54 c) ≤ 5000), true, decide (sN (dPFI 54 c) = (lsq G (dPFI 54 c)).length), decide (sN (dPFI 54 c) ≤ 5000)] ++ List.replicate 4 (okB c c.off c.len))) := by kernel_rfl
theorem wE_bad (G : LG) (c : Cd) : ((condsP (wE G c) [false, false, false, false, false, false, false, false, false], lfK 1 wMD ((wE G c).at [false, false, false, false, false, false, false, false, false]))) =
    ((!gotS G (dPFI 54 c)) :: (!gotS G (dPFI 54 c)) :: (cT G (dPF 51 c) ++ [!!eqQ false (lkS G (dPFI 54 c)) (lkS G (dPFI 54 c))] ++ cI G (dPFI 57 c) (dPF 60 c)),
      (true, pwAt 39, (wkE (dPFI 54 c).2.2).map AV.bare, [codeB c false], List.replicate 4 (okB c c.off c.len))) := by kernel_rfl
end Go.Ax

/- The law of pictures: the loop over the steps. -/
namespace Go.Ax
open Go Go.Proofs

def wl6 (B0 B1 B2 B3 B4 : AB) (xs : List Int) : List AB := [B0, B1, B2, B3, B4, .cells true (.ints .i64 xs)]
noncomputable def wl0 (s : AV) (m : Int) (H : List AB) : Res := cupto Tryz.prog tabPc atLoop 100 (pwAt 39) (tmpsOf 412 [(51, .i false .i64 m), (52, s)]) H
noncomputable def wlL : List Item := ((wl0 .slnil 0 []).at []).todo ++ []
noncomputable def wlR : List Item := toLp wlL
theorem wlR_eq : toLp wlR = wlR := by kernel_rfl
def wlT (xs : List Int) (m : Int) (i : Nat) : List AV := tmpsOf 412 [(51, .i false .i64 m), (52, .sl false 5 0 xs.length 1), (69, .i false .i64 (Int.ofNat i))]
def wlN (xs : List Int) (m : Int) (i : Nat) : List AV := tmpsOf 412 [(51, .i false .i64 m), (52, .sl false 5 0 xs.length 1), (69, .i false .i64 (wrapQ false .i64 (Int.ofNat i + 1)))]
def wlM : List Bool := maskOf 412 [(51, .any), (52, .any), (69, .any)]
noncomputable def wlU (B0 B1 B2 B3 B4 : AB) (xs : List Int) (m : Int) (i : Nat) : Res := cupto Tryz.prog tabPc atLoop 100 wlR (wlT xs m i) (wl6 B0 B1 B2 B3 B4 xs)
noncomputable def wlE (B0 B1 B2 B3 B4 : AB) (xs : List Int) (m : Int) (i : Nat) : Res := jupto Tryz.prog tabPc atLoop 100 wlR (wlT xs m i) (wl6 B0 B1 B2 B3 B4 xs)
def wlQ (xs : List Int) (i : Nat) : List Bool := [decide (0 + (Int.ofNat i).toNat * 1 < (Cells.ints IntKind.i64 xs).len), decide (0 ≤ Int.ofNat i) && decide (Int.ofNat i < ↑xs.length)]
def wlX (xs : List Int) (i : Nat) : Int := xs.getD (0 + (Int.ofNat i).toNat * 1) 0
section
variable (B0 B1 B2 B3 B4 : AB) (xs : List Int) (m : Int) (i : Nat) (H : List AB)
theorem wl0_c : condsP (wl0 (.sl false 5 0 xs.length 1) m H) [] = [] := by kernel_rfl
theorem wl0_ok : lfM wlM ((wl0 (.sl false 5 0 xs.length 1) m H).at []) = (true, wlL, (wlT xs m 0).map AV.bare, H, []) := by kernel_rfl
theorem wlU_ok : (condsP (wlU B0 B1 B2 B3 B4 xs m i) [true, false, false], lfM wlM ((wlU B0 B1 B2 B3 B4 xs m i).at [true, false, false])) =
    ([ltQ false (Int.ofNat i) xs.length, !ltQ false (wlX xs i) 0, !leQ false m (wlX xs i)], (true, wlR, (wlN xs m i).map AV.bare, wl6 B0 B1 B2 B3 B4 xs, wlQ xs i ++ wlQ xs i)) := by kernel_rfl
theorem wlE_ok : (condsP (wlE B0 B1 B2 B3 B4 xs m i) [false], endV Tryz.prog Tryz.f4.results.toList ((wlE B0 B1 B2 B3 B4 xs m i).at [false])) = ([!ltQ false (Int.ofNat i) xs.length], some (some ([.b true true], []), [])) := by kernel_rfl
noncomputable def wlZ (m : Int) (H : List AB) : Res := jupto Tryz.prog tabPc (atCut 99) 400 (pwAt 39) (tmpsOf 412 [(51, .i false .i64 m), (52, .slnil)]) H
theorem wlZ_ok : (condsP (wlZ m H) [], endV Tryz.prog Tryz.f4.results.toList ((wlZ m H).at [])) = ([], some (some ([.b true true], []), [])) := by kernel_rfl
end
end Go.Ax

/- The law of pictures: what must hold, the other parts. -/
namespace Go.Ax
open Go Go.Proofs

theorem feq_plus' {x : Nat} (h : feq .f32 x x = true) : feq .f32 (plusF x) (plusF x) = true := by
  unfold plusF
  cases feq .f32 x 0 with
  | true => exact feq_zz
  | false => exact h
theorem cut_self {n c : Int} {Z : Nat → Nat} (h : eqQ false c 0 = true → isPicB n (cut (n.toNat * n.toNat) Z) = true) (j : Nat) (hj : j < 64) : feq .f32 (pcX n c Z j) (pcX n c Z j) = true :=
  pcX_self (fun hc i hi hlt => by
    obtain ⟨a, ha, _⟩ := pic_fint (h hc) hi
    rw [cut_at, lt_bltP hlt] at ha
    exact feq_plus (finB_iff.2 ⟨a, ha⟩)) j hj
theorem pic_congr {n : Int} {Z Z' : Nat → Nat} (h : ∀ j, j < 64 → Z j = Z' j) : isPicB n Z = isPicB n Z' := by
  rw [Bool.eq_iff_iff, isPicB_iff, isPicB_iff]
  constructor
  · rintro ⟨h1, h2⟩
    exact ⟨h1, fun j hj => by rw [← h j hj]; exact h2 j hj⟩
  · rintro ⟨h1, h2⟩
    exact ⟨h1, fun j hj => by rw [h j hj]; exact h2 j hj⟩
theorem add_swap (n m : Int) (X Y : Nat → Nat) : addC m Y n X = addC n X m Y ∧ ePic (cond (eqQ false (addC m Y n X) 0) m 0) (pcX m (addC m Y n X) (addX Y X)) (cond (eqQ false (addC n X m Y) 0) n 0) (pcX n (addC n X m Y) (addX X Y)) = true := by
  cases hT : eqQ false (tpC (isPicB n X) (isPicB m Y) n m) 0 with
  | false =>
    have e1 : addC n X m Y = tpC (isPicB n X) (isPicB m Y) n m := by unfold addC limC; rw [hT]; rfl
    have e2 : addC m Y n X = tpC (isPicB n X) (isPicB m Y) n m := by
      unfold addC
      rw [tpC_comm (isPicB n X) (isPicB m Y) n m]
      unfold limC; rw [hT]; rfl
    refine ⟨by rw [e1, e2], ?_⟩
    rw [e1, e2]
    have z : ∀ (k : Int) (Z : Nat → Nat), pcX k (tpC (isPicB n X) (isPicB m Y) n m) Z = fun _ => 0 := fun k Z => funext fun j => by unfold pcX; rw [hT]; rfl
    rw [z, z, hT]
    exact ePic_self fun j _ => feq_zz
  | true =>
    obtain ⟨h1, h2, rfl⟩ := tpC_zero hT
    have hadd : ∀ j, j < 64 → addX Y X j = addX X Y j := fun j hj => by
      obtain ⟨a, ha, _⟩ := pic_fint h1 hj
      obtain ⟨b, hb, _⟩ := pic_fint h2 hj
      exact fadd_comm hb ha
    have hcut : isPicB n (cut (n.toNat * n.toNat) (addX Y X)) = isPicB n (cut (n.toNat * n.toNat) (addX X Y)) := pic_congr fun j hj => by
      rw [cut_at, cut_at, hadd j hj]
    have e : addC n Y n X = addC n X n Y := by
      unfold addC
      rw [tpC_comm (isPicB n X) (isPicB n Y) n n, hcut]
    refine ⟨e, ?_⟩
    rw [e]
    have eX : ∀ j, j < 64 → pcX n (addC n X n Y) (addX Y X) j = pcX n (addC n X n Y) (addX X Y) j := fun j hj => by
      unfold pcX; rw [hadd j hj]
    unfold ePic
    have : eqP (pcX n (addC n X n Y) (addX Y X)) (pcX n (addC n X n Y) (addX X Y)) 64 0 = true := eqP_iff.2 fun j hj => by
      rw [eX j hj]
      exact cut_self (fun hc => (limC_zero hc).2) j hj
    rw [this]
    simp
theorem bot_ge {n : Int} {X : Nat → Nat} (h : isPicB n X = true) : ∀ k, k < 64 → ∃ b : Int, 0 ≤ b ∧ fint (botI X k) = some b
  | 0, hk => by
    obtain ⟨a, ha, a0, _⟩ := pic_fint h hk
    exact ⟨a, a0, ha⟩
  | k + 1, hk => by
    obtain ⟨b, b0, hb⟩ := bot_ge h k (by omega)
    obtain ⟨a, ha, a0, _⟩ := pic_fint h hk
    rw [botI, fminA_fint hb ha]
    split
    · exact ⟨b, b0, hb⟩
    · split
      · exact ⟨a, a0, ha⟩
      · split
        · exact ⟨b, b0, hb⟩
        · exact ⟨a, a0, ha⟩
theorem con_self (n : Int) (X : Nat → Nat) : feq .f32 (plusF (conF n X)) (plusF (conF n X)) = true := by
  refine feq_plus' ?_
  unfold conF
  cases hC : eqQ false (tcC (isPicB n X) (n.toNat * n.toNat) X) 0 with
  | false => exact feq_zz
  | true =>
    cases hf : finB (fadd .f32 (topI X (n.toNat * n.toNat - 1)) (botI X (n.toNat * n.toNat - 1))) with
    | false => exact feq_zz
    | true =>
      obtain ⟨hp, hz⟩ := tcC_zero hC
      obtain ⟨v, v0, e1, _⟩ := top_of hp
      obtain ⟨hN1, hN2⟩ := side_N (pic_side hp)
      obtain ⟨b, b0, hb⟩ := bot_ge hp (n.toNat * n.toNat - 1) (by omega)
      rw [feq_zero_fint e1] at hz
      have hv : v ≠ 0 := by simpa using hz
      rcases fadd_nonneg e1 hb v0 b0 with h | ⟨c, c0, hc, hcz⟩
      · have h2 : finB (fadd .f32 (topI X (n.toNat * n.toNat - 1)) (botI X (n.toNat * n.toNat - 1))) = false := h
        rw [hf] at h2; cases h2
      · simp only [cond_true]
        exact fdiv_self (fsub_self e1 hb) hc fun h0 => hv (hcz.1 h0).1
theorem eC_no (p : (Int × (Nat → Nat)) × (Int × (Nat → Nat))) (q : Nat × (Int × (Nat → Nat))) (r : Int × (Nat → Nat)) (s : (Int × (Nat → Nat)) × Nat) : eC lG p q r s = false := by
  obtain ⟨⟨n, X0⟩, m, Y0⟩ := p
  obtain ⟨t, k, Z0⟩ := q
  obtain ⟨l, W0⟩ := r
  obtain ⟨⟨g, V0⟩, u⟩ := s
  have h1 : ePic (lG.aS n (reP X0) m (reP Y0)) (lG.aZ n (reP X0) m (reP Y0)) (lG.aS n (reP X0) m (reP Y0)) (lG.aZ n (reP X0) m (reP Y0)) = true := ePic_self (cut_self fun hc => (limC_zero hc).2)
  obtain ⟨h2, h3⟩ := add_swap n m (reP X0) (reP Y0)
  have h4 : ePic (lG.sS t k (reP Z0)) (lG.sZ t k (reP Z0)) (lG.sS t k (reP Z0)) (lG.sZ t k (reP Z0)) = true := ePic_self (cut_self fun hc => by
    have := (sel3_zero (by decide) (by decide) (by decide) hc).2.2
    simpa using this)
  have h5 : feq .f32 (lG.cF l (reP W0)) (lG.cF l (reP W0)) = true := con_self l (reP W0)
  have h6 : ePic (lG.gS g (reP V0) u) (lG.gZ g (reP V0) u) (lG.gS g (reP V0) u) (lG.gZ g (reP V0) u) = true := ePic_self (cut_self fun hc => by
    have hc : eqQ false (negC g (reP V0) u) 0 = true := hc
    unfold negC at hc
    cases hb : pBad g (reP V0) u with
    | true => rw [hb] at hc; cases hc
    | false =>
      rw [hb] at hc
      cases hl : flt .f32 u (topI (reP V0) (g.toNat * g.toNat - 1)) with
      | true => rw [hl] at hc; cases hc
      | false => exact neg_pic hb hl)
  have h2' : lG.aK m (reP Y0) n (reP X0) = lG.aK n (reP X0) m (reP Y0) := h2
  have h3' : ePic (lG.aS m (reP Y0) n (reP X0)) (lG.aZ m (reP Y0) n (reP X0)) (lG.aS n (reP X0) m (reP Y0)) (lG.aZ n (reP X0) m (reP Y0)) = true := h3
  unfold eC
  dsimp only
  rw [eqQ_self, h1, h2', eqQ_self, h3', eqQ_self, h4, eqQ_self, h5, eqQ_self, h6]
  rfl
theorem eW_self {n : Int} {X : Nat → Nat × Nat} (h : ∀ j, feq .f32 (X j).1 (X j).1 = true ∧ feq .f32 (X j).2 (X j).2 = true) : eW n X = true := by
  unfold eW eqZ
  rw [eqZX_of h]
  simp
theorem cond_self (b : Bool) : feq .f32 (cond b 1065353216 0) (cond b 1065353216 0) = true := by cases b <;> decide +kernel
theorem cT_ok (t : (Int × (Nat → Nat)) × Nat) : allT (cT lG t) = true := by
  obtain ⟨⟨n, X0⟩, u⟩ := t
  have h : eW (lG.tS n (reP X0) u) (lG.tY n (reP X0) u) = true := eW_self fun j => by
    show feq .f32 (thrY n (reP X0) u j).1 (thrY n (reP X0) u j).1 = true ∧ feq .f32 (thrY n (reP X0) u j).2 (thrY n (reP X0) u j).2 = true
    unfold thrY
    split
    · refine ⟨feq_plus' (cond_self _), feq_plus' ?_⟩
      unfold zer
      cases thrB (reP X0) u j <;> exact feq_zz
    · exact ⟨feq_zz, feq_zz⟩
  unfold cT
  dsimp only
  rw [eqQ_self, h]
  rfl
theorem hiY_self {n t : Nat} {X : Nat → Nat} : ∀ k j, feq .f32 (hiY n t X k j).1 (hiY n t X k j).1 = true ∧ feq .f32 (hiY n t X k j).2 (hiY n t X k j).2 = true
  | 0, j => ⟨feq_zz, feq_zz⟩
  | k + 1, j => by
    simp only [hiY, htY]
    cases Nat.beq j k with
    | true => exact ⟨cond_self _, feq_zz⟩
    | false => exact hiY_self k j
theorem cI_ok (i : (Int × (Nat → Nat)) × Nat × Int) (h : (Int × (Nat → Nat)) × Nat) : allT (cI lG i h) = true := by
  obtain ⟨⟨n, X0⟩, q, m⟩ := i
  obtain ⟨⟨k, Y0⟩, u⟩ := h
  have h1 : ePic (lG.iS n (reP X0) q m) (lG.iZ n (reP X0) q m) (lG.iS n (reP X0) q m) (lG.iZ n (reP X0) q m) = true := ePic_self (cut_self fun hc => (limC_zero hc).2)
  have h2 : eW (lG.hS k (reP Y0) u) (lG.hY k (reP Y0) u) = true := eW_self fun j => by
    show feq .f32 (plusF (htW k (reP Y0) u j).1) (plusF (htW k (reP Y0) u j).1) = true ∧ feq .f32 (plusF (htW k (reP Y0) u j).2) (plusF (htW k (reP Y0) u j).2) = true
    have : feq .f32 (htW k (reP Y0) u j).1 (htW k (reP Y0) u j).1 = true ∧ feq .f32 (htW k (reP Y0) u j).2 (htW k (reP Y0) u j).2 = true := by
      unfold htW
      split
      · exact hiY_self _ _
      · exact ⟨feq_zz, feq_zz⟩
    exact ⟨feq_plus' this.1, feq_plus' this.2⟩
  unfold cI
  dsimp only
  rw [eqQ_self, h1, eqQ_self, h2]
  rfl
/-! ### Steps -/
theorem ls_len (s : (Int × (Nat → Nat)) × Nat × Int) : (lsq lG s).length = sN s := by
  show (stLs (s.1.1.toNat * s.1.1.toNat) (reP s.1.2) s.2.1 s.2.2).length = _
  simp [stLs, sN]
theorem got_N {s : (Int × (Nat → Nat)) × Nat × Int} (h : gotS lG s = true) : sN s ≤ 64 := by
  have h : eqQ false (stC (isPicB s.1.1 (reP s.1.2)) s.2.1 s.2.2) 0 = true := h
  exact (side_N (pic_side (stC_zero h).1)).2
theorem ls_range {s : (Int × (Nat → Nat)) × Nat × Int} (h : gotS lG s = true) {i : Nat} (hi : i < sN s) : 0 ≤ wlX (lsq lG s) i ∧ wlX (lsq lG s) i < s.2.2 := by
  have hN := got_N h
  have h' : eqQ false (stC (isPicB s.1.1 (reP s.1.2)) s.2.1 s.2.2) 0 = true := h
  have e : wlX (lsq lG s) i = stepV (reP s.1.2 i) s.2.1 s.2.2 := by
    unfold wlX
    show (stLs (s.1.1.toNat * s.1.1.toNat) (reP s.1.2) s.2.1 s.2.2).getD (0 + (Int.ofNat i).toNat * 1) 0 = _
    have hi' : i < s.1.1.toNat * s.1.1.toNat := hi
    have e0 : 0 + (Int.ofNat i).toNat * 1 = i := by simp
    rw [e0]
    simp [stLs, List.getD_eq_getElem?_getD, hi']
  rw [e]
  exact stepV_range (st_ok h' (by omega))
end Go.Ax

/- The law of pictures comes back with true. -/
namespace Go.Ax
open Go Go.Proofs

theorem pwAt0 : pwAt 0 = [.code pwC] := rfl
theorem law4_call {c : Cd} {t : List AV} {H' : List AB} {l : Bool} (he : Ends Tryz.prog (pwAt 0) (w0 c) [codeB c false] t H') (hr : resV Tryz.prog t H' Tryz.f4.results.toList = some ([.b l true], [])) : ∃ H', CallOK Tryz.prog 4 [.sl false 0 c.off c.len 0] [codeB c false] (.b false true) H' := by
  have hb : Tryz.f4.body = some pwC := rfl
  have k := call_of_ends (args := [.sl false 0 c.off c.len 0]) (m := []) Tryz.func4 hb he hr rfl
  exact ⟨H', k.weaken fun σ x r => by cases r; exact .b _⟩
theorem wT_low (c : Cd) : belowL 1 (wT c) = true := by kernel_rfl
theorem wkD_low (c : Cd) (N : Nat) (m : Int) : belowL 6 (wkD c N m) = true := by kernel_rfl
theorem wkE_low (m : Int) : belowL 1 (wkE m) = true := by kernel_rfl
theorem pB_low (n : Int) (X : Nat → Nat) (k : Nat) : belowB k (pB n X) = true := by
  have : ∀ l : List Nat, belowL k (l.map (fx X)) = true := fun l => by
    induction l with
    | nil => rfl
    | cons j l ih => simp [belowL, below, fx, ih]
  simp [pB, belowB, picL, belowL, below, this]
theorem cway_keep {P : Program} {T : Table} {stop : List Item → Bool} {n k : Nat} {L todo' : List Item} {p M nd : List Bool} {t0 t' : List AV} {H0 H1 : List AB} (hT : SoundT P T) (hc : allT (condsP (cupto P T stop n L t0 H0) p) = true)
    (hl : lfK k M ((cupto P T stop n L t0 H0).at p) = (true, todo', t'.map AV.bare, H1, nd)) (hn : allT nd = true) (hk : H0.length ≤ H1.length) (ht : belowL H1.length t' = true) (hB : belowH H1.length H1 = true) : Reach P L t0 H0 todo' t' H1 := by
  simp only [lfK, Prod.mk.injEq] at hl
  obtain ⟨a1, a2, a3, a4, a5⟩ := hl
  have h := cway_reach (stop := stop) (n := n) (L := L) (p := p) (M := M) (nd := nd) (t' := t') (todo' := todo') (H' := ((cupto P T stop n L t0 H0).at p).HOf) hT hc (by simp only [lfM, a1, a2, a3, a5]) hn
  rw [← List.take_append_drop k (((cupto P T stop n L t0 H0).at p).HOf), a4] at h
  exact h.keep hk ht hB
theorem allT_app {l k : List Bool} (h : allT l = true) (h' : allT k = true) : allT (l ++ k) = true := by rw [allT_append, h, h']; rfl
theorem wl_next {i : Nat} (h : i ≤ 64) : wrapQ false .i64 (Int.ofNat i + 1) = Int.ofNat (i + 1) := ofNat_next (by omega)
theorem wl_steps (B0 B1 B2 B3 B4 : AB) (xs : List Int) (m : Int) (hx : xs.length ≤ 64) (hr : ∀ i, i < xs.length → 0 ≤ wlX xs i ∧ wlX xs i < m) {L : List Item} (hL : toLp L = wlR) : ∀ i, i ≤ xs.length → ∃ L', toLp L' = wlR ∧ Reach Tryz.prog L (wlT xs m 0) (wl6 B0 B1 B2 B3 B4 xs) L' (wlT xs m i) (wl6 B0 B1 B2 B3 B4 xs)
  | 0, _ => ⟨L, hL, Reach.refl _ _ _⟩
  | i + 1, hi => by
    obtain ⟨L', h1, h2⟩ := wl_steps B0 B1 B2 B3 B4 xs m hx hr hL i (by omega)
    have hs := wlU_ok B0 B1 B2 B3 B4 xs m i
    simp only [Prod.mk.injEq] at hs
    obtain ⟨r1, r2⟩ := hr i (by omega)
    have e1 : ltQ false (Int.ofNat i) xs.length = true := by rw [ltQ_eq]; simp; omega
    have e2 : ltQ false (wlX xs i) 0 = false := by rw [ltQ_eq]; simp; omega
    have e3 : leQ false m (wlX xs i) = false := by rw [leQ_eq]; simp; omega
    have hq : allT (wlQ xs i) = true := by
      have : (Cells.ints IntKind.i64 xs).len = xs.length := rfl
      simp only [wlQ, this, allT, Bool.and_true, Bool.and_eq_true, decide_eq_true_eq]
      refine ⟨by simp; omega, by simp, ?_⟩
      simp; omega
    have hU : wlU B0 B1 B2 B3 B4 xs m i = cupto Tryz.prog tabPc atLoop 100 L' (wlT xs m i) (wl6 B0 B1 B2 B3 B4 xs) := by
      unfold wlU
      rw [← cupto_toLp Tryz.prog tabPc atLoop 100 L', h1]
    rw [hU] at hs
    have r := cway_reach (P := Tryz.prog) (T := tabPc) (stop := atLoop) (n := 100) (L := L') (p := [true, false, false]) (M := wlM) (t0 := wlT xs m i) (H0 := wl6 B0 B1 B2 B3 B4 xs) (t' := wlN xs m i) (todo' := wlR) tabPc_sound (by rw [hs.1, e1, e2, e3]; rfl) hs.2 (allT_app hq hq)
    have hN : wlN xs m i = wlT xs m (i + 1) := by unfold wlN wlT; rw [wl_next (by omega)]
    rw [hN] at r
    exact ⟨wlR, wlR_eq, h2.trans r⟩
theorem law4_ok (c : Cd) (hc : goodB c = true ∨ 4096 < c.len) : ∃ H', CallOK Tryz.prog 4 [.sl false 0 c.off c.len 0] [codeB c false] (.b false true) H' := by
  cases hb : ltQ false 4096 (c.len : Int) with
  | true =>
    have h0 := wA_big lG c
    simp only [Prod.mk.injEq] at h0
    obtain ⟨t, H', e1, e2⟩ := endV_ends (stop := atCut 34) (n := 2000) (L := pwAt 0) (p := [true]) (t0 := w0 c) (H0 := [codeB c false]) tabL4_sound (by
      show allT (condsP (wA lG c) [true]) = true
      rw [h0.1, hb]; rfl) h0.2 rfl
    exact law4_call e1 e2
  | false =>
    have hg : goodB c = true := by
      rcases hc with h | h
      · exact h
      · rw [ltQ_eq] at hb
        simp at hb; omega
    have hok : okB c c.off c.len = true := by simp [okB, hg]
    have r1 : Reach Tryz.prog (pwAt 0) (w0 c) [codeB c false] (pwAt 7) (wT c) [codeB c false] := by
      have h1 := wA_ok lG c
      simp only [Prod.mk.injEq] at h1
      exact way_keep (P := Tryz.prog) (T := tabL4 lG) (stop := atCut 34) (n := 2000) (k := 1) (L := pwAt 0) (p := [false, false]) (M := wM) (t0 := w0 c) (H0 := [codeB c false]) tabL4_sound (by
        show allT (condsP (wA lG c) [false, false]) = true
        rw [h1.1, hb, eA_no]; rfl) h1.2 (by rw [hok]; rfl) (by simp) (wT_low c) (h1_low c _)
    have r2 : Reach Tryz.prog (pwAt 0) (w0 c) [codeB c false] (pwAt 12) (wT c) [codeB c false] := by
      have h2 := wB_ok lG c
      simp only [Prod.mk.injEq] at h2
      obtain ⟨⟨a1, a2⟩, b1, b2⟩ := h2
      cases hk : eqQ false (lG.nK (dP 36 c).1 (reP (dP 36 c).2)) 0 with
      | true =>
        have ht := top_one (dP 36 c) hk
        exact r1.trans (way_keep (P := Tryz.prog) (T := tabL4 lG) (stop := atCut 29) (n := 2000) (k := 1) (L := pwAt 7) (p := [false, true, false]) (M := wM) (t0 := wT c) (H0 := [codeB c false]) tabL4_sound (by
          show allT (condsP (wB lG c) [false, true, false]) = true
          rw [a1, eB_no, hk, ht]; rfl) a2 (by rw [hok]; rfl) (by simp) (wT_low c) (h1_low c _))
      | false =>
        exact r1.trans (way_keep (P := Tryz.prog) (T := tabL4 lG) (stop := atCut 29) (n := 2000) (k := 1) (L := pwAt 7) (p := [false, false]) (M := wM) (t0 := wT c) (H0 := [codeB c false]) tabL4_sound (by
          show allT (condsP (wB lG c) [false, false]) = true
          rw [b1, eB_no, hk]; rfl) b2 (by rw [hok]; rfl) (by simp) (wT_low c) (h1_low c _))
    have r3 : Reach Tryz.prog (pwAt 0) (w0 c) [codeB c false] (pwAt 26) (wT c) [codeB c false] := by
      have h3 := wC_ok lG c
      simp only [Prod.mk.injEq] at h3
      exact r2.trans (way_keep (P := Tryz.prog) (T := tabL4 lG) (stop := atCut 15) (n := 2000) (k := 1) (L := pwAt 12) (p := [false]) (M := wM) (t0 := wT c) (H0 := [codeB c false]) tabL4_sound (by
        show allT (condsP (wC lG c) [false]) = true
        rw [h3.1, eC_no]; rfl) h3.2 (by rw [hok]; rfl) (by simp) (wT_low c) (h1_low c _))
    cases hgot : gotS lG (dPFI 54 c) with
    | false =>
      have h4 := wE_bad lG c
      simp only [Prod.mk.injEq] at h4
      have r4 := r3.trans (cway_keep (P := Tryz.prog) (T := tabL4 lG) (stop := atCut 2) (n := 2000) (k := 1) (L := pwAt 26) (p := [false, false, false, false, false, false, false, false, false]) (M := wMD) (t0 := wT c) (H0 := [codeB c false]) tabL4_sound (by
        show allT (condsP (wE lG c) [false, false, false, false, false, false, false, false, false]) = true
        rw [h4.1, hgot]
        exact allT_app (l := [!false, !false]) rfl (allT_app (allT_app (cT_ok _) (by rw [eqQ_self]; rfl)) (cI_ok _ _))) h4.2 (by rw [hok]; rfl) (by simp) (wkE_low _) (h1_low c _))
      have h5 := wlZ_ok (dPFI 54 c).2.2 [codeB c false]
      simp only [Prod.mk.injEq] at h5
      obtain ⟨t, H', e1, e2⟩ := endV_ends (stop := atCut 99) (n := 400) (L := pwAt 39) (p := []) (t0 := wkE (dPFI 54 c).2.2) (H0 := [codeB c false]) tabPc_sound (by
        show allT (condsP (wlZ (dPFI 54 c).2.2 [codeB c false]) []) = true
        rw [h5.1]; rfl) h5.2 rfl
      exact law4_call (r4.ends e1) e2
    | true =>
      have hN := got_N hgot
      have hlen := ls_len (dPFI 54 c)
      have h4 := wE_ok lG c
      simp only [Prod.mk.injEq] at h4
      have r4 := r3.trans (cway_keep (P := Tryz.prog) (T := tabL4 lG) (stop := atCut 2) (n := 2000) (k := 6) (L := pwAt 26) (p := [true, true, false, false, false, false, false, false, false]) (M := wMD) (t0 := wT c) (H0 := [codeB c false]) tabL4_sound (by
        show allT (condsP (wE lG c) [true, true, false, false, false, false, false, false, false]) = true
        rw [h4.1, hgot]
        exact allT_app (l := [true, true]) rfl (allT_app (allT_app (cT_ok _) (by simp [allT])) (cI_ok _ _))) h4.2 (by
          rw [hok]
          simp only [hlen, allT, List.cons_append, List.nil_append, List.replicate, decide_true, Bool.true_and, Bool.and_true, Bool.and_self, decide_eq_true_eq]
          omega) (by simp [wH]) (wkD_low _ _ _) (by
          unfold wH
          simp only [belowH, cB_low, pB_low, wvB_low, Bool.true_and, Bool.and_true]
          rfl))
      rw [← hlen] at r4
      have h0 := wl0_ok (lsq lG (dPFI 54 c)) (dPFI 54 c).2.2 (wH lG c (dPF 51 c) (dPFI 54 c))
      have r5 := r4.trans (cway_reach (P := Tryz.prog) (T := tabPc) (stop := atLoop) (n := 100) (L := pwAt 39) (p := []) (M := wlM) (t0 := wkD c (lsq lG (dPFI 54 c)).length (dPFI 54 c).2.2) (H0 := wH lG c (dPF 51 c) (dPFI 54 c)) (t' := wlT (lsq lG (dPFI 54 c)) (dPFI 54 c).2.2 0) (todo' := wlL) (nd := []) tabPc_sound (by
        show allT (condsP (wl0 (.sl false 5 0 (lsq lG (dPFI 54 c)).length 1) (dPFI 54 c).2.2 (wH lG c (dPF 51 c) (dPFI 54 c))) []) = true
        rw [wl0_c]; rfl) h0 rfl)
      obtain ⟨L', hL', r6⟩ := wl_steps (codeB c false) (pB (dPF 51 c).1.1 (dPF 51 c).1.2) (wvB (lG.tS (dPF 51 c).1.1 (reP (dPF 51 c).1.2) (dPF 51 c).2) (lG.tY (dPF 51 c).1.1 (reP (dPF 51 c).1.2) (dPF 51 c).2)) (wvB (lG.tS (dPF 51 c).1.1 (reP (dPF 51 c).1.2) (dPF 51 c).2) (lG.tY (dPF 51 c).1.1 (reP (dPF 51 c).1.2) (dPF 51 c).2)) (pB (dPFI 54 c).1.1 (dPFI 54 c).1.2)
        (lsq lG (dPFI 54 c)) (dPFI 54 c).2.2 (by omega) (fun i hi => ls_range hgot (by omega)) (L := wlL) rfl _ (Nat.le_refl _)
      have h7 := wlE_ok (codeB c false) (pB (dPF 51 c).1.1 (dPF 51 c).1.2) (wvB (lG.tS (dPF 51 c).1.1 (reP (dPF 51 c).1.2) (dPF 51 c).2) (lG.tY (dPF 51 c).1.1 (reP (dPF 51 c).1.2) (dPF 51 c).2)) (wvB (lG.tS (dPF 51 c).1.1 (reP (dPF 51 c).1.2) (dPF 51 c).2) (lG.tY (dPF 51 c).1.1 (reP (dPF 51 c).1.2) (dPF 51 c).2)) (pB (dPFI 54 c).1.1 (dPFI 54 c).1.2)
        (lsq lG (dPFI 54 c)) (dPFI 54 c).2.2 (lsq lG (dPFI 54 c)).length
      simp only [Prod.mk.injEq] at h7
      have e0 : ltQ false (Int.ofNat (lsq lG (dPFI 54 c)).length) (lsq lG (dPFI 54 c)).length = false := by rw [ltQ_eq]; simp
      obtain ⟨x1, x2⟩ := h7
      unfold wlE at x1 x2
      rw [jupto_eq (P := Tryz.prog) (T := tabPc) (stop := atLoop) (n := 100) (L := wlR) (R := L') (wlR_eq.trans hL'.symm)] at x1 x2
      obtain ⟨t, H', e1, e2⟩ := endV_ends (stop := atLoop) (n := 100) (L := L') (p := [false]) (t0 := wlT (lsq lG (dPFI 54 c)) (dPFI 54 c).2.2 (lsq lG (dPFI 54 c)).length) tabPc_sound (by rw [x1, e0]; rfl) x2 rfl
      exact law4_call ((r5.trans r6).ends e1) e2
end Go.Ax

/- From the calls of a law on every text of bytes to the given statement. -/
namespace Go.Proofs.YtdcjjibekhcplaaGreat
open Go.ChangeShapes Go.WideShapes Go.ChangeAt Go.RowKit Go.Ax

theorem Tryz.own : ownKnob Tryz.prog.godebug = none := by kernel_rfl
theorem Tryz.laidOut : laidOutB Tryz.prog = true := by kernel_rfl
theorem cells5 : Tryz.prog.cellsOf 5 = 1 := by kernel_rfl
/-- What is to be shown of a law: it comes back with true from every text of bytes. -/
def LawOK (f : FuncId) : Prop := ∀ c : Cd, goodB c = true ∨ 4096 < c.len → ∃ H', CallOK Tryz.prog f [.sl false 0 c.off c.len 0] [codeB c false] (.b false true) H'
theorem law_calls {f : FuncId} (h : LawOK f) (c : Cd) (hc : goodB c = true ∨ 4096 < c.len) {σ : List (Nat × Nat)} {W : World} (s : Sim σ [codeB c false] W) {v : Value} (hv : Rel σ (.sl false 0 c.off c.len 0) v) :
    Calls Tryz.prog f #[v] W fun e W' => e = .returned (.bool true) ∧ Below W.heap.size W W' := by
  obtain ⟨H', k⟩ := h c hc
  refine (k σ W #[v] s (.cons hv .nil)).mono ?_
  rintro e W' ⟨rv, rfl, σ', r1, s1, F⟩
  cases r1
  refine ⟨rfl, F.os, F.tape, F.output, F.size, fun b hb => F.old b hb fun i z hr => ?_⟩
  match i with
  | 0 => simp [getB, codeB, AB.rw] at hr
  | i + 1 => simp [getB, AB.rw] at hr
theorem sim_code {W : World} {b z : Nat} {c : Cd} {cs : Array Value} {e : TypeId} {fr : Nat × Nat} (h : W.heap[b]? = some (.cells cs e fr)) (hz : cs.size = z) (hx : ∀ (j : Nat) (x : Int), c.bytes[j]? = some x → cs[c.off + j]? = some (.int .u8 x)) : Sim [(b, z)] [codeB c false] W := by
  refine ⟨rfl, fun i b' z' hb => ?_, fun i j b' z1 z2 hi hj hr _ => ?_⟩
  · match i, hb with
    | 0, hb => cases hb; exact ⟨cs, e, fr, h, hx, hz⟩
    | i + 1, hb => simp at hb
  · match i, hi with
    | 0, _ => simp [getB, codeB, AB.rw] at hr
    | i + 1, hi => simp at hi
theorem wf_u8 {n : Int} (h : (Lit.int .u8 n).wf = true) : 0 ≤ n ∧ n < 256 := by
  simp [Lit.wf, IntKind.min, IntKind.max, IntKind.signed, IntKind.bits] at h
  omega
/-- A slice of bytes that can be read, as a text of bytes. -/
theorem law_any {H : Type} {enc : TypeId × Value → H} {f : FuncId} (h : LawOK f) {W : World} (hsh : W.ShapedOpen Tryz.prog) {v : Value} {fuel : Nat} {x : DataW H × List MemPlace}
    (hf : DataW.trod enc Tryz.prog W 0 (fun _ => true) true fuel 22 v.cells.toList = some x) (hv : ∃ a len cap, v = .slice a len cap) : Calls Tryz.prog f #[v] W fun e W' => e = .returned (.bool true) ∧ Below W.heap.size W W' := by
  have nil_like : ∀ a : Option Addr, v = .slice a 0 0 → Calls Tryz.prog f #[v] W fun e W' => e = .returned (.bool true) ∧ Below W.heap.size W W' := fun a ha => by
    obtain ⟨cs, hcs, _, _⟩ := hsh.1 0 #[.bool false] 4 (of_decide_eq_true (by kernel_rfl)) (by kernel_rfl)
    refine law_calls h ⟨[], 0, 0⟩ (.inl rfl) (σ := [(0, cs.size)]) (sim_code hcs rfl fun j x hx => by simp at hx) ?_
    rw [ha]; exact .slz
  obtain ⟨a0, len0, cap0, rfl⟩ := hv
  rcases open_ints Tryz.underlying22 Tryz.underlying5 cells5 hf with ⟨hcs, _⟩ | ⟨a, len, cap, zs, hcs, _, hl, _, hz, _, hcell, hwz⟩
  · simp [Value.cells] at hcs
    obtain ⟨rfl, rfl, rfl⟩ := hcs
    exact nil_like _ rfl
  · simp [Value.cells] at hcs
    obtain ⟨rfl, rfl, rfl⟩ := hcs
    simp only [if_true] at hz
    by_cases h0 : cap0 = 0
    · have : len0 = 0 := by omega
      subst h0; subst this
      exact nil_like _ rfl
    · obtain ⟨b, off, spot⟩ := a
      have hspot : spot = none := by simpa [Addr.add] using World.cell?_spot (hcell 0 (by omega))
      subst hspot
      have hcell' : ∀ j, j < zs.length → W.cell? ⟨b, off + j, none⟩ = some (.int .u8 (zs.getD j 0)) := fun j hj => by
        have := hcell j hj
        rwa [addr_add] at this
      have h1 := hcell' 0 (by omega)
      have hblk : ∃ cs e fr, W.heap[b]? = some (.cells cs e fr) := by
        unfold World.cell? at h1
        simp only at h1
        split at h1 <;> first | exact ⟨_, _, _, by assumption⟩ | (cases h1; done)
      obtain ⟨cs, e, fr, hcs⟩ := hblk
      have hx : ∀ (j : Nat) (x : Int), zs[j]? = some x → cs[off + j]? = some (.int .u8 x) := fun j x hj => by
        have hjl : j < zs.length := (List.getElem?_eq_some_iff.1 hj).1
        have := hcell' j hjl
        simp only [World.cell?, hcs] at this
        rw [List.getD_eq_getElem?_getD, hj] at this
        exact this
      have hoff : off < cs.size := by
        have := hx 0 (zs.getD 0 0) (by rw [List.getD_eq_getElem?_getD]; cases hz0 : zs[0]? with
          | none => rw [List.getElem?_eq_none_iff] at hz0; omega
          | some y => rfl)
        rcases Nat.lt_or_ge off cs.size with h' | h'
        · exact h'
        · rw [Nat.add_zero, Array.getElem?_eq_none h'] at this; cases this
      refine law_calls h ⟨zs, off, len0⟩ ?_ (σ := [(b, cs.size)]) (sim_code hcs rfl hx) (.sl (b := b) (c := cs.size) (by rfl) hl (show off + cap0 * 0 ≤ cs.size by omega))
      by_cases hb : 4096 < len0
      · exact .inr hb
      · refine .inl ?_
        simp only [goodB, Bool.and_eq_true, decide_eq_true_eq, List.all_eq_true]
        refine ⟨⟨by omega, by omega⟩, fun n hn => ?_⟩
        exact wf_u8 (hwz n hn)
end Go.Proofs.YtdcjjibekhcplaaGreat
