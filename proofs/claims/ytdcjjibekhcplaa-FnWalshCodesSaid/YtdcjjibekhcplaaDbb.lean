/- PictureOfSums, of both sides: contract and row. -/
import Derived.Test.YtdcjjibekhcplaaDba
namespace Go.Ax
open Go Go.Proofs

theorem pv_lowQ (n : Int) (X : Nat → Nat) : below 0 (pv n X) = true := pvT_below0 false n X
theorem call_floatsN {P : Program} {f : FuncId} {xs : List Nat} {v a : AV} {z : Nat} (h : CallOK P f [a, .sl false 0 0 xs.length z] (fb xs) v (fb xs)) (hv : below 0 v = true) (hr : below 0 a = true) {H : List AB} {id : Nat} {r l : Bool} {A : Cells} (hg : getB H id = .cells r A) (hA : f32Of A = some xs) : CallOK P f [a, .sl l id 0 xs.length z] H v H := by
  have k := h.pick (fun i => by match i with
    | 0 => rfl
    | i + 1 => rfl) (by
      rw [List.all_cons, Bool.and_eq_true]
      exact ⟨plain_low hr _, rfl⟩) [id] rfl H (fun i hi => by
      have : i = 0 := by simp [fb] at hi; exact hi
      subst this
      refine ⟨getB_lt hg, fun σ τ z o hb => ?_⟩
      have e : ([id] : List Nat).getD 0 0 = id := rfl
      rw [e, hg] at hb
      exact ro_floats hA hb)
  have e1 : (H ++ ((fb xs).drop (fb xs).length).map (mapB (pickI (fb xs).length H.length [id]))) = H := by simp [fb]
  rw [e1, mapV_low _ hv] at k
  have e2 : mapL (pickI (fb xs).length H.length [id]) [a, .sl false 0 0 xs.length z] = [a, .sl false id 0 xs.length z] := by
    simp only [mapL, mapV_low _ hr]
    rfl
  rw [e2] at k
  exact k.bare rfl
def fitB2 (n : Int) (m : Nat) : Bool := sideB n && decide ((m : Int) = n * n)
noncomputable def poOK (n : Int) (xs : List Nat) : Bool := finL xs && (fitB2 n xs.length && gSu (Nat.log2 xs.length) (at0 xs))
noncomputable def poC2 (n : Int) (xs : List Nat) : Int := cond (finL xs) (cond (fitB2 n xs.length) (cond (gSu (Nat.log2 xs.length) (at0 xs)) 0 3) 2) 1
noncomputable def poX (n : Int) (xs : List Nat) (j : Nat) : Nat := match poOK n xs && Nat.blt j (n.toNat * n.toNat) with
  | true => plusF (fmaxA .f32 (backF (Nat.log2 xs.length) (at0 xs) j) 0)
  | false => 0
noncomputable def poR (n : Int) (xs : List Nat) : AV := .tup [pv (cond (poOK n xs) n 0) (poX n xs), .i false .i64 (poC2 n xs)]
theorem pcO_eq {r : Res} {l : List AV} {c : Int} (h : pcO r = some (l, .i false .i64 c, true)) : ∃ l' c' H nd, r = .ret (.tup [.agg l', c']) H nd ∧ l'.map AV.bare = l ∧ c'.bare = .i false .i64 c ∧ allT nd = true := by
  unfold pcO at h
  split at h <;> (try (cases h; done))
  split at h <;> (try (cases h; done))
  simp only [Option.some.injEq, Prod.mk.injEq] at h
  exact ⟨_, _, _, _, rfl, h.1, h.2.1, h.2.2⟩
theorem po_call {f : FuncId} {n : Int} {N : Nat} {x : Nat → Nat} {r : Res} {l : List AV} {c : Int} (hs : (rPo f n N x).sel = r.sel) (h : pcO r = some (l, .i false .i64 c, true)) (hl : below 0 (.agg l) = true) : CallOK Try.prog f [.i true .i64 n, .sl true 0 0 N 1] (cellsL N x) (.tup [.agg l, .i false .i64 c]) (cellsL N x) := by
  obtain ⟨l', c', H, nd, rfl, h1, h2, hn⟩ := pcO_eq h
  have k := call_of_sel (f := f) (args := [.i true .i64 n, .sl true 0 0 N 1]) (H := cellsL N x) tabPo_sound hs hn
  have k1 := k.weaken (v' := .tup [.agg l, .i false .i64 c]) fun σ v r => by
    refine tup2_weak (l := l') (c := c') ?_ h2 r
    rw [h1, ← h1, List.map_map]
    apply List.map_congr_left
    intro a _
    cases a <;> rfl
  exact k1.same (cellsL_ro N x) (by
    show belowL 0 [AV.agg l, .i false .i64 c] = true
    simp only [belowL, hl]
    rfl)
theorem agg_pic {n : Int} {l : List AV} {X : Nat → Nat} (h : l = .i false .i64 n :: (List.range 64).map (fx X)) : (AV.agg l) = pv n X := by rw [h]; rfl
theorem poZ_pv : AV.agg poZ = pv 0 (fun _ => 0) := rfl
theorem pv_congr {n m : Int} {X Y : Nat → Nat} (hn : n = m) (h : ∀ j, j < 64 → X j = Y j) : pv n X = pv m Y := by
  subst hn
  unfold pv picL
  congr 2
  apply List.map_congr_left
  intro j hj
  simp only [fx, h j (List.mem_range.1 hj)]
theorem po_one {f : FuncId} {N k : Nat} {n : Int} {g : (Nat → Nat) → List Nat} (h : PoRun f N n k g) (hg : ∀ x, finL (g x) = gSu k x) (hs : sideB n = true) (hN : N = n.toNat * n.toNat) (h2 : (N : Int) = n * n) (hk : Nat.log2 N = k) (xs : List Nat) (hx : xs.length = N) :
    CallOK Try.prog f [.i true .i64 n, .sl true 0 0 N 1] (cellsL N (at0 xs)) (poR n xs) (cellsL N (at0 xs)) := by
  have h0 := h (at0 xs)
  simp only [Prod.mk.injEq] at h0
  obtain ⟨⟨c1, o1⟩, o2, o3⟩ := h0
  have hxl : xL N (at0 xs) = xs := by rw [← hx]; exact xL_eq xs
  rw [hxl, hg] at c1
  have hfit : fitB2 n xs.length = true := by
    unfold fitB2
    rw [hs, hx, decide_eq_true h2]; rfl
  have hshape : ∃ b y b' y' z', rPo f n N (at0 xs) = .ite b y (.ite b' y' z') := by
    cases hr : rPo f n N (at0 xs) with
    | ite b y z =>
      rw [hr] at c1
      cases z with
      | ite b' y' z' => exact ⟨b, y, b', y', z', rfl⟩
      | _ => simp [condsP] at c1
    | _ => rw [hr] at c1; cases c1
  obtain ⟨b, y, b', y', z', hr⟩ := hshape
  have hc := c1
  rw [hr] at hc
  simp only [condsP, List.cons.injEq, and_true] at hc
  obtain ⟨hb, hb'⟩ := hc
  have hb : b = !finL xs := by simpa using hb
  have hb' : b' = !gSu k (at0 xs) := by simpa using hb'
  cases hfin : finL xs with
  | false =>
    have e1 : poOK n xs = false := by unfold poOK; rw [hfin]; rfl
    have e2 : poC2 n xs = 1 := by unfold poC2; rw [hfin]; rfl
    have k1 := po_call (f := f) (n := n) (N := N) (x := at0 xs) (sel_of_conds _ [true] (by rw [hr, hb, hfin]; cases y <;> rfl)) o3 rfl
    rw [poZ_pv, pv_congr (m := cond (poOK n xs) n 0) (Y := poX n xs) (by rw [e1]; rfl) (fun j _ => by unfold poX; rw [e1]; rfl)] at k1
    unfold poR
    rw [e2]; exact k1
  | true =>
    cases hgs : gSu k (at0 xs) with
    | false =>
      have e1 : poOK n xs = false := by unfold poOK; rw [hfin, hfit, hx, hk, hgs]; rfl
      have e2 : poC2 n xs = 3 := by unfold poC2; rw [hfin, hfit, hx, hk, hgs]; rfl
      have k1 := po_call (f := f) (n := n) (N := N) (x := at0 xs) (sel_of_conds _ [false, true] (by rw [hr, hb, hb', hfin, hgs]; cases y' <;> rfl)) o2 rfl
      rw [poZ_pv, pv_congr (m := cond (poOK n xs) n 0) (Y := poX n xs) (by rw [e1]; rfl) (fun j _ => by unfold poX; rw [e1]; rfl)] at k1
      unfold poR
      rw [e2]; exact k1
    | true =>
      have e1 : poOK n xs = true := by unfold poOK; rw [hfin, hfit, hx, hk, hgs]; rfl
      have e2 : poC2 n xs = 0 := by unfold poC2; rw [hfin, hfit, hx, hk, hgs]; rfl
      have hlow : ∀ m : Nat → Nat, below 0 (.agg (.i false .i64 n :: (List.range 64).map fun j => AV.f false .f32 (m j))) = true := fun m => pv_lowQ n m
      have k1 := po_call (f := f) (n := n) (N := N) (x := at0 xs) (sel_of_conds _ [false, false] (by rw [hr, hb, hb', hfin, hgs]; cases z' <;> rfl)) o1 (hlow _)
      have e3 : AV.agg (poC N n k (at0 xs)) = pv (cond (poOK n xs) n 0) (poX n xs) := by
        rw [e1]
        show pv n (fun j => match Nat.ble N j with
          | true => 0
          | false => plusF (fmaxA .f32 (backF k (at0 xs) j) 0)) = pv n (poX n xs)
        refine pv_congr rfl fun j _ => ?_
        unfold poX
        rw [e1, ← hN, ble_blt, hx, hk]
        cases Nat.blt j N <;> rfl
      rw [e3] at k1
      unfold poR
      rw [e2]; exact k1
theorem po_off {f : FuncId} {N : Nat} {n : Int} (h : PoOff f N n) (hfit : fitB2 n N = false) (xs : List Nat) (hx : xs.length = N) :
    CallOK Try.prog f [.i true .i64 n, .sl true 0 0 N 1] (cellsL N (at0 xs)) (poR n xs) (cellsL N (at0 xs)) := by
  have h0 := h (at0 xs)
  simp only [Prod.mk.injEq] at h0
  obtain ⟨c1, o1, o2⟩ := h0
  have hxl : xL N (at0 xs) = xs := by rw [← hx]; exact xL_eq xs
  rw [hxl] at c1
  have hfit' : fitB2 n xs.length = false := by rw [hx]; exact hfit
  have hshape : ∃ b y z, rPo f n N (at0 xs) = .ite b y z := by
    cases hr : rPo f n N (at0 xs) with
    | ite b y z => exact ⟨b, y, z, rfl⟩
    | _ => rw [hr] at c1; cases c1
  obtain ⟨b, y, z, hr⟩ := hshape
  have hc := c1
  rw [hr] at hc
  have hb : b = !finL xs := by
    have := hc
    simp only [condsP] at this
    injection this with h1 _
    simpa using h1
  have e1 : poOK n xs = false := by unfold poOK; rw [hfit']; cases finL xs <;> rfl
  cases hfin : finL xs with
  | false =>
    have e2 : poC2 n xs = 1 := by unfold poC2; rw [hfin]; rfl
    have k1 := po_call (f := f) (n := n) (N := N) (x := at0 xs) (sel_of_conds _ [true] (by rw [hr, hb, hfin]; cases y <;> rfl)) o2 rfl
    rw [poZ_pv, pv_congr (m := cond (poOK n xs) n 0) (Y := poX n xs) (by rw [e1]; rfl) (fun j _ => by unfold poX; rw [e1]; rfl)] at k1
    unfold poR
    rw [e2]; exact k1
  | true =>
    have e2 : poC2 n xs = 2 := by unfold poC2; rw [hfin, hfit']; rfl
    have k1 := po_call (f := f) (n := n) (N := N) (x := at0 xs) (sel_of_conds _ [false] (by rw [hr, hb, hfin]; cases z <;> rfl)) o1 rfl
    rw [poZ_pv, pv_congr (m := cond (poOK n xs) n 0) (Y := poX n xs) (by rw [e1]; rfl) (fun j _ => by unfold poX; rw [e1]; rfl)] at k1
    unfold poR
    rw [e2]; exact k1
def in75' (n : Int) (m : Nat) : Bool := decide ((n, m) ∈ ([(8, 64), (9, 64), (4, 16), (5, 16), (2, 4), (3, 4), (1, 1), (2, 1)] : List (Int × Nat)))
theorem po_lit0 (f : FuncId) (hf : f = 76 ∨ f = 77) (n : Int) (xs : List Nat) (h : in75' n xs.length = true) (N : Nat) (hl : xs.length = N) : CallOK Try.prog f [.i true .i64 n, .sl true 0 0 N 1] (cellsL N (at0 xs)) (poR n xs) (cellsL N (at0 xs)) := by
  simp only [in75', List.mem_cons, Prod.mk.injEq, List.not_mem_nil, or_false, decide_eq_true_eq] at h
  rcases hf with rfl | rfl
  · rcases h with ⟨rfl, e⟩ | ⟨rfl, e⟩ | ⟨rfl, e⟩ | ⟨rfl, e⟩ | ⟨rfl, e⟩ | ⟨rfl, e⟩ | ⟨rfl, e⟩ | ⟨rfl, e⟩
    · have hN : N = 64 := by omega
      subst hN
      exact po_one po8 (fun x => back_fin (by omega) x) rfl rfl rfl (by decide) xs e
    · have hN : N = 64 := by omega
      subst hN
      exact po_off poff8 rfl xs e
    · have hN : N = 16 := by omega
      subst hN
      exact po_one po4 (fun x => back_fin (by omega) x) rfl rfl rfl (by decide) xs e
    · have hN : N = 16 := by omega
      subst hN
      exact po_off poff4 rfl xs e
    · have hN : N = 4 := by omega
      subst hN
      exact po_one po2 (fun x => back_fin (by omega) x) rfl rfl rfl (by decide) xs e
    · have hN : N = 4 := by omega
      subst hN
      exact po_off poff2 rfl xs e
    · have hN : N = 1 := by omega
      subst hN
      exact po_one po1 (fun x => back_fin (by omega) x) rfl rfl rfl (by decide) xs e
    · have hN : N = 1 := by omega
      subst hN
      exact po_off poff1 rfl xs e
  · rcases h with ⟨rfl, e⟩ | ⟨rfl, e⟩ | ⟨rfl, e⟩ | ⟨rfl, e⟩ | ⟨rfl, e⟩ | ⟨rfl, e⟩ | ⟨rfl, e⟩ | ⟨rfl, e⟩
    · have hN : N = 64 := by omega
      subst hN
      exact po_one spo8 (fun x => rfl) rfl rfl rfl (by decide) xs e
    · have hN : N = 64 := by omega
      subst hN
      exact po_off spoff8 rfl xs e
    · have hN : N = 16 := by omega
      subst hN
      exact po_one spo4 (fun x => rfl) rfl rfl rfl (by decide) xs e
    · have hN : N = 16 := by omega
      subst hN
      exact po_off spoff4 rfl xs e
    · have hN : N = 4 := by omega
      subst hN
      exact po_one spo2 (fun x => rfl) rfl rfl rfl (by decide) xs e
    · have hN : N = 4 := by omega
      subst hN
      exact po_off spoff2 rfl xs e
    · have hN : N = 1 := by omega
      subst hN
      exact po_one spo1 (fun x => rfl) rfl rfl rfl (by decide) xs e
    · have hN : N = 1 := by omega
      subst hN
      exact po_off spoff1 rfl xs e
theorem po_lit (f : FuncId) (hf : f = 76 ∨ f = 77) (n : Int) (xs : List Nat) (h : in75' n xs.length = true) : CallOK Try.prog f [.i true .i64 n, .sl true 0 0 xs.length 1] (cellsL xs.length (at0 xs)) (poR n xs) (cellsL xs.length (at0 xs)) := po_lit0 f hf n xs h _ rfl
theorem poR_low (n : Int) (xs : List Nat) : below 0 (poR n xs) = true := by
  show belowL 0 [pv _ _, .i false .i64 _] = true
  simp only [belowL, pv_lowQ]
  rfl
theorem po_ok (f : FuncId) (hf : f = 76 ∨ f = 77) (n : Int) (xs : List Nat) (z : Nat) (h : in75' n xs.length = true) (hz : 0 < z) : CallOK Try.prog f [.i false .i64 n, .sl false 0 0 xs.length z] (fb xs) (poR n xs) (fb xs) := by
  have k1 := ((po_lit f hf n xs h).pre (heq_cells xs [])).post (heq_cells' xs [])
  refine k1.args fun σ l r => ?_
  cases r with | cons r0 r => cases r with | cons r hs =>
  refine .cons (by cases r0; exact .i _ _) (.cons ?_ hs)
  have := sl_z1 r hz
  exact Rel.unbare (a := .sl true 0 0 xs.length 1) this.bare
def zPo : AV → Bool
  | .sl _ _ _ _ z => decide (0 < z)
  | _ => false
noncomputable def poT : Table := fun _ args H nd K =>
  match args with
  | [.i _ .i64 n, a] => match floatsAt H a with
    | some (xs, q) => K (poR n xs) H (in75' n xs.length :: zPo a :: (q ++ nd))
    | none => .fail
  | _ => .fail
theorem po_at (f : FuncId) (hf : f = 76 ∨ f = 77) : SoundAt Try.prog f poT := fun args H nd K => by
  unfold poT
  split
  case h_2 => exact .inl rfl
  split
  case h_2 => exact .inl rfl
  rename_i l n a _ xs q hi
  refine .inr ⟨_, _, _, rfl, fun hn => ?_⟩
  simp only [allT, Bool.and_eq_true, allT_append] at hn
  obtain ⟨h1, hz, hq, hnd⟩ := hn
  obtain ⟨l', id, r, A, z, rfl, hg, hA, _⟩ := floatsAt_spec hi hq
  exact ⟨hnd, (call_floatsN (po_ok f hf n xs z h1 (of_decide_eq_true hz)) (poR_low n xs) rfl hg hA).bare rfl⟩
end Go.Ax
