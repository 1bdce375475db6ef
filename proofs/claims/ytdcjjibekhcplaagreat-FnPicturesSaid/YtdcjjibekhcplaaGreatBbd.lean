/- impl's halftone: the loop. -/
import Derived.Test.YtdcjjibekhcplaaGreatBbc
namespace Go.Ax
open Go Go.Proofs

theorem writer_way {P : Program} {T : Table} {ops : Array Oper} (hT : SoundT P T) (hf : P.follows .mixedOrders = true) (m e : Nat) (hm : m ≤ ops.size) (hem : e < m) (hok : drawOK ops m = true) {id : Nat} {k : List Item} {t t' : List AV} {H H' : List AB} {M nd p : List Bool} {R : Res}
    (hR : R = runW P T e 0 (ops.toList.take m) t H [] fun t H nd => runOps P T ops (ops.toList.drop m) t H nd fun t H nd => .stop [] t H nd) (hc : allT (condsP R p) = true)
    (h : lfM M (R.at p) = (true, [], t'.map AV.bare, H', nd)) (hn : allT nd = true) : Reach P (.code (.region id ops true) :: k) t H k t' H' := by
  simp only [lfM, Prod.mk.injEq] at h
  obtain ⟨a1, a2, a3, a4, a5⟩ := h
  have hs := isStop_at a1 hc
  subst hR
  have hr := writer_reach (k := k) (id := id) hT hf m e hm hem hok (t := t) (H := H) (t' := _) (H' := _) (nd := _) (by rw [hs, a2]) (by rw [a5]; exact hn)
  rw [a4] at hr
  exact (hr.weak (blur_eqv M _)).weak (eqv_of_bare a3)
theorem list_map_eq {α β : Type} {f g : α → β} {l : List α} (h : l.map f = l.map g) {a : α} (ha : a ∈ l) : f a = g a := by
  induction l with
  | nil => cases ha
  | cons b l ih =>
    simp only [List.map_cons, List.cons.injEq] at h
    rcases List.mem_cons.1 ha with rfl | ha
    · exact h.1
    · exact ih h.2 ha
section
variable (B0 B2 B7 B8 : AB) (t : Nat) (S : Nat → Nat) (c : Int) (Y : Nat → Nat × Nat)
theorem st_all {n : Int} (hn : n ∈ ([1, 2, 4, 8] : List Int)) {k : Nat} (hk : k < n.toNat * n.toNat) (H : List AB) : stL B0 B2 B7 B8 t S c Y H n k = stQ B0 B2 B7 B8 t S c Y H n k := by
  simp only [List.mem_cons, List.not_mem_nil, or_false] at hn
  rcases hn with rfl | rfl | rfl | rfl
  · exact list_map_eq (st_1 B0 B2 B7 B8 t S c Y H) (List.mem_range.2 hk)
  · exact list_map_eq (st_2 B0 B2 B7 B8 t S c Y H) (List.mem_range.2 hk)
  · exact list_map_eq (st_4 B0 B2 B7 B8 t S c Y H) (List.mem_range.2 hk)
  · exact list_map_eq (st_8 B0 B2 B7 B8 t S c Y H) (List.mem_range.2 hk)
def htY (o : Bool) (k : Nat) (Y : Nat → Nat × Nat) (j : Nat) : Nat × Nat := match Nat.beq j k with
  | true => (cond o 1065353216 0, 0)
  | false => Y j
theorem hK1_post {n : Int} {k : Nat} {o : Bool} {v : AV} (hv : v = .c true .f32 (cond o 1065353216 0) 0) : HEq (hK1 B0 B2 B7 B8 t S c Y n k v) (hK B0 B2 B7 B8 t (htS n.toNat t k S) (htC t (S k) c) (htY o k Y) n) := by
  subst hv
  unfold hK1 hK hH
  iterate 9 refine HEq.cons ⟨rfl, rfl, fun _ _ _ h => h⟩ ?_
  refine HEq.cons (blk_bare ?_) (HEq.refl _)
  simp only [waveL, List.map_cons, List.map_map]
  congr 1
  apply List.map_congr_left
  intro j _
  simp only [Function.comp, cx, htY]
  cases Nat.beq j k <;> rfl
theorem wb_ops : Nat.ble 12 wbOps.size = true ∧ drawOK wbOps 12 = true ∧ Tryz.prog.follows .mixedOrders = true := by
  refine ⟨?_, ?_, ?_⟩ <;> kernel_rfl
theorem ht_cell {n : Int} (hn : n ∈ ([1, 2, 4, 8] : List Int)) {k : Nat} (hk : k < n.toNat * n.toNat) {L : List Item} (hL : toLp L = wbR) :
    Reach Tryz.prog L (wbT n k) (hK B0 B2 B7 B8 t S c Y n) wbR (wbT n (k + 1)) (hK B0 B2 B7 B8 t (htS n.toNat t k S) (htC t (S k) c) (htY (fge .f32 (S k) t) k Y) n) := by
  have h := st_all B0 B2 B7 B8 t S c Y hn hk (hK B0 B2 B7 B8 t S c Y n)
  have hd := st_all B0 B2 B7 B8 t S c Y hn hk (hK B0 B2 B7 B8 t (htS n.toNat t k S) (htC t (S k) c) (htY (fge .f32 (S k) t) k Y) n)
  simp only [stL, stQ, Prod.mk.injEq] at h hd
  obtain ⟨⟨a1, a2⟩, ⟨b1, b2⟩, ⟨c1, c2⟩, _⟩ := h
  obtain ⟨_, _, _, ⟨d1, d2⟩⟩ := hd
  have r1 := way_reach (P := Tryz.prog) (T := tabHt) (stop := atReg 5) (n := 100) (L := L) (R := wbR) (p := []) (t0 := wbT n k) (H0 := hK B0 B2 B7 B8 t S c Y n) tabHt_sound (hL.trans wbR_eq.symm) (by
    show allT (condsP (wbA n k _) []) = true
    rw [a1]; rfl) (M := wbM5) (t' := wbT5 n k) (by
    show lfM wbM5 ((wbA n k (hK B0 B2 B7 B8 t S c Y n)).at []) = _
    exact a2) rfl
  rw [wbL5_eq] at r1
  obtain ⟨o1, o2, o3⟩ := wb_ops
  have r2 : Reach Tryz.prog (.code (.region 5 wbOps true) :: wbK) (wbT5 n k) (hK B0 B2 B7 B8 t S c Y n) wbK (wbT n k) (hK B0 B2 B7 B8 t (htS n.toNat t k S) (htC t (S k) c) (htY (fge .f32 (S k) t) k Y) n) := by
    cases ho : fge .f32 (S k) t with
    | true =>
      exact (writer_way (P := Tryz.prog) (T := tabHt) (ops := wbOps) tabHt_sound o3 12 9 (Nat.le_of_ble_eq_true o1) (by decide) o2 (id := 5) (k := wbK) (t := wbT5 n k) (H := hK B0 B2 B7 B8 t S c Y n) (M := wbM) (p := [true]) (R := wbB n k (hK B0 B2 B7 B8 t S c Y n)) rfl (by rw [b1, ho]; rfl) (by exact b2) rfl).post (hK1_post (o := true) B0 B2 B7 B8 t S c Y rfl)
    | false =>
      exact (writer_way (P := Tryz.prog) (T := tabHt) (ops := wbOps) tabHt_sound o3 12 9 (Nat.le_of_ble_eq_true o1) (by decide) o2 (id := 5) (k := wbK) (t := wbT5 n k) (H := hK B0 B2 B7 B8 t S c Y n) (M := wbM) (p := [false]) (R := wbB n k (hK B0 B2 B7 B8 t S c Y n)) rfl (by rw [c1, ho]; rfl) (by exact c2) rfl).post (hK1_post (o := false) B0 B2 B7 B8 t S c Y rfl)
  have r3 := way_reach (P := Tryz.prog) (T := tabHt) (stop := atLoop) (n := 100) (L := wbK) (R := wbK) (p := []) (t0 := wbT n k) (H0 := hK B0 B2 B7 B8 t (htS n.toNat t k S) (htC t (S k) c) (htY (fge .f32 (S k) t) k Y) n) tabHt_sound rfl (by
    show allT (condsP (wbD n k _) []) = true
    rw [d1]; rfl) (M := wbM) (t' := wbT n (k + 1)) (by
    show lfM wbM ((wbD n k (hK B0 B2 B7 B8 t (htS n.toNat t k S) (htC t (S k) c) (htY (fge .f32 (S k) t) k Y) n)).at []) = _
    exact d2) rfl
  exact (r1.trans r2).trans r3
end
/-! ### All cells -/
def hiS (n t : Nat) (X : Nat → Nat) : Nat → Nat → Nat
  | 0 => X
  | k + 1 => htS n t k (hiS n t X k)
noncomputable def hiC (n t : Nat) (X : Nat → Nat) (c : Int) : Nat → Int
  | 0 => c
  | k + 1 => htC t (hiS n t X k k) (hiC n t X c k)
def hiY (n t : Nat) (X : Nat → Nat) : Nat → Nat → Nat × Nat
  | 0 => fun _ => (0, 0)
  | k + 1 => htY (fge .f32 (hiS n t X k k) t) k (hiY n t X k)
section
variable (B0 B2 B7 B8 : AB) (t : Nat) (S : Nat → Nat) (c : Int)
theorem ht_cells {n : Int} (hn : n ∈ ([1, 2, 4, 8] : List Int)) {L : List Item} (hL : toLp L = wbR) : ∀ k, k ≤ n.toNat * n.toNat → ∃ L', toLp L' = wbR ∧
    Reach Tryz.prog L (wbT n 0) (hK B0 B2 B7 B8 t S c (fun _ => (0, 0)) n) L' (wbT n k) (hK B0 B2 B7 B8 t (hiS n.toNat t S k) (hiC n.toNat t S c k) (hiY n.toNat t S k) n)
  | 0, _ => ⟨L, hL, Reach.refl _ _ _⟩
  | k + 1, hk => by
    obtain ⟨L', h1, h2⟩ := ht_cells hn hL k (by omega)
    exact ⟨wbR, wbR_eq, h2.trans (ht_cell B0 B2 B7 B8 t _ _ _ hn (by omega) h1)⟩
end
end Go.Ax

/- impl's halftone: the mask's function. -/
namespace Go.Ax
open Go Go.Proofs

section
variable (B0 B2 B7 : AB) (t : Nat) (S : Nat → Nat) (c : Int) (Y : Nat → Nat × Nat)
noncomputable def wbE (n : Int) (N : Nat) (H : List AB) : Res := jupto Tryz.prog tabHt atLoop 100 wbR (wbT n N) H
theorem wbE_ok (N : Nat) (n : Int) (hn : (N, n) ∈ doNs) : (condsP (wbE n N (hK B0 B2 B7 (wzero 0) t S c Y n)) [], endOf Tryz.prog Tryz.f151.results.toList ((wbE n N (hK B0 B2 B7 (wzero 0) t S c Y n)).at [])) =
    ([], some (some ([.agg (waveL n Y)], []), hK B0 B2 B7 (wcells n Y) t S c Y n, [])) := by
  simp only [doNs, List.mem_cons, Prod.mk.injEq, List.not_mem_nil, or_false] at hn
  rcases hn with ⟨rfl, rfl⟩ | ⟨rfl, rfl⟩ | ⟨rfl, rfl⟩ | ⟨rfl, rfl⟩ <;> kernel_rfl
end
def hH8' (B0 B2 B7 : AB) (n : Int) (t : Nat) (S : Nat → Nat) (c : AV) (l1 l2 : Bool) : List AB :=
  [B0, .cells true (.lit [.f l1 .f32 t]), B2, .cells true (.lit [.i l2 .i64 n]), fcells S, .cells true (.lit [c]), .cells true (.lit [clF]), B7]
theorem side_mem {n : Int} (hs : sideB n = true) : n ∈ ([1, 2, 4, 8] : List Int) ∧ (n.toNat * n.toNat, n) ∈ doNs := by
  rcases sideB_iff.1 hs with rfl | rfl | rfl | rfl <;> simp [doNs]
theorem f151_ok (B0 B2 B7 : AB) (t : Nat) (S : Nat → Nat) (c : Int) {n : Int} (hs : sideB n = true) :
    CallOK Tryz.prog 151 [.i true .i64 n, .fn 192 [] [.p true 6 0]] (hH8 B0 B2 B7 n t S (.i false .i64 c)) (.agg (waveL n (hiY n.toNat t S (n.toNat * n.toNat))))
      (hK B0 B2 B7 (wcells n (hiY n.toNat t S (n.toNat * n.toNat))) t (hiS n.toNat t S (n.toNat * n.toNat)) (hiC n.toNat t S c (n.toNat * n.toNat)) (hiY n.toNat t S (n.toNat * n.toNat)) n) := by
  obtain ⟨hm, hd⟩ := side_mem hs
  have h0 := wb0_ok n hm B0 B2 B7 t S (.i false .i64 c)
  simp only [Prod.mk.injEq] at h0
  have r0 := way_reach (P := Tryz.prog) (T := tabHt) (stop := atLoop) (n := 100) (L := [.code wbC]) (R := [.code wbC]) (p := []) (t0 := [.i true .i64 n, .fn 192 [] [.p true 6 0]] ++ undefs 27) (H0 := hH8 B0 B2 B7 n t S (.i false .i64 c)) tabHt_sound rfl (by
    show allT (condsP (wb0 n _) []) = true
    rw [h0.1]; rfl) (M := wbM) (t' := wbT n 0) (todo' := wbL) (H' := hH B0 B2 B7 (wzero 0) n t S (.i false .i64 c) (wzero n)) (nd := []) (by
    show lfM wbM ((wb0 n (hH8 B0 B2 B7 n t S (.i false .i64 c))).at []) = _
    exact h0.2) rfl
  have r0 := r0.post (H' := hK B0 B2 B7 (wzero 0) t S c (fun _ => (0, 0)) n) (by
    unfold hK hH
    iterate 9 refine HEq.cons ⟨rfl, rfl, fun _ _ _ h => h⟩ ?_
    exact HEq.cons (blk_bare (by rfl)) (HEq.refl _))
  obtain ⟨L', hL', r1⟩ := ht_cells B0 B2 B7 (wzero 0) t S c hm (L := wbL) rfl (n.toNat * n.toNat) (Nat.le_refl _)
  have he := wbE_ok B0 B2 B7 t (hiS n.toNat t S (n.toNat * n.toNat)) (hiC n.toNat t S c (n.toNat * n.toNat)) (hiY n.toNat t S (n.toNat * n.toNat)) _ n hd
  simp only [Prod.mk.injEq] at he
  obtain ⟨u, e1, e2⟩ := way_ends (P := Tryz.prog) (T := tabHt) (stop := atLoop) (n := 100) (L := L') (R := wbR) (p := []) (t0 := wbT n (n.toNat * n.toNat)) (H0 := hK B0 B2 B7 (wzero 0) t (hiS n.toNat t S (n.toNat * n.toNat)) (hiC n.toNat t S c (n.toNat * n.toNat)) (hiY n.toNat t S (n.toNat * n.toNat)) n) tabHt_sound (hL'.trans wbR_eq.symm) (by
    show allT (condsP (wbE n _ _) []) = true
    rw [he.1]; rfl) he.2 rfl
  exact call_of_ends (args := [.i true .i64 n, .fn 192 [] [.p true 6 0]]) (m := []) Tryz.func151 (rfl : Tryz.f151.body = some wbC) ((r0.trans r1).ends e1) e2 rfl
/-! ### The row -/
structure HG where
  c : Int → Nat → (Nat → Nat) → Int → Int
  y : Int → Nat → (Nat → Nat) → Nat → Nat × Nat
  s : Int → Nat → (Nat → Nat) → Nat → Nat
noncomputable def hiG : HG := ⟨fun n t S c => hiC n.toNat t S c (n.toNat * n.toNat), fun n t S => hiY n.toNat t S (n.toNat * n.toNat), fun n t S => hiS n.toNat t S (n.toNat * n.toNat)⟩
noncomputable def row151 (G : HG) : Table := fun _ args H nd K =>
  match args, H with
  | [.i _ .i64 n, .fn 192 [] [.p true 6 0]], [B0, .cells true (.lit [.f _ .f32 t]), B2, .cells true (.lit [.i _ .i64 m]), .cells true (.lit Ls), .cells true (.lit [.i _ .i64 c]), .cells true (.lit [.fn 191 [] [.p true 4 0, .p true 3 0, .p true 1 0, .p true 5 0]]), B7] =>
    match ofP (.i true .i64 0 :: Ls), sideB n && eqQ true m n with
    | some (_, S), true => K (.agg (waveL n (G.y n t S))) (hK B0 B2 B7 (wcells n (G.y n t S)) t (G.s n t S) (G.c n t S c) (G.y n t S) n) nd
    | _, _ => .fail
  | _, _ => .fail
theorem row151_at : SoundAt Tryz.prog 151 (row151 hiG) := fun args H nd K => by
  unfold row151
  split
  case h_2 => exact .inl rfl
  rename_i l1 n B0 l3 t B2 l4 m Ls l5 c B7
  split
  case h_2 => exact .inl rfl
  rename_i q S hq hb
  rw [Bool.and_eq_true, eqQ_eq, beq_iff_eq] at hb
  obtain ⟨hs, rfl⟩ := hb
  refine .inr ⟨_, _, _, rfl, fun hn => ⟨hn, ?_⟩⟩
  have k := f151_ok B0 B2 B7 t S c hs
  refine (k.deep (args' := [.i l1 .i64 m, .fn 192 [] [.p true 6 0]]) (by rfl)).pre ?_
  have hLs := ofP_spec hq
  have hb : Ls.map AV.bare = ((List.range 64).map (fx S)).map AV.bare := by
    simp only [AV.deep, pv, picL, List.map_cons, AV.agg.injEq, List.cons.injEq] at hLs
    exact hLs.2
  unfold hH8
  exact HEq.cons ⟨rfl, rfl, fun _ _ _ h => h⟩ (HEq.cons (blk_bare (by rfl)) (HEq.cons ⟨rfl, rfl, fun _ _ _ h => h⟩ (HEq.cons (blk_bare (by rfl)) (HEq.cons (blk_bare hb) (HEq.cons (blk_bare (by rfl)) (HEq.cons ⟨rfl, rfl, fun _ _ _ h => h⟩ (HEq.cons ⟨rfl, rfl, fun _ _ _ h => h⟩ (HEq.refl _))))))))
end Go.Ax

/- Rounding keeps below what the format has. -/
namespace Go.Ax
open Go Ieee

theorem cutR_eq (g : Bool) (n s : Nat) : Toward.even.cut g n s = n / 2 ^ min s (n.log2 + 2) + (decide (2 ^ min s (n.log2 + 2) < 2 * (n % 2 ^ min s (n.log2 + 2))) || (2 ^ min s (n.log2 + 2) == 2 * (n % 2 ^ min s (n.log2 + 2)) && n / 2 ^ min s (n.log2 + 2) % 2 == 1)).toNat := by
  unfold Toward.cut
  rw [Nat.shiftLeft_eq, Nat.one_mul]
theorem cutR_le {g : Bool} {n s M : Nat} (h : n ≤ M * 2 ^ s) : Toward.even.cut g n s ≤ M := by
  rw [cutR_eq]
  rcases Nat.le_total s (n.log2 + 2) with hs | hs
  · rw [Nat.min_eq_left hs]
    have hp := Nat.two_pow_pos s
    have hlow : n / 2 ^ s ≤ M := Nat.div_le_of_le_mul (by rw [Nat.mul_comm]; exact h)
    have hdm := Nat.div_add_mod n (2 ^ s)
    rcases Nat.lt_or_ge (n / 2 ^ s) M with h1 | h1
    · have : ∀ b : Bool, b.toNat ≤ 1 := fun b => by cases b <;> decide
      have := this (decide (2 ^ s < 2 * (n % 2 ^ s)) || (2 ^ s == 2 * (n % 2 ^ s) && n / 2 ^ s % 2 == 1))
      omega
    · have e : n / 2 ^ s = M := by omega
      have hr : n % 2 ^ s = 0 := by
        rw [e] at hdm
        have : 2 ^ s * M = M * 2 ^ s := Nat.mul_comm _ _
        omega
      rw [hr, e]
      have h3 : ((2 ^ s : Nat) == 2 * 0) = false := by
        rw [beq_eq_false_iff_ne]; omega
      rw [h3]
      simp
  · rw [Nat.min_eq_right hs]
    have h1 : n < 2 ^ (n.log2 + 1) := Nat.lt_log2_self
    have h2 : 2 ^ (n.log2 + 2) = 2 ^ (n.log2 + 1) * 2 := by rw [show n.log2 + 2 = (n.log2 + 1) + 1 by omega, Nat.pow_succ]
    generalize 2 ^ (n.log2 + 2) = G at h2 ⊢
    have h3 : n / G = 0 := Nat.div_eq_of_lt (by omega)
    have h4 : n % G = n := Nat.mod_eq_of_lt (by omega)
    rw [h3, h4]
    have h5 : ¬ (G < 2 * n) := by omega
    have h6 : ((G : Nat) == 2 * n) = false := by rw [beq_eq_false_iff_ne]; omega
    rw [h6]
    simp [h5]
/-- The rung of a number that is rounded. -/
def rung (mag : Nat) (place : Int) : Nat :=
  (max (place + (mag.log2 : Nat) - 23) (-149) - -149).toNat * 8388608 + Toward.even.cut false (mag <<< (place - max (place + (mag.log2 : Nat) - 23) (-149)).toNat) (max (place + (mag.log2 : Nat) - 23) (-149) - place).toNat
theorem cut_sign (g g' : Bool) (n s : Nat) : Toward.even.cut g n s = Toward.even.cut g' n s := rfl
theorem nearest_rung (g : Bool) {mag : Nat} (place : Int) (h : mag ≠ 0) : single.nearest g mag place = single.word g (min (rung mag place) 2139095040) := by
  unfold Format.nearest
  rw [if_neg h]
  rfl
theorem rung_le {mag p K m r : Nat} (hm : mag ≠ 0) (h : mag * 2 ^ p ≤ m * 2 ^ (r + K)) (h1 : m < 16777216) (h2 : r = 0 ∨ 8388608 ≤ m) : rung mag (-149 - (K : Nat) + (p : Nat)) ≤ r * 8388608 + m := by
  unfold rung
  have hl0 : 2 ^ mag.log2 ≤ mag := Nat.log2_self_le hm
  have hl1 : mag < 2 ^ (mag.log2 + 1) := Nat.lt_log2_self
  generalize mag.log2 = L at hl0 hl1
  obtain ⟨r', hr', e⟩ : ∃ r' : Nat, (p + L ≤ 23 + K + r' ∧ (r' = 0 ∨ p + L = 23 + K + r')) ∧ max (-149 - (K : Int) + (p : Nat) + (L : Nat) - 23) (-149) = -149 + (r' : Nat) := by
    rcases Nat.le_total (p + L) (23 + K) with hle | hle
    · exact ⟨0, ⟨by omega, .inl rfl⟩, by omega⟩
    · exact ⟨p + L - (23 + K), ⟨by omega, .inr (by omega)⟩, by omega⟩
  obtain ⟨hr1, hr2⟩ := hr'
  rw [e]
  have e1 : (-149 + (r' : Int) - -149).toNat = r' := by omega
  have e2 : (-149 - (K : Int) + (p : Nat) - (-149 + (r' : Nat))).toNat = p - (K + r') := by omega
  have e3 : (-149 + (r' : Int) - (-149 - (K : Nat) + (p : Nat))).toNat = K + r' - p := by omega
  rw [e1, e2, e3, Nat.shiftLeft_eq]
  have hle : r' ≤ r := by
    rcases hr2 with rfl | hr2
    · exact Nat.zero_le _
    · have a1 : 2 ^ (L + p) ≤ mag * 2 ^ p := by rw [Nat.pow_add]; exact Nat.mul_le_mul_right _ hl0
      have a2 : m * 2 ^ (r + K) < 2 ^ (24 + (r + K)) := by rw [Nat.pow_add 2 24]; exact Nat.mul_lt_mul_of_pos_right h1 (Nat.two_pow_pos _)
      have a3 : 2 ^ (L + p) < 2 ^ (24 + (r + K)) := Nat.lt_of_le_of_lt (Nat.le_trans a1 h) a2
      have := (Nat.pow_lt_pow_iff_right (by decide : 1 < 2)).1 a3
      omega
  rcases Nat.lt_or_ge r' r with hlt | hge
  · have hc : Toward.even.cut false (mag * 2 ^ (p - (K + r'))) (K + r' - p) ≤ 16777216 := by
      refine cutR_le ?_
      rcases Nat.le_total p (K + r') with hp | hp
      · rw [Nat.sub_eq_zero_of_le hp, Nat.pow_zero, Nat.mul_one]
        have a1 : (16777216 : Nat) * 2 ^ (K + r' - p) = 2 ^ (24 + (K + r' - p)) := by rw [Nat.pow_add]
        rw [a1]
        exact Nat.le_of_lt (Nat.lt_of_lt_of_le hl1 (Nat.pow_le_pow_right (by decide) (by omega)))
      · rw [Nat.sub_eq_zero_of_le hp, Nat.pow_zero, Nat.mul_one]
        have a1 : mag * 2 ^ (p - (K + r')) < 2 ^ (L + 1) * 2 ^ (p - (K + r')) := Nat.mul_lt_mul_of_pos_right hl1 (Nat.two_pow_pos _)
        rw [← Nat.pow_add] at a1
        have a2 : 2 ^ (L + 1 + (p - (K + r'))) ≤ 2 ^ 24 := Nat.pow_le_pow_right (by decide) (by omega)
        omega
    have hB : 8388608 ≤ m := by rcases h2 with h2 | h2 <;> omega
    have : (r' + 1) * 8388608 ≤ r * 8388608 := Nat.mul_le_mul_right _ hlt
    omega
  · have e4 : r' = r := by omega
    subst e4
    have hc : Toward.even.cut false (mag * 2 ^ (p - (K + r'))) (K + r' - p) ≤ m := by
      refine cutR_le ?_
      rcases Nat.le_total p (K + r') with hp | hp
      · rw [Nat.sub_eq_zero_of_le hp, Nat.pow_zero, Nat.mul_one]
        refine Nat.le_of_mul_le_mul_right ?_ (Nat.two_pow_pos p)
        rw [Nat.mul_assoc, ← Nat.pow_add, show K + r' - p + p = r' + K by omega]
        exact h
      · rw [Nat.sub_eq_zero_of_le hp, Nat.pow_zero, Nat.mul_one]
        refine Nat.le_of_mul_le_mul_right ?_ (Nat.two_pow_pos (r' + K))
        rw [Nat.mul_assoc, ← Nat.pow_add, show p - (K + r') + (r' + K) = p by omega]
        exact h
    omega
theorem rung_pos {mag : Nat} {p : Nat} (hm : mag ≠ 0) : 1 ≤ rung mag (-149 + (p : Nat)) := by
  unfold rung
  generalize mag.log2 = L
  rcases Nat.le_total (p + L) 23 with hle | hle
  · have e : max (-149 + (p : Int) + (L : Nat) - 23) (-149) = -149 := by omega
    rw [e]
    have e2 : (-149 + (p : Int) - -149).toNat = p := by omega
    have e3 : ((-149 : Int) - (-149 + (p : Nat))).toNat = 0 := by omega
    rw [e2, e3, cut_zero, Nat.shiftLeft_eq]
    have := Nat.mul_pos (Nat.pos_of_ne_zero hm) (Nat.two_pow_pos p)
    omega
  · rcases Nat.lt_or_ge 23 (p + L) with h | h
    · have e : max (-149 + (p : Int) + (L : Nat) - 23) (-149) = -149 + ((p + L - 23 : Nat) : Int) := by omega
      rw [e]
      have e1 : (-149 + ((p + L - 23 : Nat) : Int) - -149).toNat = p + L - 23 := by omega
      rw [e1]
      have : 1 * 8388608 ≤ (p + L - 23) * 8388608 := Nat.mul_le_mul_right _ (by omega)
      omega
    · have e : max (-149 + (p : Int) + (L : Nat) - 23) (-149) = -149 := by omega
      rw [e]
      have e2 : (-149 + (p : Int) - -149).toNat = p := by omega
      have e3 : ((-149 : Int) - (-149 + (p : Nat))).toNat = 0 := by omega
      rw [e2, e3, cut_zero, Nat.shiftLeft_eq]
      have := Nat.mul_pos (Nat.pos_of_ne_zero hm) (Nat.two_pow_pos p)
      omega
/-- The number at a rung. -/
def valU (k : Nat) : Nat := if k < 8388608 then k else (8388608 + k % 8388608) * 2 ^ (k / 8388608 - 1)
theorem valU_mono {k k' : Nat} (h : k ≤ k') : valU k ≤ valU k' := by
  unfold valU
  by_cases h1 : k' < 8388608
  · rw [if_pos h1, if_pos (by omega)]; exact h
  · rw [if_neg h1]
    have hp : 0 < 2 ^ (k' / 8388608 - 1) := Nat.two_pow_pos _
    by_cases h2 : k < 8388608
    · rw [if_pos h2]
      have : (8388608 + k' % 8388608) * 1 ≤ (8388608 + k' % 8388608) * 2 ^ (k' / 8388608 - 1) := Nat.mul_le_mul_left _ hp
      omega
    · rw [if_neg h2]
      have hd : k / 8388608 ≤ k' / 8388608 := Nat.div_le_div_right h
      rcases Nat.lt_or_ge (k / 8388608) (k' / 8388608) with h3 | h3
      · have a1 : (8388608 + k % 8388608) * 2 ^ (k / 8388608 - 1) ≤ (2 * 8388608) * 2 ^ (k / 8388608 - 1) := Nat.mul_le_mul_right _ (by omega)
        have a2 : (2 * 8388608) * 2 ^ (k / 8388608 - 1) = 8388608 * 2 ^ (k / 8388608) := by
          have e : k / 8388608 = (k / 8388608 - 1) + 1 := by omega
          rw [Nat.mul_comm 2 8388608, Nat.mul_assoc]
          congr 1
          rw [Nat.mul_comm, ← Nat.pow_succ, Nat.succ_eq_add_one, ← e]
        have a3 : 8388608 * 2 ^ (k / 8388608) ≤ 8388608 * 2 ^ (k' / 8388608 - 1) := Nat.mul_le_mul_left _ (Nat.pow_le_pow_right (by decide) (by omega))
        have a4 : 8388608 * 2 ^ (k' / 8388608 - 1) ≤ (8388608 + k' % 8388608) * 2 ^ (k' / 8388608 - 1) := Nat.mul_le_mul_right _ (by omega)
        omega
      · have e : k / 8388608 = k' / 8388608 := by omega
        rw [e]
        exact Nat.mul_le_mul_right _ (by omega)
theorem valU_canon {m r : Nat} (h1 : m < 16777216) (h2 : r = 0 ∨ 8388608 ≤ m) : valU (r * 8388608 + m) = m * 2 ^ r := by
  unfold valU
  rcases Nat.lt_or_ge m 8388608 with h | h
  · have hr : r = 0 := by omega
    rw [hr, Nat.zero_mul, Nat.zero_add, Nat.pow_zero, Nat.mul_one, if_pos h]
  · rw [if_neg (by omega)]
    have e1 : (r * 8388608 + m) / 8388608 = r + 1 := by omega
    have e2 : (r * 8388608 + m) % 8388608 = m - 8388608 := by omega
    rw [e1, e2, Nat.add_sub_cancel, Nat.add_sub_cancel' h]
theorem fint_word (g : Bool) {k : Nat} (hk : k < 2139095040) : fint (single.word g k) = some (if g then -(valU k : Int) else valU k) := by
  obtain ⟨e1, e2⟩ := read_word single g k (by have := inf_lt single; rw [inf32] at this; omega)
  have hr : single.read (single.word g k) = if k < 8388608 then .number g k (-149) else .number g (8388608 + k % 8388608) (-149 + ((k / 8388608 - 1 : Nat) : Int)) := by
    unfold Format.read
    rw [least32, bin32, inf32, e1, e2]
    dsimp only
    split
    · rfl
    · rfl
  unfold fint valU
  rw [hr]
  by_cases h : k < 8388608
  · rw [if_pos h, if_pos h]
    simp only [Option.some.injEq]
    rw [signed_eq]
    cases g <;> simp
  · rw [if_neg h, if_neg h]
    simp only [Option.some.injEq]
    rw [signed_eq]
    have e3 : (-149 + ((k / 8388608 - 1 : Nat) : Int) + 149).toNat = k / 8388608 - 1 := by omega
    rw [e3]
    cases g <;> simp
/-- What is rounded is not past a number that the format has. -/
theorem round_le (g : Bool) {mag p K m r : Nat} (h : mag * 2 ^ p ≤ m * 2 ^ (r + K)) (h1 : m < 16777216) (h2 : r = 0 ∨ 8388608 ≤ m) (h3 : r ≤ 253) : ∃ v : Nat, fint (single.nearest g mag (-149 - (K : Nat) + (p : Nat))) = some (if g then -(v : Int) else v) ∧ v ≤ m * 2 ^ r := by
  by_cases hm : mag = 0
  · subst hm
    refine ⟨0, ?_, Nat.zero_le _⟩
    unfold Format.nearest
    rw [if_pos rfl]
    cases g <;> decide +kernel
  · have hr := rung_le hm h h1 h2
    have hlt : rung mag (-149 - (K : Nat) + (p : Nat)) < 2139095040 := by
      have : r * 8388608 ≤ 253 * 8388608 := Nat.mul_le_mul_right _ h3
      omega
    rw [nearest_rung g _ hm, Nat.min_eq_left (by omega), fint_word g hlt]
    exact ⟨_, rfl, by rw [← valU_canon h1 h2]; exact valU_mono hr⟩
theorem valU_pos {k : Nat} (h : 1 ≤ k) : 1 ≤ valU k := by
  have := valU_mono h
  have e : valU 1 = 1 := rfl
  omega
end Go.Ax

/- Differences and quotients of floats that are not less than 0. -/
namespace Go.Ax
open Go Ieee

theorem form_nonneg {x : Nat} {a : Int} (h : fint x = some a) (h0 : 0 ≤ a) : ∃ s m r, single.read x = .number s m (-149 + (r : Nat)) ∧ a = (m : Int) * 2 ^ r ∧ m < 16777216 ∧ (r = 0 ∨ 8388608 ≤ m) ∧ r ≤ 253 ∧ signed s m r = a := by
  obtain ⟨s, m, r, e, ha, h1, h2, h3⟩ := fint_form h
  refine ⟨s, m, r, e, ?_, h1, h2, h3, ha.symm⟩
  rw [signed_eq] at ha
  have hp : (0 : Int) ≤ (m : Int) * 2 ^ r := Int.mul_nonneg (by omega) (Int.le_of_lt (pow_pos' _))
  cases s <;> simp at ha <;> omega
/-- A sum that lies between 0 and a number of the format. -/
theorem sum_le {s t : Bool} {m n r q M R : Nat} (h0 : 0 ≤ signed s m r + signed t n q) (hle : signed s m r + signed t n q ≤ (M : Int) * 2 ^ R) (h1 : M < 16777216) (h2 : R = 0 ∨ 8388608 ≤ M) (h3 : R ≤ 253) :
    ∃ z, ((Datum.number s m (-149 + (r : Nat))).sum (.number t n (-149 + (q : Nat)))).map single.write = some z ∧ ∃ v : Nat, fint z = some (v : Int) ∧ v ≤ M * 2 ^ R ∧ (v = 0 → signed s m r + signed t n q = 0) := by
  obtain ⟨b, e1, e2, e3⟩ := two_units (s := s) (t := t) (m := m) (n := n) (r := r) (q := q)
  simp only [Datum.sum, Option.map_some]
  refine ⟨_, rfl, ?_⟩
  rw [e1, e2, ← Int.add_mul] at h0 hle
  have etot : signed s m r + signed t n q = (signed s m (-149 + (r : Int) - min (-149 + (r : Int)) (-149 + (q : Int))).toNat + signed t n (-149 + (q : Int) - min (-149 + (r : Int)) (-149 + (q : Int))).toNat) * 2 ^ b := by rw [e1, e2, ← Int.add_mul]
  rw [etot]
  clear etot
  generalize signed s m _ + signed t n _ = T at h0 hle ⊢
  rw [e3]
  have hb : (0 : Int) < 2 ^ b := pow_pos' b
  have hT0 : 0 ≤ T := by
    rcases Int.lt_or_le T 0 with h | h
    · have := Int.mul_neg_of_neg_of_pos h hb; omega
    · exact h
  have hnat : T.natAbs * 2 ^ b ≤ M * 2 ^ (R + 0) := by
    have e : ((T.natAbs * 2 ^ b : Nat) : Int) = T * 2 ^ b := by
      push_cast
      rw [Int.natAbs_of_nonneg hT0]
    have e' : ((M * 2 ^ (R + 0) : Nat) : Int) = (M : Int) * 2 ^ R := by push_cast; rfl
    omega
  have key : ∀ g, (T ≠ 0 → g = false) → ∃ v : Nat, fint (single.nearest g T.natAbs (-149 + (b : Nat))) = some (v : Int) ∧ v ≤ M * 2 ^ R ∧ (v = 0 → T * 2 ^ b = 0) := fun g hg => by
    by_cases hz : T = 0
    · subst hz
      refine ⟨0, ?_, Nat.zero_le _, fun _ => by simp⟩
      show fint (single.nearest g 0 _) = _
      unfold Format.nearest
      rw [if_pos rfl]
      cases g <;> decide +kernel
    · have hg := hg hz
      subst hg
      have hm : T.natAbs ≠ 0 := by omega
      have hpl : (-149 + (b : Int)) = -149 - ((0 : Nat) : Int) + (b : Nat) := by omega
      obtain ⟨v, v1, v2⟩ := round_le false (K := 0) hnat h1 h2 h3
      rw [← hpl] at v1
      refine ⟨v, by simpa using v1, v2, fun hv => ?_⟩
      exfalso
      subst hv
      have hr := rung_le (K := 0) hm hnat h1 h2
      rw [← hpl] at hr
      have hlt : rung T.natAbs (-149 + (b : Nat)) < 2139095040 := by
        have : R * 8388608 ≤ 253 * 8388608 := Nat.mul_le_mul_right _ h3
        omega
      rw [nearest_rung false _ hm, Nat.min_eq_left (by omega), fint_word false hlt] at v1
      have := valU_pos (rung_pos (p := b) hm)
      simp at v1
      omega
  show ∃ v : Nat, fint (single.nearest (if T = 0 then s && t else decide (T < 0)) T.natAbs (-149 + (b : Nat))) = some (v : Int) ∧ v ≤ M * 2 ^ R ∧ (v = 0 → T * 2 ^ b = 0)
  refine key _ fun hz => ?_
  rw [if_neg hz]
  simp; omega
theorem fsub_le {t x : Nat} {a b : Int} (ht : fint t = some a) (hx : fint x = some b) (h0 : 0 ≤ b) (h : b ≤ a) : ∃ v : Nat, fint (fsub .f32 t x) = some (v : Int) ∧ (v : Int) ≤ a ∧ (v = 0 → a = b) := by
  obtain ⟨s, m, r, e1, ha, h1, h2, h3, hs⟩ := form_nonneg ht (by omega)
  obtain ⟨u, n, q, e2, hb, _, _, _, hu⟩ := form_nonneg hx h0
  have e : signed s m r + signed (!u) n q = a - b := by rw [signed_neg, hs, hu]; omega
  obtain ⟨z, z1, v, v1, v2, v3⟩ := sum_le (s := s) (t := !u) (m := m) (n := n) (r := r) (q := q) (M := m) (R := r) (by omega) (by omega) h1 h2 h3
  refine ⟨v, ?_, ?_, fun hv => by have := v3 hv; omega⟩
  · unfold fsub Format.sub
    rw [show FloatKind.f32.format = single from rfl, e1, e2]
    show fint ((((Datum.number s m (-149 + (r : Nat))).sum (.number (!u) n (-149 + (q : Nat)))).map single.write).getD _) = _
    rw [z1]
    exact v1
  · rw [ha]
    have : ((m * 2 ^ r : Nat) : Int) = (m : Int) * 2 ^ r := by push_cast; rfl
    omega
theorem one_bits : fint 1065353216 = some (2 ^ 149) := by decide +kernel
/-- A quotient of a number by one that is not less. -/
theorem fdiv_le {x t : Nat} {a b : Int} (hx : fint x = some a) (ht : fint t = some b) (h0 : 0 ≤ a) (h : a ≤ b) (hb : 0 < b) : ∃ v : Nat, fint (fdiv .f32 x t) = some (v : Int) ∧ v ≤ 2 ^ 149 ∧ (a = b → v = 2 ^ 149) ∧ (a = 0 → v = 0) := by
  obtain ⟨s, m, r, e1, ha, h1, h2, h3, hs⟩ := form_nonneg hx h0
  obtain ⟨u, n, q, e2, hb', n1, n2, n3, hu⟩ := form_nonneg ht (by omega)
  have hn : n ≠ 0 := by
    rintro rfl
    simp at hb'; omega
  have hle : m * 2 ^ r ≤ n * 2 ^ q := by
    have e : ((m * 2 ^ r : Nat) : Int) = a := by rw [ha]; push_cast; rfl
    have e' : ((n * 2 ^ q : Nat) : Int) = b := by rw [hb']; push_cast; rfl
    omega
  unfold fdiv Format.div
  rw [show FloatKind.f32.format = single from rfl, e1, e2]
  have hu0 : u = false := by
    cases u with
    | false => rfl
    | true =>
      exfalso
      rw [signed_eq] at hu
      have h4 : (0 : Int) ≤ (n : Int) * 2 ^ q := Int.mul_nonneg (by omega) (Int.le_of_lt (pow_pos' _))
      simp at hu
      omega
  subst hu0
  show ∃ v : Nat, fint (((Datum.quotient (23 + 2) (.number s m (-149 + (r : Nat))) (.number false n (-149 + (q : Nat)))).map single.write).getD (qnan .f32)) = some (v : Int) ∧ _
  simp only [Datum.quotient, if_neg hn, Option.map_some, Option.getD_some]
  by_cases hm : m = 0
  · subst hm
    refine ⟨0, ?_, Nat.zero_le _, fun hab => by simp at ha; omega, fun _ => rfl⟩
    rw [Nat.zero_shiftLeft, Nat.zero_div, Nat.zero_mod]
    show fint (single.nearest (s ^^ false) 0 _) = _
    unfold Format.nearest
    rw [if_pos rfl]
    cases s <;> decide +kernel
  · have hs0 : s = false := by
      cases s with
      | false => rfl
      | true =>
        exfalso
        rw [signed_eq] at hs
        have h4 : (0 : Int) < (m : Int) * 2 ^ r := Int.mul_pos (by omega) (pow_pos' _)
        simp at hs
        omega
    subst hs0
    have lm := Nat.log2_self_le hm
    have lm2 : m < 2 ^ (m.log2 + 1) := Nat.lt_log2_self
    have ln := Nat.log2_self_le hn
    have ln2 : n < 2 ^ (n.log2 + 1) := Nat.lt_log2_self
    have l24 : m.log2 < 24 := by
      have : 2 ^ m.log2 < 2 ^ 24 := Nat.lt_of_le_of_lt lm h1
      exact (Nat.pow_lt_pow_iff_right (by decide : 1 < 2)).1 this
    obtain ⟨k, hk, hk2⟩ : ∃ k, 23 + 2 + n.log2 - m.log2 = k ∧ k + m.log2 = 25 + n.log2 := ⟨_, rfl, by omega⟩
    rw [hk, Nat.shiftLeft_eq]
    -- V = m 2^k / n lies above 2^24 and not above 2^(q + k - r)
    have hge : r + 24 ≤ q + k := by
      have a1 : 2 ^ (25 + n.log2 + r) ≤ m * 2 ^ r * 2 ^ k := by
        have : 2 ^ (25 + n.log2 + r) = 2 ^ m.log2 * 2 ^ r * 2 ^ k := by rw [← Nat.pow_add, ← Nat.pow_add]; congr 1; omega
        rw [this]
        exact Nat.mul_le_mul_right _ (Nat.mul_le_mul_right _ lm)
      have a2 : m * 2 ^ r * 2 ^ k < 2 ^ (n.log2 + 1 + q + k) := by
        refine Nat.lt_of_le_of_lt (Nat.mul_le_mul_right _ hle) ?_
        rw [Nat.pow_add _ _ k, Nat.pow_add _ _ q]
        exact Nat.mul_lt_mul_of_pos_right (Nat.mul_lt_mul_of_pos_right ln2 (Nat.two_pow_pos _)) (Nat.two_pow_pos _)
      have := (Nat.pow_lt_pow_iff_right (by decide : 1 < 2)).1 (Nat.lt_of_le_of_lt a1 a2)
      omega
    obtain ⟨e, he⟩ : ∃ e, q + k = r + e := ⟨q + k - r, by omega⟩
    have hV : m * 2 ^ k ≤ n * 2 ^ e := by
      refine Nat.le_of_mul_le_mul_right ?_ (Nat.two_pow_pos r)
      have a1 : m * 2 ^ k * 2 ^ r = m * 2 ^ r * 2 ^ k := by ac_rfl
      have a2 : n * 2 ^ e * 2 ^ r = n * 2 ^ q * 2 ^ k := by rw [Nat.mul_assoc, ← Nat.pow_add, Nat.mul_assoc, ← Nat.pow_add]; congr 2; omega
      rw [a1, a2]
      exact Nat.mul_le_mul_right _ hle
    have hdm := Nat.div_add_mod (m * 2 ^ k) n
    have hmod := Nat.mod_lt (m * 2 ^ k) (Nat.pos_of_ne_zero hn)
    generalize hQ : m * 2 ^ k / n = Q at hdm ⊢
    generalize hRm : m * 2 ^ k % n = Rm at hdm hmod ⊢
    have hQe : Q ≤ 2 ^ e := by
      rw [← hQ]
      exact Nat.div_le_of_le_mul hV
    have hmag : ∀ st : Nat, (Rm = 0 → st = 0) → st ≤ 1 → 2 * Q + st ≤ 2 * 2 ^ e := fun st hst0 hst => by
      rcases Nat.lt_or_ge Q (2 ^ e) with hlt | hge'
      · omega
      · have hQ' : Q = 2 ^ e := by omega
        have : Rm = 0 := by
          rw [hQ'] at hdm
          omega
        have := hst0 this
        omega
    have fin : ∀ st : Nat, (Rm = 0 → st = 0) → st ≤ 1 → ∃ v : Nat, fint (single.nearest (false ^^ false) (2 * Q + st) (-149 + (r : Int) - (-149 + (q : Int)) - (k : Int) - 1)) = some (v : Int) ∧ v ≤ 2 ^ 149 ∧ (a = b → v = 2 ^ 149) ∧ (a = 0 → v = 0) := fun st hst0 hst => by
      have hm1 := hmag st hst0 hst
      have hpl : (-149 + (r : Int) - (-149 + (q : Int)) - (k : Int) - 1) = -149 - ((q + k + 1 : Nat) : Int) + ((r + 149 : Nat) : Int) := by omega
      have hb1 : (2 * Q + st) * 2 ^ (r + 149) ≤ 8388608 * 2 ^ (126 + (q + k + 1)) := by
        have a1 : (8388608 : Nat) * 2 ^ (126 + (q + k + 1)) = 2 * 2 ^ e * 2 ^ (r + 149) := by
          rw [show (8388608 : Nat) = 2 ^ 23 by decide, ← Nat.pow_add, ← Nat.pow_succ', ← Nat.pow_add]
          congr 1
          omega
        rw [a1]
        exact Nat.mul_le_mul_right _ hm1
      obtain ⟨v, v1, v2⟩ := round_le false hb1 (by decide) (.inr (by decide)) (by decide)
      rw [← hpl] at v1
      refine ⟨v, by simpa using v1, by rw [show (8388608 : Nat) * 2 ^ 126 = 2 ^ 149 by rw [show (8388608 : Nat) = 2 ^ 23 by decide, ← Nat.pow_add]] at v2; exact v2, fun hab => ?_, fun ha0 => by
        exfalso
        have h4 : (0 : Int) < (m : Int) * 2 ^ r := Int.mul_pos (by omega) (pow_pos' _)
        omega⟩
      have heq : m * 2 ^ r = n * 2 ^ q := by
        have e : ((m * 2 ^ r : Nat) : Int) = a := by rw [ha]; push_cast; rfl
        have e' : ((n * 2 ^ q : Nat) : Int) = b := by rw [hb']; push_cast; rfl
        omega
      have hV2 : m * 2 ^ k = n * 2 ^ e := by
        refine Nat.eq_of_mul_eq_mul_right (Nat.two_pow_pos r) ?_
        have a1 : m * 2 ^ k * 2 ^ r = m * 2 ^ r * 2 ^ k := by ac_rfl
        have a2 : n * 2 ^ e * 2 ^ r = n * 2 ^ q * 2 ^ k := by rw [Nat.mul_assoc, ← Nat.pow_add, Nat.mul_assoc, ← Nat.pow_add]; congr 2; omega
        rw [a1, a2, heq]
      have hQ2 : Q = 2 ^ e := by rw [← hQ, hV2, Nat.mul_div_cancel_left _ (Nat.pos_of_ne_zero hn)]
      have hR2 : Rm = 0 := by rw [← hRm, hV2, Nat.mul_mod_right]
      have hst2 := hst0 hR2
      -- e is 25
      have he25 : e ≤ 26 := by
        have a1 : 2 ^ (n.log2 + e) ≤ m * 2 ^ k := by rw [hV2, Nat.pow_add]; exact Nat.mul_le_mul_right _ ln
        have a2 : m * 2 ^ k < 2 ^ (m.log2 + 1 + k) := by rw [Nat.pow_add _ _ k]; exact Nat.mul_lt_mul_of_pos_right lm2 (Nat.two_pow_pos _)
        have := (Nat.pow_lt_pow_iff_right (by decide : 1 < 2)).1 (Nat.lt_of_le_of_lt a1 a2)
        omega
      have hpl2 : (-149 + (r : Int) - (-149 + (q : Int)) - (k : Int) - 1) = -149 + ((148 - e : Nat) : Int) := by omega
      have hval : (2 * Q + st) * 2 ^ (148 - e) = 2 ^ 149 := by
        rw [hQ2, hst2, Nat.add_zero, ← Nat.pow_succ', ← Nat.pow_add]
        congr 1
        omega
      have hrep : Rep ((2 * Q + st) * 2 ^ (148 - e)) := by
        rw [hval]
        exact ⟨8388608, 126, by decide +kernel, by decide, .inr (by decide), by decide⟩
      have hn2 := nearest_rep false (2 * Q + st) (148 - e) hrep
      rw [← hpl2] at hn2
      rw [hn2, signed_eq] at v1
      have hvi : ((2 * Q + st : Nat) : Int) * 2 ^ (148 - e) = 2 ^ 149 := by exact_mod_cast hval
      simp only [Bool.false_eq_true, if_false, Int.one_mul, Option.some.injEq] at v1
      rw [hvi] at v1
      exact_mod_cast v1.symm
    exact fin _ (fun hz => by rw [hz]; rfl) (by cases (Rm != 0) <;> decide)
theorem fmul_zero {x y : Nat} {a : Int} (hx : fint x = some a) (hy : fint y = some 0) : fint (fmul .f32 x y) = some 0 := by
  obtain ⟨s, m, r, e1, _, _⟩ := fint_form hx
  obtain ⟨t, n, q, e2, h2, _⟩ := fint_form hy
  have hn : n = 0 := by
    rcases Nat.eq_zero_or_pos n with h | h
    · exact h
    · exfalso
      have h4 : (0 : Int) < (n : Int) * 2 ^ q := Int.mul_pos (by omega) (pow_pos' _)
      rw [signed_eq] at h2
      cases t <;> simp at h2 <;> omega
  subst hn
  unfold fmul Format.mul
  rw [show FloatKind.f32.format = single from rfl, e1, e2]
  show fint (((Datum.product (.number s m (-149 + (r : Nat))) (.number t 0 (-149 + (q : Nat)))).map single.write).getD (qnan .f32)) = _
  simp only [Datum.product, Option.map_some, Option.getD_some]
  show fint (single.nearest (s ^^ t) (m * 0) _) = _
  unfold Format.nearest
  rw [if_pos (Nat.mul_zero m)]
  cases s <;> cases t <;> decide +kernel
end Go.Ax

/- The greatest level: impl's and spec's. -/
namespace Go.Ax
open Go Go.Proofs

/-- The levels of a picture as whole numbers. -/
theorem pic_fint {n : Int} {X : Nat → Nat} (h : isPicB n X = true) {j : Nat} (hj : j < 64) : ∃ a : Int, fint (X j) = some a ∧ 0 ≤ a ∧ (n.toNat * n.toNat ≤ j → a = 0) := by
  obtain ⟨h1, h2, h3⟩ := (isPicB_iff.1 h).2 j hj
  obtain ⟨a, ha⟩ := finB_iff.1 h1
  rw [flt_fint ha fint_zero] at h2
  refine ⟨a, ha, by simpa using h2, fun hle => ?_⟩
  have := h3 hle
  rw [feq_fint ha fint_zero] at this
  simpa using this
theorem neg_pos {x : Nat} {a : Int} (h : fint x = some a) (h0 : 0 < a) : (FloatKind.f32.decode x).neg = false := by
  obtain ⟨s, m, r, e, ha, _⟩ := fint_form h
  have hs : s = false := by
    cases s with
    | false => rfl
    | true =>
      exfalso
      rw [signed_eq] at ha
      have : (0 : Int) ≤ (m : Int) * 2 ^ r := Int.mul_nonneg (by omega) (Int.le_of_lt (pow_pos' _))
      simp at ha
      omega
  subst hs
  show (Ieee.single.read x).neg = false
  rw [e]
  rfl
theorem fmaxA_fint {x y : Nat} {a b : Int} (hx : fint x = some a) (hy : fint y = some b) : fmaxA .f32 x y = if a < b then y else if b < a then x else if (FloatKind.f32.decode x).neg then y else x := by
  unfold fmaxA
  rw [show FloatKind.f32.format = Ieee.single from rfl, order_fint hx hy]
  simp only [compare, compareOfLessAndEq]
  by_cases h1 : a < b
  · simp [h1]
  · by_cases h2 : a = b
    · subst h2; simp
    · have : b < a := by omega
      simp [h1, h2, this]
theorem fgt_fint {x y : Nat} {a b : Int} (hx : fint x = some a) (hy : fint y = some b) : fgt .f32 x y = decide (b < a) := by
  unfold fgt
  rw [show FloatKind.f32.format = Ieee.single from rfl, order_fint hx hy]
  rw [Bool.eq_iff_iff]
  simp [compare, compareOfLessAndEq]
  constructor
  · intro h
    by_cases h1 : a < b
    · simp [h1] at h
    · by_cases h2 : a = b
      · simp [h2] at h
      · omega
  · intro h
    have h1 : ¬ a < b := by omega
    have h2 : ¬ a = b := by omega
    simp [h1, h2]
theorem top_rel {n : Int} {X : Nat → Nat} (h : isPicB n X = true) : ∀ k, k < 64 → ∃ v : Int, 0 ≤ v ∧ fint (topI X k) = some v ∧ fint (topS X k) = some v ∧ (v ≠ 0 → topI X k = topS X k) ∧ (∀ j a, j ≤ k → fint (X j) = some a → a ≤ v) ∧ ∃ j, j ≤ k ∧ fint (X j) = some v
  | 0, hk => by
    obtain ⟨a, ha, h0, _⟩ := pic_fint h hk
    refine ⟨a, h0, ha, ha, fun _ => rfl, fun j b hj hb => ?_, 0, Nat.le_refl _, ha⟩
    have : j = 0 := by omega
    subst this
    rw [ha] at hb
    cases hb
    exact Int.le_refl _
  | k + 1, hk => by
    obtain ⟨v, v0, e1, e2, e3, e4, j0, j1, j2⟩ := top_rel h k (by omega)
    obtain ⟨b, hb, b0, _⟩ := pic_fint h hk
    have eI : topI X (k + 1) = if v < b then X (k + 1) else if b < v then topI X k else if (FloatKind.f32.decode (topI X k)).neg then X (k + 1) else topI X k := by rw [topI, fmaxA_fint e1 hb]
    have eS : topS X (k + 1) = cond (decide (v < b)) (X (k + 1)) (topS X k) := by rw [topS, fgt_fint hb e2]
    have hall : ∀ w : Int, v ≤ w → b ≤ w → ∀ j a, j ≤ k + 1 → fint (X j) = some a → a ≤ w := fun w hv hw j a hj ha => by
      rcases Nat.lt_or_ge j (k + 1) with h1 | h1
      · have := e4 j a (by omega) ha; omega
      · have : j = k + 1 := by omega
        subst this
        rw [hb] at ha; cases ha; exact hw
    by_cases h1 : v < b
    · rw [eI, eS, if_pos h1, decide_eq_true h1]
      exact ⟨b, b0, hb, hb, fun _ => rfl, hall b (by omega) (by omega), k + 1, Nat.le_refl _, hb⟩
    · have hS : topS X (k + 1) = topS X k := by rw [eS, decide_eq_false h1]; rfl
      rw [eI, hS, if_neg h1]
      by_cases h2 : b < v
      · rw [if_pos h2]
        exact ⟨v, v0, e1, e2, e3, hall v (by omega) (by omega), j0, by omega, j2⟩
      · rw [if_neg h2]
        have hbv : b = v := by omega
        subst hbv
        by_cases hz : b = 0
        · refine ⟨b, v0, ?_, e2, fun hn => absurd hz hn, hall b (by omega) (by omega), j0, by omega, j2⟩
          split
          · exact hb
          · exact e1
        · rw [neg_pos e1 (by omega)]
          exact ⟨b, v0, e1, e2, e3, hall b (by omega) (by omega), j0, by omega, j2⟩
theorem feq_zero_fint {x : Nat} {v : Int} (h : fint x = some v) : feq .f32 x 0 = (v == 0) := feq_fint h fint_zero
end Go.Ax

/- Sums of pictures, multiples: calls. -/
namespace Go.Ax
open Go Go.Proofs

theorem lim_sel (c : Int) (g : Bool) (α : Type) (a b : α) : lim c g a b = cond (eqQ false (limC c g) 0) b a := by
  unfold lim limC
  cases h : eqQ false c 0 with
  | false =>
    simp only [Bool.not_false, cond_true]
    rw [h]; rfl
  | true => cases g <;> rfl
theorem zero_plus {x : Nat} (h : fint x = some 0) : plusF x = 0 := plusF_zero (by rw [feq_zero_fint h]; rfl)
theorem cut_at {N j : Nat} {Z : Nat → Nat} : cut N Z j = match Nat.blt j N with | true => Z j | false => 0 := by
  unfold cut
  rw [ble_blt]
  cases Nat.blt j N <;> rfl
theorem cut_pic {n : Int} {Z : Nat → Nat} (h : ∀ j, j < 64 → n.toNat * n.toNat ≤ j → fint (Z j) = some 0) : isPicB n (cut (n.toNat * n.toNat) Z) = isPicB n Z := by
  have key : ∀ j, j < 64 → ((finB (cut (n.toNat * n.toNat) Z j) = true ∧ flt .f32 (cut (n.toNat * n.toNat) Z j) 0 = false ∧ (n.toNat * n.toNat ≤ j → feq .f32 (cut (n.toNat * n.toNat) Z j) 0 = true)) ↔ (finB (Z j) = true ∧ flt .f32 (Z j) 0 = false ∧ (n.toNat * n.toNat ≤ j → feq .f32 (Z j) 0 = true))) := fun j hj => by
    rw [cut_at]
    cases hb : Nat.blt j (n.toNat * n.toNat) with
    | true => exact Iff.rfl
    | false =>
      have hz := h j hj (by have := blt_false hb; omega)
      simp only []
      constructor
      · intro _
        exact ⟨finB_iff.2 ⟨_, hz⟩, by rw [flt_fint hz fint_zero]; rfl, fun _ => by rw [feq_zero_fint hz]; rfl⟩
      · intro _
        exact ⟨finB_iff.2 ⟨_, fint_zero⟩, by rw [flt_fint fint_zero fint_zero]; rfl, fun _ => by rw [feq_zero_fint fint_zero]; rfl⟩
  rw [Bool.eq_iff_iff, isPicB_iff, isPicB_iff]
  constructor
  · rintro ⟨h1, h2⟩
    exact ⟨h1, fun j hj => (key j hj).1 (h2 j hj)⟩
  · rintro ⟨h1, h2⟩
    exact ⟨h1, fun j hj => (key j hj).2 (h2 j hj)⟩
theorem tpC_zero {g g2 : Bool} {n m : Int} (h : eqQ false (tpC g g2 n m) 0 = true) : g = true ∧ g2 = true ∧ n = m := by
  rw [eqQ_eq, beq_iff_eq] at h
  unfold tpC at h
  cases g with
  | false => cases h
  | true =>
    cases g2 with
    | false => cases h
    | true =>
      refine ⟨rfl, rfl, ?_⟩
      cases he : eqQ false n m with
      | true => rw [eqQ_eq] at he; simpa using he
      | false => rw [he] at h; cases h
/-! ### Sums -/
noncomputable def addC (n : Int) (X : Nat → Nat) (m : Int) (Y : Nat → Nat) : Int := limC (tpC (isPicB n X) (isPicB m Y) n m) (isPicB n (cut (n.toNat * n.toNat) (addX X Y)))
theorem add_tail {n m : Int} {X Y : Nat → Nat} (h : eqQ false (tpC (isPicB n X) (isPicB m Y) n m) 0 = true) {j : Nat} (hj : j < 64) (hle : n.toNat * n.toNat ≤ j) : fint (addX X Y j) = some 0 := by
  obtain ⟨h1, h2, rfl⟩ := tpC_zero h
  obtain ⟨a, ha, _, a0⟩ := pic_fint h1 hj
  obtain ⟨b, hb, _, b0⟩ := pic_fint h2 hj
  have e1 := a0 hle
  have e2 := b0 hle
  subst e1; subst e2
  have := fadd_fint ha hb (by simpa using rep_zero)
  simpa [addX] using this
theorem limC_zero {c : Int} {g : Bool} (h : eqQ false (limC c g) 0 = true) : eqQ false c 0 = true ∧ g = true := by
  unfold limC at h
  cases hc : eqQ false c 0 with
  | false => rw [hc] at h; simp only [Bool.not_false, cond_true] at h; rw [hc] at h; cases h
  | true => rw [hc] at h; cases g <;> first | exact ⟨rfl, rfl⟩ | cases h
theorem add_ok (f : FuncId) (hf : f = 40 ∨ f = 41) (n : Int) (X : Nat → Nat) (m : Int) (Y : Nat → Nat) (H : List AB) : CallOK Tryz.prog f [pv n X, pv m Y] H (pcR n (addC n X m Y) (addX X Y)) H := by
  cases hs : sideB n with
  | false =>
    have e : addC n X m Y = 1 := by unfold addC; rw [noSide_pic hs, tpC_none]; rfl
    rcases hf with rfl | rfl
    · exact ((call_of_join (args := [pvT false n X, pvT false m Y]) tabPn_sound (n40 n X Y m) (by simp [allT, hs]) (pv_pvT_low _ _ _ _ _ _) H).deep (args' := [pv n X, pv m Y]) rfl).weaken fun σ x r => zPV_rel e (by decide) r
    · exact ((call_of_join (args := [pvT false n X, pvT false m Y]) tabPn_sound (n41 n X Y m) (by simp [allT, hs]) (pv_pvT_low _ _ _ _ _ _) H).deep (args' := [pv n X, pv m Y]) rfl).weaken fun σ x r => zPV_rel e (by decide) r
  | true =>
    have hd := side_cases hs
    rcases hf with rfl | rfl
    · have k := (call_of_join (args := [pvT true n X, pvT false m Y]) tabPc_sound (p40 _ n hd X Y m) rfl (pv_pvT_low _ _ _ _ _ _) H).deep (args' := [pv n X, pv m Y]) rfl
      unfold gN at k
      rw [isPicB_re, isPicB_re, isPicB_re] at k
      exact k.weaken fun σ x r => iPV_rel (fun α a b => lim_sel _ _ α a b) r
    · have k := (call_of_join (args := [pvT true n X, pvT false m Y]) tabPc_sound (p41 _ n hd X Y m) rfl (pv_pvT_low _ _ _ _ _ _) H).deep (args' := [pv n X, pv m Y]) rfl
      unfold gN at k
      rw [isPicB_re, isPicB_re, isPicB_re] at k
      have e : addC n X m Y = limC (tpC (isPicB n X) (isPicB m Y) n m) (isPicB n (addX X Y)) := by
        unfold addC
        cases hc : eqQ false (tpC (isPicB n X) (isPicB m Y) n m) 0 with
        | false => unfold limC; rw [hc]; rfl
        | true => rw [cut_pic fun j hj hle => add_tail hc hj hle]
      rw [e]
      exact k.weaken fun σ x r => sPV_rel (fun α a b => lim_sel _ _ α a b) (fun hc j hj hle => zero_plus (add_tail (limC_zero hc).1 hj hle)) r
/-! ### Multiples -/
theorem sel3_sel {p q r : Bool} {x y z : Int} (hx : x ≠ 0) (hy : y ≠ 0) (hz : z ≠ 0) (α : Type) (a b : α) : sel3 p q r a a a b = cond (eqQ false (sel3 p q r x y z 0) 0) b a := by
  have e : ∀ k : Int, k ≠ 0 → eqQ false k 0 = false := fun k hk => by rw [eqQ_eq]; simpa using hk
  unfold sel3
  cases p
  · cases q
    · cases r
      · rfl
      · simp only [cond_false, cond_true]; rw [e z hz]; rfl
    · simp only [cond_false, cond_true]; rw [e y hy]; rfl
  · simp only [cond_true]; rw [e x hx]; rfl
theorem sel3_zero {p q r : Bool} {x y z : Int} (hx : x ≠ 0) (hy : y ≠ 0) (hz : z ≠ 0) (h : eqQ false (sel3 p q r x y z 0) 0 = true) : p = false ∧ q = false ∧ r = false := by
  have e : ∀ k : Int, k ≠ 0 → eqQ false k 0 = false := fun k hk => by rw [eqQ_eq]; simpa using hk
  unfold sel3 at h
  cases p
  · cases q
    · cases r
      · exact ⟨rfl, rfl, rfl⟩
      · simp only [cond_false, cond_true] at h; rw [e z hz] at h; cases h
    · simp only [cond_false, cond_true] at h; rw [e y hy] at h; cases h
  · simp only [cond_true] at h; rw [e x hx] at h; cases h
noncomputable def scaC (t : Nat) (n : Int) (X : Nat → Nat) : Int := sel3 (cond (!finB t) true (!isPicB n X)) (flt .f32 t 0) (!isPicB n (cut (n.toNat * n.toNat) (mulX t X))) 1 2 3 0
theorem mul_tail {n : Int} {t : Nat} {X : Nat → Nat} (h : cond (!finB t) true (!isPicB n X) = false) {j : Nat} (hj : j < 64) (hle : n.toNat * n.toNat ≤ j) : fint (mulX t X j) = some 0 := by
  cases ht : finB t with
  | false => rw [ht] at h; cases h
  | true =>
    rw [ht] at h
    have hp : isPicB n X = true := by simpa using h
    obtain ⟨a, ha, _, a0⟩ := pic_fint hp hj
    have e1 := a0 hle
    subst e1
    obtain ⟨b, hb⟩ := finB_iff.1 ht
    exact fmul_zero hb ha
theorem sca_ok (f : FuncId) (hf : f = 43 ∨ f = 44) (t : Nat) (n : Int) (X : Nat → Nat) (H : List AB) : CallOK Tryz.prog f [.f false .f32 t, pv n X] H (pcR n (scaC t n X) (mulX t X)) H := by
  have hlow : ∀ l, belowL 0 [.f false .f32 t, pvT l n X] = true := fun l => by simp [belowL, below, pvT_low]
  cases hs : sideB n with
  | false =>
    have e : scaC t n X = 1 := by unfold scaC; rw [noSide_pic hs]; cases finB t <;> rfl
    have hnd : allT [cond (!!finB t) (!sideB n) true] = true := by rw [hs]; cases finB t <;> rfl
    rcases hf with rfl | rfl
    · exact ((call_of_join (args := [.f false .f32 t, pvT false n X]) tabPn_sound (n43 n X t) hnd (hlow _) H).deep (args' := [.f false .f32 t, pv n X]) rfl).weaken fun σ x r => zPV_rel e (by decide) r
    · exact ((call_of_join (args := [.f false .f32 t, pvT false n X]) tabPn_sound (n44 n X t) hnd (hlow _) H).deep (args' := [.f false .f32 t, pv n X]) rfl).weaken fun σ x r => zPV_rel e (by decide) r
  | true =>
    have hd := side_cases hs
    rcases hf with rfl | rfl
    · have k := (call_of_join (args := [.f false .f32 t, pvT true n X]) tabPc_sound (p43 _ n hd X t) rfl (hlow _) H).deep (args' := [.f false .f32 t, pv n X]) rfl
      unfold gN at k
      rw [isPicB_re, isPicB_re] at k
      exact k.weaken fun σ x r => iPV_rel (fun α a b => sel3_sel (by decide) (by decide) (by decide) α a b) r
    · have k := (call_of_join (args := [.f false .f32 t, pvT true n X]) tabPc_sound (p44 _ n hd X t) rfl (hlow _) H).deep (args' := [.f false .f32 t, pv n X]) rfl
      unfold gN at k
      rw [isPicB_re, isPicB_re] at k
      have e : scaC t n X = sel3 (cond (!finB t) true (!isPicB n X)) (flt .f32 t 0) (!isPicB n (mulX t X)) 1 2 3 0 := by
        unfold scaC
        cases hc : cond (!finB t) true (!isPicB n X) with
        | true => rfl
        | false => rw [cut_pic fun j hj hle => mul_tail hc hj hle]
      rw [e]
      exact k.weaken fun σ x r => sPV_rel (fun α a b => sel3_sel (by decide) (by decide) (by decide) α a b) (fun hc j hj hle => zero_plus (mul_tail (sel3_zero (by decide) (by decide) (by decide) hc).1 hj hle)) r
end Go.Ax

/- Pictures over their greatest level, negatives, thresholds: calls. -/
namespace Go.Ax
open Go Go.Proofs

theorem side_N {n : Int} (hs : sideB n = true) : 1 ≤ n.toNat * n.toNat ∧ n.toNat * n.toNat ≤ 64 := by
  rcases sideB_iff.1 hs with rfl | rfl | rfl | rfl <;> simp
theorem pic_side {n : Int} {X : Nat → Nat} (h : isPicB n X = true) : sideB n = true := sideB_iff.2 (isPicB_iff.1 h).1
/-- The greatest level, and what is known of it. -/
theorem top_of {n : Int} {X : Nat → Nat} (h : isPicB n X = true) : ∃ v : Int, 0 ≤ v ∧ fint (topI X (n.toNat * n.toNat - 1)) = some v ∧ fint (topS X (n.toNat * n.toNat - 1)) = some v ∧ (v ≠ 0 → topI X (n.toNat * n.toNat - 1) = topS X (n.toNat * n.toNat - 1)) ∧ (∀ j a, j < 64 → fint (X j) = some a → a ≤ v) ∧ ∃ j, j < n.toNat * n.toNat ∧ fint (X j) = some v := by
  obtain ⟨h1, h2⟩ := side_N (pic_side h)
  obtain ⟨v, v0, e1, e2, e3, e4, j0, j1, j2⟩ := top_rel h (n.toNat * n.toNat - 1) (by omega)
  refine ⟨v, v0, e1, e2, e3, fun j a hj ha => ?_, j0, by omega, j2⟩
  rcases Nat.lt_or_ge j (n.toNat * n.toNat) with h3 | h3
  · exact e4 j a (by omega) ha
  · obtain ⟨b, hb, _, b0⟩ := pic_fint h hj
    have := b0 h3
    rw [ha] at hb
    cases hb
    omega
theorem tcC_zero {n : Int} {X : Nat → Nat} (h : eqQ false (tcC (isPicB n X) (n.toNat * n.toNat) X) 0 = true) : isPicB n X = true ∧ feq .f32 (topI X (n.toNat * n.toNat - 1)) 0 = false := by
  rw [eqQ_eq, beq_iff_eq] at h
  unfold tcC at h
  cases hg : isPicB n X with
  | false => rw [hg] at h; cases h
  | true =>
    rw [hg] at h
    cases hf : feq .f32 (topI X (n.toNat * n.toNat - 1)) 0 with
    | true => rw [hf] at h; cases h
    | false => exact ⟨rfl, rfl⟩
/-- Quotients by the greatest level. -/
theorem quo_fint {n : Int} {X : Nat → Nat} (h : eqQ false (tcC (isPicB n X) (n.toNat * n.toNat) X) 0 = true) {j : Nat} (hj : j < 64) : ∃ w : Nat, fint (quoX X (topI X (n.toNat * n.toNat - 1)) j) = some (w : Int) ∧ w ≤ 2 ^ 149 ∧ (n.toNat * n.toNat ≤ j → w = 0) ∧ (fint (X j) = fint (topI X (n.toNat * n.toNat - 1)) → w = 2 ^ 149) := by
  obtain ⟨hp, hf⟩ := tcC_zero h
  obtain ⟨v, v0, e1, _, _, e4, _⟩ := top_of hp
  rw [feq_zero_fint e1] at hf
  have hv : v ≠ 0 := by simpa using hf
  obtain ⟨a, ha, a0, az⟩ := pic_fint hp hj
  obtain ⟨w, w1, w2, w3, w4⟩ := fdiv_le ha e1 a0 (e4 j a hj ha) (by omega)
  refine ⟨w, w1, w2, fun hle => w4 (az hle), fun he => w3 ?_⟩
  rw [ha, e1] at he
  exact Option.some.inj he
theorem nat_pic {n : Int} {Z : Nat → Nat} (hs : sideB n = true) (h : ∀ j, j < 64 → ∃ w : Nat, fint (Z j) = some (w : Int) ∧ (n.toNat * n.toNat ≤ j → w = 0)) : isPicB n Z = true := by
  refine isPicB_iff.2 ⟨sideB_iff.1 hs, fun j hj => ?_⟩
  obtain ⟨w, w1, w2⟩ := h j hj
  refine ⟨finB_iff.2 ⟨_, w1⟩, ?_, fun hle => ?_⟩
  · rw [flt_fint w1 fint_zero]; simp
  · rw [feq_zero_fint w1, w2 hle]; rfl
theorem quo_pic {n : Int} {X : Nat → Nat} (h : eqQ false (tcC (isPicB n X) (n.toNat * n.toNat) X) 0 = true) : isPicB n (quoX X (topI X (n.toNat * n.toNat - 1))) = true :=
  nat_pic (pic_side (tcC_zero h).1) fun j hj => by
    obtain ⟨w, w1, _, w2, _⟩ := quo_fint h hj
    exact ⟨w, w1, w2⟩
theorem quo_tail {n : Int} {X : Nat → Nat} (h : eqQ false (tcC (isPicB n X) (n.toNat * n.toNat) X) 0 = true) {j : Nat} (hj : j < 64) (hle : n.toNat * n.toNat ≤ j) : fint (quoX X (topI X (n.toNat * n.toNat - 1)) j) = some 0 := by
  obtain ⟨w, w1, _, w2, _⟩ := quo_fint h hj
  rw [w2 hle] at w1
  exact w1
noncomputable def norC (n : Int) (X : Nat → Nat) : Int := tcC (isPicB n X) (n.toNat * n.toNat) X
theorem nor_ok (f : FuncId) (hf : f = 37 ∨ f = 38) (n : Int) (X : Nat → Nat) (H : List AB) : CallOK Tryz.prog f [pv n X] H (pcR n (norC n X) (quoX X (topI X (n.toNat * n.toNat - 1)))) H := by
  have hlow : ∀ l, belowL 0 [pvT l n X] = true := fun l => by simp [belowL, pvT_low]
  cases hs : sideB n with
  | false =>
    have e : norC n X = 1 := by unfold norC tcC; rw [noSide_pic hs]; rfl
    rcases hf with rfl | rfl
    · exact ((call_of_join (args := [pvT false n X]) tabPn_sound (n37 n X) (by simp [allT, hs]) (hlow _) H).deep (args' := [pv n X]) rfl).weaken fun σ x r => zPV_rel e (by decide) r
    · exact ((call_of_join (args := [pvT false n X]) tabPn_sound (n38 n X) (by simp [allT, hs]) (hlow _) H).deep (args' := [pv n X]) rfl).weaken fun σ x r => zPV_rel e (by decide) r
  | true =>
    have hd := side_cases hs
    rcases hf with rfl | rfl
    · have k := (call_of_join (args := [pvT true n X]) tabPc_sound (p37 _ n hd X) rfl (hlow _) H).deep (args' := [pv n X]) rfl
      unfold gN at k
      rw [isPicB_re, isPicB_re] at k
      have e : norC n X = limC (tcC (isPicB n X) (n.toNat * n.toNat) X) (isPicB n (cut (n.toNat * n.toNat) (quoX X (topI X (n.toNat * n.toNat - 1))))) := by
        unfold norC
        cases hc : eqQ false (tcC (isPicB n X) (n.toNat * n.toNat) X) 0 with
        | false => unfold limC; rw [hc]; rfl
        | true =>
          rw [cut_pic fun j hj hle => quo_tail hc hj hle, quo_pic hc]
          unfold limC; rw [hc]
          rw [eqQ_eq, beq_iff_eq] at hc
          exact hc
      rw [e]
      exact k.weaken fun σ x r => iPV_rel (fun α a b => lim_sel _ _ α a b) r
    · have k := (call_of_join (args := [pvT true n X]) tabPc_sound (p38 _ n hd X) rfl (hlow _) H).deep (args' := [pv n X]) rfl
      unfold gN at k
      rw [isPicB_re, isPicB_re] at k
      cases hg : isPicB n X with
      | false =>
        rw [hg] at k
        have e : norC n X = 1 := by unfold norC tcC; rw [hg]; rfl
        rw [e]
        refine k.weaken fun σ x r => ?_
        have r2 := sPV_rel (n := n) (c := 1) (Z := quoX X (topS X (n.toNat * n.toNat - 1))) (sel := fun _ a b => sel3 (!false) (feq .f32 (topS X (n.toNat * n.toNat - 1)) 0) (!isPicB n (quoX X (topS X (n.toNat * n.toNat - 1)))) a a a b) (fun α a b => rfl) (fun h => by cases h) r
        exact r2
      | true =>
        obtain ⟨v, v0, e1, e2, e3, _, _⟩ := top_of hg
        rw [hg] at k
        have ef : feq .f32 (topS X (n.toNat * n.toNat - 1)) 0 = feq .f32 (topI X (n.toNat * n.toNat - 1)) 0 := by rw [feq_zero_fint e1, feq_zero_fint e2]
        rw [ef] at k
        cases hz : feq .f32 (topI X (n.toNat * n.toNat - 1)) 0 with
        | true =>
          have e : norC n X = 5 := by unfold norC tcC; rw [hg, hz]; rfl
          rw [hz] at k
          rw [e]
          refine k.weaken fun σ x r => ?_
          exact sPV_rel (n := n) (c := 5) (Z := quoX X (topS X (n.toNat * n.toNat - 1))) (sel := fun _ a b => sel3 (!true) true (!isPicB n (quoX X (topS X (n.toNat * n.toNat - 1)))) a a a b) (fun α a b => rfl) (fun h => by cases h) r
        | false =>
          have hv : v ≠ 0 := by rw [feq_zero_fint e1] at hz; simpa using hz
          have hc : eqQ false (tcC (isPicB n X) (n.toNat * n.toNat) X) 0 = true := by unfold tcC; rw [hg, hz]; rfl
          have e : norC n X = 0 := by unfold norC tcC; rw [hg, hz]; rfl
          rw [hz, ← e3 hv, quo_pic hc] at k
          rw [e]
          refine k.weaken fun σ x r => ?_
          exact sPV_rel (n := n) (c := 0) (sel := fun _ a b => sel3 (!true) false (!true) a a a b) (fun α a b => rfl) (fun _ j hj hle => zero_plus (quo_tail hc hj hle)) r
end Go.Ax

/- Negatives and thresholds of pictures: calls. -/
namespace Go.Ax
open Go Go.Proofs

theorem lt_bltP {a b : Nat} (h : a < b) : Nat.blt a b = true := by
  cases hb : Nat.blt a b with
  | true => rfl
  | false => have := blt_false hb; omega
theorem pcR_congr {n c : Int} {Z Z' : Nat → Nat} (h : ∀ j, j < n.toNat * n.toNat → Z j = Z' j) : pcR n c Z = pcR n c Z' := by
  have e : pcX n c Z = pcX n c Z' := funext fun j => by
    unfold pcX
    cases eqQ false c 0 with
    | false => rfl
    | true =>
      cases hb : Nat.blt j (n.toNat * n.toNat) with
      | false => rfl
      | true => simp only [Bool.and_self]; rw [h j (blt_true hb)]
  unfold pcR
  rw [e]
noncomputable def pBad (n : Int) (X : Nat → Nat) (t : Nat) : Bool := cond (!isPicB n X) true (!finB t)
theorem pBad_no {n : Int} {X : Nat → Nat} {t : Nat} (h : pBad n X t = false) : isPicB n X = true ∧ ∃ a, fint t = some a := by
  unfold pBad at h
  cases hg : isPicB n X with
  | false => rw [hg] at h; cases h
  | true => rw [hg] at h; exact ⟨rfl, finB_iff.1 (by simpa using h)⟩
noncomputable def negC (n : Int) (X : Nat → Nat) (t : Nat) : Int := cond (pBad n X t) 1 (cond (flt .f32 t (topI X (n.toNat * n.toNat - 1))) 2 0)
theorem flt_top {n : Int} {X : Nat → Nat} {t : Nat} (h : pBad n X t = false) : flt .f32 t (topS X (n.toNat * n.toNat - 1)) = flt .f32 t (topI X (n.toNat * n.toNat - 1)) := by
  obtain ⟨hp, a, ha⟩ := pBad_no h
  obtain ⟨v, _, e1, e2, _⟩ := top_of hp
  rw [flt_fint ha e1, flt_fint ha e2]
theorem neg_pic {n : Int} {X : Nat → Nat} {t : Nat} (h : pBad n X t = false) (hl : flt .f32 t (topI X (n.toNat * n.toNat - 1)) = false) : isPicB n (cut (n.toNat * n.toNat) (negX t X)) = true := by
  obtain ⟨hp, a, ha⟩ := pBad_no h
  obtain ⟨v, v0, e1, _, _, e4, _⟩ := top_of hp
  rw [flt_fint ha e1] at hl
  have hva : v ≤ a := by simpa using hl
  refine nat_pic (pic_side hp) fun j hj => ?_
  rw [cut_at]
  cases hb : Nat.blt j (n.toNat * n.toNat) with
  | false => exact ⟨0, fint_zero, fun _ => rfl⟩
  | true =>
    obtain ⟨b, hb', b0, _⟩ := pic_fint hp hj
    obtain ⟨w, w1, _⟩ := fsub_le ha hb' b0 (Int.le_trans (e4 j b hj hb') hva)
    exact ⟨w, w1, fun hle => by have := blt_true hb; omega⟩
theorem sel2_sel {p q : Bool} {x y : Int} (hx : x ≠ 0) (hy : y ≠ 0) (α : Type) (a b : α) : cond p a (cond q a b) = cond (eqQ false (cond p x (cond q y 0)) 0) b a := by
  have e : ∀ k : Int, k ≠ 0 → eqQ false k 0 = false := fun k hk => by rw [eqQ_eq]; simpa using hk
  cases p
  · cases q
    · rfl
    · simp only [cond_false, cond_true]; rw [e y hy]; rfl
  · simp only [cond_true]; rw [e x hx]; rfl
theorem neg_ok (f : FuncId) (hf : f = 49 ∨ f = 50) (n : Int) (X : Nat → Nat) (t : Nat) (H : List AB) : CallOK Tryz.prog f [pv n X, .f false .f32 t] H (pcR n (negC n X t) (negX t X)) H := by
  have hlow : ∀ l, belowL 0 [pvT l n X, .f false .f32 t] = true := fun l => by simp [belowL, below, pvT_low]
  cases hs : sideB n with
  | false =>
    have e : negC n X t = 1 := by unfold negC pBad; rw [noSide_pic hs]; rfl
    rcases hf with rfl | rfl
    · exact ((call_of_join (args := [pvT false n X, .f false .f32 t]) tabPn_sound (n49 n X t) (by simp [allT, hs]) (hlow _) H).deep (args' := [pv n X, .f false .f32 t]) rfl).weaken fun σ x r => zPV_rel e (by decide) r
    · exact ((call_of_join (args := [pvT false n X, .f false .f32 t]) tabPn_sound (n50 n X t) (by simp [allT, hs]) (hlow _) H).deep (args' := [pv n X, .f false .f32 t]) rfl).weaken fun σ x r => zPV_rel e (by decide) r
  | true =>
    have hd := side_cases hs
    rcases hf with rfl | rfl
    · have k := (call_of_join (args := [pvT true n X, .f false .f32 t]) tabPc_sound (p49 _ n hd X t) rfl (hlow _) H).deep (args' := [pv n X, .f false .f32 t]) rfl
      unfold gN at k
      rw [isPicB_re, isPicB_re] at k
      have e : negC n X t = sel3 (pBad n X t) (flt .f32 t (topI X (n.toNat * n.toNat - 1))) (!isPicB n (cut (n.toNat * n.toNat) (negX t X))) 1 2 3 0 := by
        unfold negC sel3
        cases hb : pBad n X t with
        | true => rfl
        | false =>
          cases hl : flt .f32 t (topI X (n.toNat * n.toNat - 1)) with
          | true => rfl
          | false => rw [neg_pic hb hl]; rfl
      rw [e]
      exact k.weaken fun σ x r => iPV_rel (fun α a b => sel3_sel (by decide) (by decide) (by decide) α a b) r
    · have k := (call_of_join (args := [pvT true n X, .f false .f32 t]) tabPc_sound (p50 _ n hd X t) rfl (hlow _) H).deep (args' := [pv n X, .f false .f32 t]) rfl
      unfold gN at k
      rw [isPicB_re] at k
      have e : negC n X t = cond (pBad n X t) 1 (cond (flt .f32 t (topS X (n.toNat * n.toNat - 1))) 2 0) := by
        unfold negC
        cases hb : pBad n X t with
        | true => rfl
        | false => rw [flt_top hb]
      have eZ : pcR n (negC n X t) (negX t X) = pcR n (negC n X t) (keepX (n.toNat * n.toNat) (negX t X) X) := pcR_congr fun j hj => by
        unfold keepX
        rw [ble_blt, lt_bltP hj]; rfl
      rw [eZ, e]
      refine k.weaken fun σ x r => sPV_rel (fun α a b => sel2_sel (by decide) (by decide) α a b) (fun hc j hj hle => ?_) r
      have hb : pBad n X t = false := by
        cases hb : pBad n X t with
        | false => rfl
        | true => rw [hb] at hc; cases hc
      obtain ⟨hp, _⟩ := pBad_no hb
      obtain ⟨a, ha, _, a0⟩ := pic_fint hp hj
      have hk : keepX (n.toNat * n.toNat) (negX t X) X j = X j := by
        unfold keepX
        rw [Nat.ble_eq_true_of_le hle]
      rw [hk]
      have := a0 hle
      subst this
      exact zero_plus ha
/-! ### Thresholds -/
noncomputable def thrY (n : Int) (X : Nat → Nat) (t j : Nat) : Nat × Nat := match !pBad n X t && Nat.blt j (n.toNat * n.toNat) with
  | true => (plusF (bit (thrB X t) j), plusF (zer (thrB X t) j))
  | false => (0, 0)
noncomputable def thrR (n : Int) (X : Nat → Nat) (t : Nat) : AV := .tup [wv (cond (pBad n X t) 0 n) (thrY n X t), .i false .i64 (cond (pBad n X t) 1 0)]
theorem thr_rel {n : Int} {X : Nat → Nat} {t : Nat} {σ : List (Nat × Nat)} {x : Value} (r : Rel σ (mkC (n.toNat * n.toNat) n (pBad n X t) (bit (thrB X t)) (zer (thrB X t)) (cond (pBad n X t) 1 0)) x) : Rel σ (thrR n X t) x := by
  unfold mkC at r
  refine tup2_weak (l' := waveL (cond (pBad n X t) 0 n) (thrY n X t)) (c' := .i false .i64 (cond (pBad n X t) 1 0)) ?_ rfl r
  simp only [waveL, List.map_cons, List.map_map, AV.bare]
  congr 1
  apply List.map_congr_left
  intro j _
  simp only [Function.comp, cx, thrY]
  rw [ble_blt]
  cases hb : Nat.blt j (n.toNat * n.toNat) with
  | false => simp [AV.bare]
  | true => cases pBad n X t <;> simp [AV.bare, plus_zero]
theorem thr_ok (f : FuncId) (hf : f = 52 ∨ f = 53) (n : Int) (X : Nat → Nat) (t : Nat) (H : List AB) : CallOK Tryz.prog f [pv n X, .f false .f32 t] H (thrR n X t) H := by
  have hlow : ∀ l, belowL 0 [pvT l n X, .f false .f32 t] = true := fun l => by simp [belowL, below, pvT_low]
  cases hs : sideB n with
  | false =>
    have e : pBad n X t = true := by unfold pBad; rw [noSide_pic hs]; rfl
    have fin : ∀ σ x, Rel σ (zeroV 1) x → Rel σ (thrR n X t) x := fun σ x r => by
      have h := zero_wave (n := cond (pBad n X t) 0 n) (X := thrY n X t) (c := 1) (fun j => by simp [thrY, e]) (by rw [e]; rfl) r
      unfold thrR
      rw [e] at h ⊢
      exact h
    rcases hf with rfl | rfl
    · exact ((call_of_join (args := [pvT false n X, .f false .f32 t]) tabPn_sound (n52 n X t) (by simp [allT, hs]) (hlow _) H).deep (args' := [pv n X, .f false .f32 t]) rfl).weaken fin
    · exact ((call_of_join (args := [pvT false n X, .f false .f32 t]) tabPn_sound (n53 n X t) (by simp [allT, hs]) (hlow _) H).deep (args' := [pv n X, .f false .f32 t]) rfl).weaken fin
  | true =>
    have hd := side_cases hs
    rcases hf with rfl | rfl
    · have k := (call_of_join (args := [pvT true n X, .f false .f32 t]) tabPc_sound (p52 _ n hd X t) rfl (hlow _) H).deep (args' := [pv n X, .f false .f32 t]) rfl
      unfold gN at k
      rw [isPicB_re] at k
      exact k.weaken fun σ x r => thr_rel r
    · have k := (call_of_join (args := [pvT true n X, .f false .f32 t]) tabPc_sound (p53 _ n hd X t) rfl (hlow _) H).deep (args' := [pv n X, .f false .f32 t]) rfl
      unfold gN at k
      rw [isPicB_re] at k
      exact k.weaken fun σ x r => thr_rel r
end Go.Ax

/- Regions of open order in which several variables are made, and the first of them is written, among operations that leave memory alone. -/
namespace Go.Ax
open Go

section
variable {P : Program} {T : Table} {ops : Array Oper} {m : Nat}

/-- An operation that writes the first of the new blocks. -/
def SVal (P : Program) (ops : Array Oper) (f : Nat) (t : List AV) (H : List AB) (B0 : AB) (v : AV) (B1 : AB) : Prop :=
  ∃ o, ops[f]? = some o ∧ ∀ (σ : List (Nat × Nat)) (x : Nat × Nat) (w : World) (a : Act) (Q : Exit → Act → World → Prop) (next : Act → World → Prop), Sim (σ ++ [x]) (H ++ [B0]) w → σ.length = H.length →
    (∀ n ∈ looks ops o, Rel (σ ++ [x]) (getL t n) (a.tmps.getD n undef)) → a.tmps.size = t.length →
    (∀ rv w', Rel (σ ++ [x]) v rv → Sim (σ ++ [x]) (H ++ [B1]) w' → Fr (σ ++ [x]) (H ++ [B0]) w (σ ++ [x]) (H ++ [B1]) w' → next (a.put o.dst rv) w') → wpOp P ops Q f next a w
/-- What the new blocks hold: the first of them once it has been written. -/
noncomputable def curB (B : Nat → AB) (B1 : AB) (on : Bool) (k : Nat) : AB := if k = 0 ∧ on = true then B1 else B k
theorem curB_off (B : Nat → AB) (B1 : AB) : curB B B1 false = B := funext fun k => by simp [curB]
theorem Boxed.stored {σ : List (Nat × Nat)} {H : List AB} {K : Nat} {B B' : Nat → AB} {B1 : AB} {ps : Nat → Nat × Nat} {made : Nat → Prop} {w0 w w' : World} (b : Boxed σ H K B ps made w0 w) (s0 : Sim σ H w0) (hlow : lowH H.length H = true) (hK : 0 < K) (hm : made 0) (hBl : lowB H.length B1 = true)
    (s' : Sim (σ ++ [ps 0]) (H ++ [B1]) w') (f : Fr (σ ++ [ps 0]) (H ++ [B 0]) w (σ ++ [ps 0]) (H ++ [B1]) w') (h0 : B' 0 = B1) (hB' : ∀ k, k ≠ 0 → B' k = B k) : Boxed σ H K B' ps made w0 w' := by
  have hlen : σ.length = H.length := b.s.len
  have hx0 : (σ ++ [ps 0])[σ.length]? = some (ps 0) := by simp
  have hgB1 : getB (H ++ [B1]) σ.length = B1 := by rw [getB_append_right (by omega), hlen, Nat.sub_self]; rfl
  have hkeep : ∀ c, c < w.heap.size → (∀ i z, (getB H i).rw = true → σ[i]? ≠ some (c, z)) → c ≠ (ps 0).1 → w'.heap[c]? = w.heap[c]? := fun c hc hno hne => by
    refine f.old c hc fun i z hr hi => ?_
    rcases Nat.lt_or_ge i σ.length with h | h
    · rw [List.getElem?_append_left h] at hi
      rw [getB_append_left (by omega)] at hr
      exact hno i z hr hi
    · have hlt := isSome_lt hi
      simp only [List.length_append, List.length_cons, List.length_nil] at hlt
      have : i = σ.length := by omega
      subst this
      rw [hx0] at hi
      have h1 : ps 0 = (c, z) := Option.some.inj hi
      exact hne (by rw [h1])
  have hnew := b.new 0 hK hm
  refine ⟨s'.less hlow, ⟨f.os.trans b.fr.os, f.tape.trans b.fr.tape, f.output.trans b.fr.output, Nat.le_trans b.fr.size f.size, fun c hc hno => ?_, Ext.refl _, fun i b z h h' => (by rw [h'] at h; cases h), fun _ _ h => h⟩, b.new, fun k hk h => Nat.lt_of_lt_of_le (b.lt k hk h) f.size, fun k hk h => ?_, b.ne⟩
  · rw [hkeep c (Nat.lt_of_lt_of_le hc b.fr.size) hno (by omega)]
    exact b.fr.old c hc hno
  · by_cases hk0 : k = 0
    · subst hk0
      rw [h0]
      have := s'.blk σ.length _ _ hx0
      rw [hgB1] at this
      exact low_blk (Ext.append σ [ps 0]) hlen hBl this
    · rw [hB' k hk0, hkeep _ (b.lt k hk h) (fun i z hr hi => ?_) (fun he => hk0 (b.ne k 0 hk hK h hm he))]
      · exact b.blk k hk h
      · have h1 := s0.lt hi (rw_live hr)
        have h2 := b.new k hk h
        omega
/-- The first operations, in any order: K of them make a variable each, and the first of these is written. -/
theorem any_boxes2 (hok : drawOK ops m = true) (hmn : m ≤ ops.size) {f : Nat} {K : Nat} {E : Nat → Nat} {B : Nat → AB} (hE : ∀ k, k < K → E k < m) (hinj : ∀ k k', k < K → k' < K → E k = E k' → k = k') {t t' : List AV} {H H' : List AB} {val : Nat → AV}
    (hv : ∀ i, i < m → (∀ k, k < K → E k ≠ i) → i ≠ f → QVal P ops i (stAt ops val t 0 i) H (val i)) (hb : ∀ k, k < K → BVal P ops (E k) H (.p true H.length 0) (B k)) (hK : 0 < K) (hfm : f < m) (hfE : ∀ k, k < K → E k ≠ f) (hfa : aheadOf ops 10 f (E 0) = true) {B1 : AB} (hB1 : B1.live = true ∧ lowB H.length B1 = true) (hsv : SVal P ops f (stAt ops val t 0 f) H (B 0) (val f) B1) (hve : ∀ k, k < K → val (E k) = .p true (H.length + k) 0)
    (hlk : ∀ i, i < m → (∀ k, k < K → E k ≠ i) → ∀ o, ops[i]? = some o → ∀ n ∈ looks ops o, ∀ k, k < K → (i ≠ f ∨ k ≠ 0) → gDst ops (E k) ≠ some n) (hvf : below H.length (val f) = true) (hlow : lowH H.length H = true) (hlive : ∀ k, k < K → (B k).live = true ∧ lowB H.length (B k) = true)
    (c : Chain P ops m (stAt ops val t 0 m) (H ++ (List.range K).map (curB B B1 true)) ops.size t' H') {Q : Exit → Act → World → Prop} {σ : List (Nat × Nat)} {w0 : World} (s0 : Sim σ H w0) :
    ∀ (fuel : Nat) (listed : Array Bool) (a : Act) (w : World) (ps : Nat → Nat × Nat), listed.size = ops.size → Down ops listed →
      (left ops listed).length ≤ fuel → (∀ i, m ≤ i → ¬ Ls listed i) → Boxed σ H K (curB B B1 (listed.getD f false)) ps (fun k => Ls listed (E k)) w0 w → a.tmps.size = t.length →
      (∀ x, (∀ i, i < m → Ls listed i → gDst ops i = some x → x < t.length → (∀ k, k < K → E k = i → a.tmps.getD x undef = .pointer (some ⟨(ps k).1, 0, none⟩)) ∧ ((∀ k, k < K → E k ≠ i) → Rel σ (val i) (a.tmps.getD x undef))) ∧
        ((∀ i, i < m → Ls listed i → gDst ops i ≠ some x) → Rel σ (getL t x) (a.tmps.getD x undef))) →
      (∀ a' w' σ', RelL σ' t' a'.tmps.toList → a'.defers = a.defers → Sim σ' H' w' → Fr σ H w0 σ' H' w' → Q .normal a' w') → wpAny P .any ops Q fuel listed a w := by
  have hdist : ∀ i i', i < m → i' < m → i' ≠ i → ∀ x, gDst ops i = some x → gDst ops i' ≠ some x := fun i i' hi hi' hne x hx => by
    have hoi : ops[i]? = some ops[i] := Array.getElem?_eq_getElem (by omega)
    have hd : ops[i].dst = some x := by simpa [gDst, hoi] using hx
    exact ((drawOK_spec hok i _ hoi).2.1 hi).2 i' hi' hne x hd
  have htail : ∀ (fuel : Nat) (listed : Array Bool) (a : Act) (w : World) (ps : Nat → Nat × Nat), listed.size = ops.size → Down ops listed →
      (left ops listed).length ≤ fuel → (∀ i, m ≤ i → ¬ Ls listed i) → (∀ i, i < m → Ls listed i) → Boxed σ H K (curB B B1 (listed.getD f false)) ps (fun k => Ls listed (E k)) w0 w → a.tmps.size = t.length →
      (∀ x, (∀ i, i < m → Ls listed i → gDst ops i = some x → x < t.length → (∀ k, k < K → E k = i → a.tmps.getD x undef = .pointer (some ⟨(ps k).1, 0, none⟩)) ∧ ((∀ k, k < K → E k ≠ i) → Rel σ (val i) (a.tmps.getD x undef))) ∧
        ((∀ i, i < m → Ls listed i → gDst ops i ≠ some x) → Rel σ (getL t x) (a.tmps.getD x undef))) →
      (∀ a' w' σ', RelL σ' t' a'.tmps.toList → a'.defers = a.defers → Sim σ' H' w' → Fr σ H w0 σ' H' w' → Q .normal a' w') → wpAny P .any ops Q fuel listed a w := by
    intro fuel listed a w ps hsz hd hf hnm hall hbx hat hx q
    have hfl : listed.getD f false = true := hall f hfm
    rw [hfl] at hbx
    obtain ⟨sa, fa⟩ := hbx.all s0 fun k hk => hall _ (hE k hk)
    have hext : Ext σ (σ ++ (List.range K).map ps) := Ext.append σ _
    have hlen : σ.length = H.length := s0.len
    refine any_tail hok fuel listed m _ _ _ a w hsz hd hf (Nat.le_refl _) (fun i hi => ⟨fun h => ?_, fun h => hall i h⟩) c sa ?_ fun a2 w2 σ2 r2 d2 s2 f2 => q a2 w2 σ2 r2 d2 s2 (fa.trans f2)
    · rcases Nat.lt_or_ge i m with h' | h'
      · exact h'
      · exact absurd h (hnm i h')
    · refine RelL.of_get (by rw [stAt_length]; simpa using hat.symm) fun x b y hb hy => ?_
      have hxl : x < t.length := by
        rcases Nat.lt_or_ge x t.length with h' | h'
        · exact h'
        · rw [List.getElem?_eq_none (by rw [stAt_length]; exact h')] at hb; cases hb
      have hb' : b = getL (stAt ops val t 0 m) x := by
        rw [getL_some (by rw [stAt_length]; exact hxl)] at hb; cases hb; rfl
      have hy' : a.tmps.getD x undef = y := by
        have : a.tmps[x]? = some y := by simpa using hy
        rw [Array.getD_eq_getD_getElem?, this]; rfl
      subst hb'
      rw [← hy']
      by_cases hex : ∃ i, i < m ∧ gDst ops i = some x
      · obtain ⟨i, hi, hgi⟩ := hex
        rw [stAt_val ops val m 0 t i (by omega) (by omega) hgi hxl (fun i' _ h2 h3 => hdist i i' hi (by omega) h3 x hgi)]
        have h0 := (hx x).1 i hi (hall i hi) hgi hxl
        by_cases hk : ∃ k, k < K ∧ E k = i
        · obtain ⟨k, hk, rfl⟩ := hk
          rw [h0.1 k hk rfl, hve k hk, ← hlen]
          exact .p (range_get σ K ps hk)
        · exact (h0.2 fun k hk' he => hk ⟨k, hk', he⟩).mono hext
      · have hno : ∀ i, i < m → gDst ops i ≠ some x := fun i hi hg => hex ⟨i, hi, hg⟩
        rw [stAt_untouched ops val m 0 t (fun i _ h2 => hno i (by omega))]
        exact ((hx x).2 fun i hi _ => hno i hi).mono hext
  intro fuel
  induction fuel with
  | zero =>
    intro listed a w ps hsz hd hf hnm hbx hat hx q
    refine htail 0 listed a w ps hsz hd hf hnm (fun i hi => ?_) hbx hat hx q
    apply Classical.byContradiction
    intro hn
    have : i ∈ left ops listed := mem_left.2 ⟨by omega, hn⟩
    have := List.length_pos_of_mem this
    omega
  | succ fuel ih =>
    intro listed a w ps hsz hd hf hnm hbx hat hx q
    by_cases hall : ∀ i, i < m → Ls listed i
    · exact htail _ listed a w ps hsz hd hf hnm hall hbx hat hx q
    refine ⟨fun hr => ?_, fun j hj => ?_⟩
    · exfalso
      apply hall
      intro i hi
      apply Classical.byContradiction
      intro hn
      obtain ⟨y, hy⟩ := ready_some hok hsz i (by omega) hn
      rw [hr] at hy; cases hy
    · obtain ⟨hnl, o, ho, hafter⟩ := (mem_ready' hsz).1 hj
      have hjs := (Array.getElem?_eq_some_iff.1 ho).1
      have hjm : j < m := by
        rcases Nat.lt_or_ge j m with h | h
        · exact h
        · exfalso
          apply hall
          intro i hi
          exact ahead_ready hd hsz hj ((drawOK_spec hok j o ho).2.2 h i (by omega))
      have hdst : gDst ops j = o.dst := by simp [gDst, ho]
      -- behind the operation
      have hnext : ∀ (ps2 : Nat → Nat × Nat) (rv : Value) (w' : World), Boxed σ H K (curB B B1 ((listed.setIfInBounds j true).getD f false)) ps2 (fun k => Ls (listed.setIfInBounds j true) (E k)) w0 w' → (∀ k, k < K → E k ≠ j → Ls listed (E k) → ps2 k = ps k) →
          ((∀ k, k < K → E k = j → rv = .pointer (some ⟨(ps2 k).1, 0, none⟩)) ∧ ((∀ k, k < K → E k ≠ j) → Rel σ (val j) rv)) → wpAny P .any ops Q fuel (listed.setIfInBounds j true) (a.put o.dst rv) w' := fun ps2 rv w' hbx' hsame hrv => by
        refine ih (listed.setIfInBounds j true) (a.put o.dst rv) w' ps2 (by simpa using hsz) (hd.set hsz hj) ?_ (fun i hi => ?_) hbx' ?_ (fun x => ⟨fun i hi hli hgi hxl => ?_, fun hno => ?_⟩) fun a2 w2 σ3 r2 d2 s2 f2 => q a2 w2 σ3 r2 (d2.trans (put_defers _ _ _)) s2 f2
        · have := left_set hjs hsz hnl; omega
        · rw [Ls_set (by omega)]; rintro (rfl | h)
          · omega
          · exact hnm i hi h
        · cases o.dst <;> simp [Act.put, hat]
        · rw [Ls_set (by omega)] at hli
          by_cases hij : i = j
          · subst hij
            rw [hdst] at hgi
            rw [hgi]
            simp only [Act.put]
            rw [Array.getD_eq_getD_getElem?, Array.getElem?_setIfInBounds_self_of_lt (by omega)]
            exact hrv
          · have hne : o.dst ≠ some x := by rw [← hdst]; exact hdist i j hi hjm (Ne.symm hij) x hgi
            have : (a.put o.dst rv).tmps.getD x undef = a.tmps.getD x undef := by
              cases hod : o.dst with
              | none => rfl
              | some d =>
                have hdx : d ≠ x := fun e => hne (by rw [hod, e])
                simp [Act.put, Array.getD_eq_getD_getElem?, Array.getElem?_setIfInBounds_ne hdx]
            rw [this]
            have hl := hli.resolve_left hij
            have h0 := (hx x).1 i hi hl hgi hxl
            refine ⟨fun k hk he => ?_, h0.2⟩
            rw [hsame k hk (by rw [he]; exact hij) (by rw [he]; exact hl)]
            exact h0.1 k hk he
        · have hne : o.dst ≠ some x := by rw [← hdst]; exact hno j hjm ((Ls_set (by omega)).2 (.inl rfl))
          have : (a.put o.dst rv).tmps.getD x undef = a.tmps.getD x undef := by
            cases hod : o.dst with
            | none => rfl
            | some d =>
              have hdx : d ≠ x := fun e => hne (by rw [hod, e])
              simp [Act.put, Array.getD_eq_getD_getElem?, Array.getElem?_setIfInBounds_ne hdx]
          rw [this]
          exact (hx x).2 fun i hi hli => hno i hi ((Ls_set (by omega)).2 (.inr hli))
      by_cases hje : ∃ k, k < K ∧ E k = j
      · obtain ⟨k, hk, rfl⟩ := hje
        obtain ⟨o', ho', hbv⟩ := hb k hk
        rw [ho] at ho'; cases ho'
        have hfo : (listed.setIfInBounds (E k) true).getD f false = listed.getD f false := by
          have := Ls_set (listed := listed) (j := E k) (i := f) (by omega)
          have hne := hfE k hk
          unfold Ls at this
          cases h1 : (listed.setIfInBounds (E k) true).getD f false <;> cases h2 : listed.getD f false <;> simp [h1, h2] at this ⊢
          exact absurd this.symm hne
        have hcB : curB B B1 (listed.getD f false) k = B k := by
          unfold curB
          split
          · rename_i h
            obtain ⟨rfl, h⟩ := h
            exact absurd (ahead_listed hd h (by omega) hfa) hnl
          · rfl
        rw [← hfo] at hbx hcB
        refine hbv σ w a Q _ hbx.s fun rv w' x hrv s' f' => hnext (fun i => if i = k then x else ps i) rv w' (hbx.made s0 hlow (by rw [hcB]; exact (hlive k hk).2) (by rw [hcB]; exact (hlive k hk).1) (by rw [hcB]; exact s') (by rw [hcB]; exact f') _ fun i hiK hi => ?_) (fun i hi hne _ => ?_) ⟨fun i hi he => ?_, fun h => absurd rfl (h k hk)⟩
        · by_cases hik : i = k
          · exact .inl hik
          · refine .inr ⟨hik, ?_⟩
            exact ((Ls_set (by omega)).1 hi).resolve_left fun h => hik (hinj i k hiK hk h)
        · rw [if_neg fun e => hne (by rw [e])]
        · have : i = k := hinj i k hi hk he
          subst this
          rw [if_pos rfl]
          cases hrv with
          | p h =>
            have h1 : (σ ++ [x])[H.length]? = some x := by rw [← s0.len]; simp
            rw [h1] at h
            cases h
            rfl
      · have hne : ∀ k, k < K → E k ≠ j := fun k hk he => hje ⟨k, hk, he⟩
        have hlooks : ∀ n ∈ looks ops o, (∀ k, k < K → gDst ops (E k) ≠ some n) → Rel σ (getL (stAt ops val t 0 j) n) (a.tmps.getD n undef) := fun n hn hnk => by
          by_cases hnl' : n < t.length
          · by_cases hex : ∃ i, i < m ∧ gDst ops i = some n
            · obtain ⟨i, hi, hgi⟩ := hex
              have hie : ∀ k, k < K → E k ≠ i := fun k hk h => hnk k hk (by rw [h]; exact hgi)
              have hah := ((drawOK_spec hok j o ho).2.1 hjm).1 n hn i hi hgi
              have hil := ahead_ready hd hsz hj hah
              have hij : i < j := aheadOf_lt hok 10 j i hah
              rw [stAt_val ops val j 0 t i (by omega) (by omega) hgi hnl' (fun i' _ h2 h3 => hdist i i' hi (by omega) h3 n hgi)]
              exact ((hx n).1 i hi hil hgi hnl').2 hie
            · have hno : ∀ i, i < m → gDst ops i ≠ some n := fun i hi hg => hex ⟨i, hi, hg⟩
              rw [stAt_untouched ops val j 0 t (fun i _ h2 => hno i (by omega))]
              exact (hx n).2 fun i hi _ => hno i (by omega)
          · rw [getL_none (by rw [stAt_length]; omega)]
            have : a.tmps.getD n undef = undef := by
              rw [Array.getD_eq_getD_getElem?, Array.getElem?_eq_none (by omega)]; rfl
            rw [this]; exact .tup .nil
        by_cases hjf : j = f
        · subst hjf
          obtain ⟨o', ho', hq⟩ := hsv
          rw [ho] at ho'; cases ho'
          have hE0 : Ls listed (E 0) := ahead_ready hd hsz hj hfa
          have hoff : listed.getD j false = false := by
            cases h : listed.getD j false with
            | false => rfl
            | true => exact absurd h hnl
          rw [hoff, curB_off] at hbx
          have hb1 : Boxed σ H 1 B ps (fun k => Ls listed (E k)) w0 w := ⟨hbx.s, hbx.fr, fun k hk => hbx.new k (by omega), fun k hk => hbx.lt k (by omega), fun k hk => hbx.blk k (by omega), fun k k' hk hk' => hbx.ne k k' (by omega) (by omega)⟩
          obtain ⟨s1, _⟩ := hb1.all s0 fun k hk => by
            have : k = 0 := by omega
            subst this; exact hE0
          have hlen : σ.length = H.length := s0.len
          refine hq σ (ps 0) w a Q _ s1 hlen (fun n hn => ?_) (by rw [stAt_length]; exact hat) fun rv w' hrv s' f' => hnext ps rv w' ((hbx.stored (B' := curB B B1 ((listed.setIfInBounds j true).getD j false)) s0 hlow hK hE0 hB1.2 s' f' ?_ fun k hk => ?_).weaken fun k hk h => ((Ls_set (by omega)).1 h).resolve_left (hne k hk)) (fun _ _ _ _ => rfl) ⟨fun k hk he => absurd he (hne k hk), fun _ => ?_⟩
          · by_cases hg : gDst ops (E 0) = some n
            · have hnl' : n < t.length ∨ t.length ≤ n := by omega
              rcases hnl' with hnl' | hnl'
              · have hm0 := hE 0 hK
                have hij : E 0 < j := aheadOf_lt hok 10 j (E 0) hfa
                rw [stAt_val ops val j 0 t (E 0) (by omega) (by omega) hg hnl' (fun i' _ h2 h3 => hdist (E 0) i' hm0 (by omega) h3 n hg)]
                rw [((hx n).1 (E 0) hm0 hE0 hg hnl').1 0 hK rfl, hve 0 hK, Nat.add_zero, ← hlen]
                exact .p (b := (ps 0).1) (c := (ps 0).2) (show (σ ++ [ps 0])[σ.length]? = some (ps 0) by simp)
              · rw [getL_none (by rw [stAt_length]; omega)]
                have : a.tmps.getD n undef = undef := by
                  rw [Array.getD_eq_getD_getElem?, Array.getElem?_eq_none (by omega)]; rfl
                rw [this]; exact .tup .nil
            · refine (hlooks n hn fun k hk => ?_).mono (Ext.append σ [ps 0])
              by_cases hk0 : k = 0
              · subst hk0; exact hg
              · exact hlk j hjm hne o ho n hn k hk (.inr hk0)
          · have : (listed.setIfInBounds j true).getD j false = true := (Ls_set (by omega)).2 (.inl rfl)
            unfold curB
            rw [if_pos ⟨rfl, this⟩]
          · unfold curB
            rw [if_neg (by rintro ⟨h, _⟩; exact hk h)]
          · exact below_rel (Ext.append σ [ps 0]) hlen hvf hrv
        · have hfo : (listed.setIfInBounds j true).getD f false = listed.getD f false := by
            have := Ls_set (listed := listed) (j := j) (i := f) (by omega)
            unfold Ls at this
            cases h1 : (listed.setIfInBounds j true).getD f false <;> cases h2 : listed.getD f false <;> simp [h1, h2] at this ⊢
            exact absurd this.symm hjf
          obtain ⟨o', ho', hq⟩ := hv j hjm hne hjf
          rw [ho] at ho'; cases ho'
          refine hq σ w a Q _ hbx.s (fun n hn => hlooks n hn fun k hk => hlk j hjm hne o ho n hn k hk (.inl hjf)) (by rw [stAt_length]; exact hat) fun rv w' hrv s' f' => ?_
          rw [← hfo] at hbx
          exact hnext ps rv w' ((hbx.quiet s0 s' f').weaken fun k hk h => ((Ls_set (by omega)).1 h).resolve_left (hne k hk)) (fun _ _ _ _ => rfl) ⟨fun k hk he => absurd he (hne k hk), fun _ => hrv⟩

/-! ### Their evaluation -/
theorem aStore_set {ty : TypeId} {l : Bool} {id off : Nat} {y v : AV} {H H' : List AB} {n : List Bool} (h : aStore P ty (.p l id off) y H = some (v, H', n)) : ∃ B, H' = setB H id B := by
  unfold aStore at h
  dsimp only at h
  split at h <;> (try (cases h; done))
  split at h <;> (try (cases h; done))
  split at h
  · split at h <;> (try (cases h; done))
    split at h <;> (try (cases h; done))
    unfold consN at h
    split at h <;> cases h <;> exact ⟨_, rfl⟩
  · split at h <;> (try (cases h; done))
    unfold symPut at h
    split at h <;> (try (cases h; done))
    split at h <;> cases h
    exact ⟨_, rfl⟩
theorem setB_end (H : List AB) (B0 B : AB) : setB (H ++ [B0]) H.length B = H ++ [B] := by
  induction H with
  | nil => rfl
  | cons a H ih => simp [setB, ih]
/-- The first operations: some make a block that a value told points to, the f-th writes the first of these blocks, the others leave memory alone. -/
def runV (P : Program) (T : Table) (mk : Nat → Option AV) (f : Nat) : Nat → List Oper → List AV → List AB → AB → List Bool → (List AV → AB → List Bool → Res) → Res
  | _, [], t, _, B, nd, K => K t B nd
  | k, o :: rest, t, H, B, nd, K =>
    match o.guard with
    | some _ => .fail
    | none => match Nat.beq k f with
      | true => match o.op.operands.all okOpd with
        | false => .fail
        | true => match o.op with
          | .store ty x y => match (match evA t x with | .p _ id _ => Nat.beq id H.length | _ => false) with
            | false => .fail
            | true => match eop P (.store ty x y) (evA t) (H ++ [B]) with
              | some (v, H', n) => match below H.length v with
                | true => runV P T mk f (k + 1) rest (putT t o.dst v) H (getB H' H.length) (n ++ nd) K
                | false => .fail
              | none => .fail
          | _ => .fail
      | false => match mk k with
        | some v => runV P T mk f (k + 1) rest (putT t o.dst v) H B nd K
        | none => stepQ P T o t H nd fun t nd => runV P T mk f (k + 1) rest t H B nd K
theorem runV_sound {H : List AB} {mk : Nat → Option AV} {f : Nat} (hmf : mk f = none) (hT : SoundT P T) (K : List AV → AB → List Bool → Res) {m : Nat} (hm : m ≤ ops.size) : ∀ (l : List Oper) (k : Nat) (t : List AV) (B : AB) (nd : List Bool), l = (ops.toList.take m).drop k → k ≤ m → (runV P T mk f k l t H B nd K).sel = .fail ∨
    ∃ t' B1 nd', (runV P T mk f k l t H B nd K).sel = (K t' B1 nd').sel ∧ (allT nd' = true → allT nd = true ∧ (f < k → B1 = B) ∧ ∃ val : Nat → AV, (∀ e v, k ≤ e → e < m → mk e = some v → val e = v) ∧ t' = stAt ops val t k (m - k) ∧
      (∀ i, k ≤ i → i < m → i ≠ f → mk i = none → QVal P ops i (stAt ops val t k (i - k)) H (val i)) ∧ (k ≤ f → f < m → SVal P ops f (stAt ops val t k (f - k)) H B (val f) B1 ∧ below H.length (val f) = true))
  | [], k, t, B, nd, hl, hk => by
    have : m ≤ k := by
      have := congrArg List.length hl
      simp at this; omega
    have : k = m := by omega
    subst this
    exact .inr ⟨t, B, nd, rfl, fun h => ⟨h, fun _ => rfl, fun _ => .any, fun e v h1 h2 => by omega, by rw [Nat.sub_self]; rfl, fun i h1 h2 => by omega, fun h1 h2 => by omega⟩⟩
  | o :: rest, k, t, B, nd, hl, hk => by
    obtain ⟨ho, hrest⟩ := drop_cons hl
    have hks : k < m := by
      rcases Nat.lt_or_ge k m with h' | h'
      · exact h'
      · rw [List.getElem?_eq_none (by simp; omega)] at ho; cases ho
    have ho' : ops[k]? = some o := by
      rw [List.getElem?_take_of_lt hks] at ho; simpa using ho
    have hgd : gDst ops k = o.dst := by simp [gDst, ho']
    have hcongr : ∀ (val : Nat → AV) (v : AV) (k n k' : Nat) (t : List AV), k < k' → stAt ops (fun i => if i = k then v else val i) t k' n = stAt ops val t k' n := by
      intro val v k n
      induction n with
      | zero => intros; rfl
      | succ n ihn => intro k' t hk; simp only [stAt]; rw [if_neg (by omega)]; exact ihn _ _ (by omega)
    have fin : ∀ {t' : List AV} {B1 : AB} {v1 : AV} {val : Nat → AV}, (∀ v, mk k = some v → v1 = v) → (k ≠ f → mk k = none → QVal P ops k t H v1) → (k = f → SVal P ops k t H B v1 B1 ∧ below H.length v1 = true) → (∀ e v, k + 1 ≤ e → e < m → mk e = some v → val e = v) → t' = stAt ops val (putT t o.dst v1) (k + 1) (m - (k + 1)) →
        (∀ i, k + 1 ≤ i → i < m → i ≠ f → mk i = none → QVal P ops i (stAt ops val (putT t o.dst v1) (k + 1) (i - (k + 1))) H (val i)) → (k + 1 ≤ f → f < m → SVal P ops f (stAt ops val (putT t o.dst v1) (k + 1) (f - (k + 1))) H B (val f) B1 ∧ below H.length (val f) = true) →
        ∃ val : Nat → AV, (∀ e v, k ≤ e → e < m → mk e = some v → val e = v) ∧ t' = stAt ops val t k (m - k) ∧ (∀ i, k ≤ i → i < m → i ≠ f → mk i = none → QVal P ops i (stAt ops val t k (i - k)) H (val i)) ∧ (k ≤ f → f < m → SVal P ops f (stAt ops val t k (f - k)) H B (val f) B1 ∧ below H.length (val f) = true) := fun {t' B1 v1 val} h1 h2 h3 h4 h5 h6 h7 => by
      have hst : ∀ i, k < i → stAt ops (fun i => if i = k then v1 else val i) t k (i - k) = stAt ops val (putT t o.dst v1) (k + 1) (i - (k + 1)) := fun i hi => by
        rw [show i - k = (i - (k + 1)) + 1 by omega]
        simp only [stAt, if_true, hgd]
        exact hcongr _ _ _ _ _ _ (by omega)
      refine ⟨fun i => if i = k then v1 else val i, fun e v a b hme => ?_, by rw [hst m hks]; exact h5, fun i a b hne hno => ?_, fun a b => ?_⟩
      · dsimp only
        by_cases hek : e = k
        · rw [if_pos hek]; exact h1 v (by rw [← hek]; exact hme)
        · rw [if_neg hek]; exact h4 e v (by omega) b hme
      · by_cases hik : i = k
        · subst hik
          simp only [Nat.sub_self, if_true]
          exact h2 hne hno
        · rw [hst i (by omega)]
          simp only [hik, if_false]
          exact h6 i (by omega) b hne hno
      · by_cases hek : f = k
        · subst hek
          simp only [Nat.sub_self, if_true]
          exact h3 rfl
        · rw [hst f (by omega)]
          simp only [hek, if_false]
          exact h7 (by omega) b
    unfold runV
    cases hg : o.guard with
    | some g => exact .inl rfl
    | none =>
      dsimp only
      have hw : ∀ (Q : Exit → Act → World → Prop) (next : Act → World → Prop) (a : Act) (w : World), (o.wp P a w next Q → wpOp P ops Q k next a w) := fun Q next a w h => by
        simp only [wpOp, ho']
        rw [if_pos (by simp [Region.wanted, hg])]
        exact .inl h
      cases hbe : Nat.beq k f with
      | true =>
        have hke : k = f := Nat.eq_of_beq_eq_true hbe
        have hmk : mk k = none := by rw [hke]; exact hmf
        dsimp only
        cases hok : o.op.operands.all okOpd with
        | false => exact .inl rfl
        | true =>
          dsimp only
          cases hop : o.op
          case store ty x y =>
            dsimp only
            cases hid : (match evA t x with | .p _ id _ => Nat.beq id H.length | _ => false) with
            | false => exact .inl rfl
            | true =>
              dsimp only
              cases he : eop P (.store ty x y) (evA t) (H ++ [B]) with
              | none => exact .inl rfl
              | some r =>
                obtain ⟨v, H', n⟩ := r
                dsimp only
                cases hbl : below H.length v with
                | false => exact .inl rfl
                | true =>
                  dsimp only
                  rcases runV_sound hmf hT K hm rest (k + 1) (putT t o.dst v) (getB H' H.length) (n ++ nd) hrest hks with h4 | ⟨t', B1, nd', h4, h5⟩
                  · exact .inl h4
                  refine .inr ⟨t', B1, nd', h4, fun hn => ?_⟩
                  obtain ⟨h6, hB, val, g0, g1, g2, _⟩ := h5 hn
                  rw [allT_append, Bool.and_eq_true] at h6
                  have hB := hB (by omega)
                  have hH' : H' = H ++ [B1] := by
                    have he' := he
                    unfold eop at he'
                    dsimp only at he'
                    split at hid
                    · rename_i l id off hx
                      have hid := Nat.eq_of_beq_eq_true hid
                      subst hid
                      rw [hx] at he'
                      obtain ⟨B2, hB2⟩ := aStore_set he'
                      rw [setB_end] at hB2
                      rw [hB, hB2]
                      congr 1
                      rw [getB_append_right (by omega), Nat.sub_self]
                      rfl
                    · cases hid
                  refine ⟨h6.2, fun h => by omega, fin (fun u hu => by rw [hmk] at hu; cases hu) (fun h => absurd hke h) (fun _ => ⟨⟨o, ho', fun σ x0 w a Q next s hlen r _ q => hw Q next a w ?_⟩, hbl⟩) g0 g1 g2 (fun h => by omega)⟩
                  have heo : eop P o.op (evA t) (H ++ [B]) = some (v, H', n) := by rw [hop]; exact he
                  obtain ⟨rv, w', e1, σ', r2, s2, f2⟩ := eop_out (ρ := a.eval) heo h6.1 s (opds_looks hok fun n hn => r n hn)
                  have hσ : σ' = σ ++ [x0] := by
                    have hl1 := s2.len
                    have hl0 := s.len
                    rw [hH'] at hl1
                    simp only [List.length_append, List.length_cons, List.length_nil] at hl1 hl0
                    apply List.ext_getElem?
                    intro i
                    rcases Nat.lt_or_ge i (σ ++ [x0]).length with h' | h'
                    · exact (f2.ext i _ (List.getElem?_eq_getElem h')).trans (List.getElem?_eq_getElem h').symm
                    · simp only [List.length_append, List.length_cons, List.length_nil] at h'
                      rw [List.getElem?_eq_none (by omega), List.getElem?_eq_none (by simp; omega)]
                  subst hσ
                  rw [hH'] at s2 f2
                  show o.upon P a next Q ((execOp a.eval o).run P w)
                  rcases e1 with e1 | ⟨e1, rfl⟩
                  · rw [e1]; exact q _ _ r2 s2 f2
                  · rw [e1]; exact q _ _ r2 s2 f2
          all_goals exact .inl rfl
      | false =>
        have hke : k ≠ f := fun h => by rw [h, Nat.beq_refl] at hbe; cases hbe
        dsimp only
        cases hbm : mk k with
        | some v =>
          dsimp only
          rcases runV_sound hmf hT K hm rest (k + 1) (putT t o.dst v) B nd hrest hks with h4 | ⟨t', B1, nd', h4, h5⟩
          · exact .inl h4
          refine .inr ⟨t', B1, nd', h4, fun hn => ?_⟩
          obtain ⟨h6, hB, val, g1, g2, g3, g4⟩ := h5 hn
          exact ⟨h6, fun h => hB (by omega), fin (fun u hu => by rw [hbm] at hu; cases hu; rfl) (fun _ h => by rw [hbm] at h; cases h) (fun h => absurd h hke) g1 g2 g3 g4⟩
        | none =>
          dsimp only
          rcases stepQ_sound (H := H) hT o t nd (fun t nd => runV P T mk f (k + 1) rest t H B nd K) with h2 | ⟨v1, nd2, h2, h3⟩
          · exact .inl h2
          rw [h2]
          rcases runV_sound hmf hT K hm rest (k + 1) (putT t o.dst v1) B nd2 hrest hks with h4 | ⟨t', B1, nd', h4, h5⟩
          · exact .inl h4
          refine .inr ⟨t', B1, nd', h4, fun hn => ?_⟩
          obtain ⟨h6, hB, val, g1, g2, g3, g4⟩ := h5 hn
          obtain ⟨h8, hok, h9⟩ := h3 h6
          exact ⟨h8, fun h => hB (by omega), fin (fun u hu => by rw [hbm] at hu; cases hu) (fun _ _ => ⟨o, ho', fun σ w a Q next s r _ q => hw Q next a w (h9 σ w a Q next s (opds_looks hok fun n hn => r n hn) q)⟩) (fun h => absurd h hke) g1 g2 g3 g4⟩
/-- No operation ahead of the tail looks at what a maker makes, but the f-th at the first; the makers make variables. -/
def boxes2OK (ops : Array Oper) (m f e0 : Nat) (es : List Nat) : Bool := aheadOf ops 10 f e0 && ((List.range m).all fun i => match (e0 :: es).any (Nat.beq i) with
  | true => match ops[i]? with
    | some o => match o.op, o.guard with
      | .alloc _, none => true
      | _, _ => false
    | none => false
  | false => match ops[i]? with
    | some o => (looks ops o).all fun n => match Nat.beq i f with
      | true => es.all fun e => !(gDst ops e == some n)
      | false => (e0 :: es).all fun e => !(gDst ops e == some n)
    | none => false)
/-- A region in which several variables are made and the first is written. -/
theorem boxes2_reach (hT : SoundT P T) (hf : P.follows .mixedOrders = true) (m f e0 : Nat) (es : List Nat) (hm : m ≤ ops.size) (hfm : f < m) (hem : ∀ e ∈ e0 :: es, e < m ∧ e ≠ f) (hnd : (e0 :: es).Nodup) (hok : drawOK ops m = true) (hbx : boxes2OK ops m f e0 es = true) {id : Nat} {k : List Item} {t t' : List AV} {H H' : List AB} {nd : List Bool}
    (hz : ∀ e ∈ e0 :: es, (zerB P ops e).live = true ∧ lowB H.length (zerB P ops e) = true) (hlow : lowH H.length H = true) {B1 : AB} (hB1 : B1.live = true ∧ lowB H.length B1 = true) {t1 : List AV} {nd1 : List Bool}
    (h1 : (runV P T (mkOf H.length (e0 :: es)) f 0 (ops.toList.take m) t H (zerB P ops e0) [] fun t B nd => .stop [] t [B] nd).sel = .stop [] t1 [B1] nd1)
    (h : (runOps P T ops (ops.toList.drop m) t1 (H ++ B1 :: es.map (zerB P ops)) nd1 fun t H nd => .stop [] t H nd).sel = .stop [] t' H' nd) (hn : allT nd = true) : Reach P (.code (.region id ops true) :: k) t H k t' H' := by
  have hmf : mkOf H.length (e0 :: es) f = none := mkOf_none fun hmem => (hem f hmem).2 rfl
  rcases runV_sound (H := H) (mk := mkOf H.length (e0 :: es)) (f := f) (ops := ops) hmf hT (fun t B nd => .stop [] t [B] nd) hm (ops.toList.take m) 0 t (zerB P ops e0) [] (by simp) (Nat.zero_le _) with h2 | ⟨t2, B2, nd2, h2, h3⟩
  · rw [h1] at h2; cases h2
  rw [h1] at h2
  cases h2
  rcases runOps_sound (ops := ops) hT (fun t H nd => .stop [] t H nd) (ops.toList.drop m) m t1 (H ++ B1 :: es.map (zerB P ops)) nd1 rfl hm with h4 | ⟨t3, H3, nd3, h4, h5⟩
  · rw [h] at h4; cases h4
  rw [h] at h4
  cases h4
  obtain ⟨h6, ch⟩ := h5 hn
  obtain ⟨_, _, val, e1, e2, e3, e4⟩ := h3 h6
  rw [Nat.sub_zero] at e2
  rw [e2] at ch
  obtain ⟨hsv, hvf⟩ := e4 (Nat.zero_le _) hfm
  rw [Nat.sub_zero] at hsv
  have hmap : B1 :: es.map (zerB P ops) = (List.range (e0 :: es).length).map (curB (fun k => zerB P ops ((e0 :: es).getD k 0)) B1 true) := by
    apply List.ext_getElem?
    intro i
    cases i with
    | zero => simp [curB]
    | succ i =>
      rcases Nat.lt_or_ge i es.length with h' | h'
      · simp [curB, h', List.getD_eq_getElem?_getD]
      · rw [List.getElem?_eq_none (by simpa using h'), List.getElem?_eq_none (by simpa using h')]
  rw [hmap] at ch
  have hEg : ∀ k, (hk : k < (e0 :: es).length) → (e0 :: es).getD k 0 = (e0 :: es)[k] := fun k hk => by rw [List.getD_eq_getElem?_getD, List.getElem?_eq_getElem hk]; rfl
  have hEm : ∀ k, k < (e0 :: es).length → (e0 :: es).getD k 0 ∈ e0 :: es := fun k hk => by rw [hEg k hk]; exact List.getElem_mem hk
  have hmem : ∀ i, (∀ k, k < (e0 :: es).length → (e0 :: es).getD k 0 ≠ i) → i ∉ e0 :: es := fun i hi hmi => by
    obtain ⟨k, hk, he⟩ := List.getElem_of_mem hmi
    exact hi k hk (by rw [hEg k hk]; exact he)
  have hany : ∀ {i}, (e0 :: es).any (Nat.beq i) = true ↔ i ∈ e0 :: es := fun {i} => by
    rw [List.any_eq_true]
    exact ⟨fun ⟨x, hx, hb⟩ => by rw [Nat.eq_of_beq_eq_true hb]; exact hx, fun h => ⟨i, h, Nat.beq_refl i⟩⟩
  unfold boxes2OK at hbx
  rw [Bool.and_eq_true] at hbx
  obtain ⟨hfa, hbx⟩ := hbx
  have hall := fun i (hi : i < m) => List.all_eq_true.1 hbx i (List.mem_range.2 hi)
  refine region_reach fun σ w a Q s r q => wp_region_any hf ?_
  have hnl : ∀ i, ¬ Ls (Array.replicate ops.size false) i := fun i => by
    unfold Ls
    rw [Array.getD_eq_getD_getElem?]
    by_cases hi : i < ops.size
    · simp [hi]
    · simp [hi]
  have hnf : (Array.replicate ops.size false).getD f false = false := by
    cases h : (Array.replicate ops.size false).getD f false with
    | false => rfl
    | true => exact absurd h (hnl f)
  have hsm : Same w { w with drawn := w.drawn + 1 } := Same.drew w
  have sw := hsm.sim s
  refine any_boxes2 (f := f) (K := (e0 :: es).length) (E := fun k => (e0 :: es).getD k 0) (B := fun k => zerB P ops ((e0 :: es).getD k 0)) (B1 := B1) (val := val) hok hm (fun k hk => (hem _ (hEm k hk)).1) (fun k k' hk hk' he => ?_) (fun i hi hne hif => ?_) (fun k hk => ?_) (by simp) hfm (fun k hk => (hem _ (hEm k hk)).2) hfa hB1 hsv (fun k hk => ?_) (fun i hi hne o ho n hn' k hk hor => ?_) hvf hlow (fun k hk => hz _ (hEm k hk)) ch sw ops.size _ a _ (fun _ => (0, 0)) (by simp) (fun i o _ hl => absurd hl (hnl i)) ?_ (fun i _ => hnl i)
    ⟨sw, Fr.refl _ _ _, fun k _ h => absurd h (hnl _), fun k _ h => absurd h (hnl _), fun k _ h => absurd h (hnl _), fun k k' _ _ h => absurd h (hnl _)⟩ ?_ (fun x => ⟨fun i _ hl => absurd hl (hnl i), fun _ => r.getD x⟩) fun a' w' σ' r' d' s' f' => q a' w' σ' r' d' s' (hsm.fr.trans f')
  · rw [hEg k hk, hEg k' hk'] at he
    exact (List.getElem_inj hnd).1 he
  · have := e3 i (Nat.zero_le _) hi hif (mkOf_none (hmem i hne))
    rwa [Nat.sub_zero] at this
  · have he := hall _ (hem _ (hEm k hk)).1
    rw [hany.2 (hEm k hk)] at he
    have hzk := (hz _ (hEm k hk)).1
    cases hoe : ops[(e0 :: es).getD k 0]? with
    | none => rw [hoe] at he; cases he
    | some o =>
      rw [hoe] at he
      dsimp only at he
      refine ⟨o, hoe, fun σ w a Q next s q => ?_⟩
      cases hop : o.op
      case alloc ty =>
        rw [hop] at he
        cases hg : o.guard with
        | some g => rw [hg] at he; cases he
        | none =>
          have hzb : zerB P ops ((e0 :: es).getD k 0) = match zeroA P ty with
              | some z => .cells true (.lit (cellsA z))
              | none => .dead := by simp only [zerB, hoe, hop]; cases zeroA P ty <;> rfl
          cases hzz : zeroA P ty with
          | none => rw [hzb, hzz] at hzk; cases hzk
          | some z =>
            rw [hzz] at hzb
            dsimp only at hzb
            rw [hzb] at q
            have heop : eop P o.op (evA t) H = some (.p true H.length 0, H ++ [.cells true (.lit (cellsA z))], []) := by
              rw [hop]; unfold eop; dsimp only; rw [hzz]
            obtain ⟨rv, w', e1', σ', r2, s2, f2⟩ := eop_out (ρ := a.eval) heop rfl s (by rw [hop]; intro x hx; simp [Op.operands] at hx)
            obtain ⟨x, hx⟩ : ∃ x, σ' = σ ++ [x] := by
              have hl1 := s2.len
              have hl0 := s.len
              simp only [List.length_append, List.length_cons, List.length_nil] at hl1
              have hlt : σ.length < σ'.length := by omega
              refine ⟨σ'[σ.length], ?_⟩
              apply List.ext_getElem?
              intro i
              rcases Nat.lt_or_ge i σ.length with h' | h'
              · rw [List.getElem?_append_left h']
                exact f2.ext i _ (List.getElem?_eq_getElem h') |>.trans (List.getElem?_eq_getElem h').symm
              · rcases Nat.lt_or_ge i (σ.length + 1) with h'' | h''
                · have : i = σ.length := by omega
                  subst this
                  simp [List.getElem?_eq_getElem hlt]
                · rw [List.getElem?_eq_none (by omega), List.getElem?_eq_none (by simp; omega)]
            subst hx
            simp only [wpOp, hoe]
            rw [if_pos (by simp [Region.wanted, hg])]
            refine .inl ?_
            show o.upon P a next Q ((execOp a.eval o).run P w)
            rcases e1' with e1' | ⟨e1', rfl⟩
            · rw [e1']; exact q _ _ x r2 s2 f2
            · rw [e1']; exact q _ _ x r2 s2 f2
      all_goals (rw [hop] at he; cases he)
  · have := e1 ((e0 :: es).getD k 0) (.p true (H.length + k) 0) (Nat.zero_le _) (hem _ (hEm k hk)).1 (by rw [hEg k hk]; exact mkOf_get hnd hk)
    exact this
  · have hi' := hall i hi
    have hni := hmem i hne
    have : (e0 :: es).any (Nat.beq i) = false := by
      cases hb : (e0 :: es).any (Nat.beq i) with
      | false => rfl
      | true => exact absurd (hany.1 hb) hni
    rw [this, ho] at hi'
    have h1 := List.all_eq_true.1 hi' n hn'
    intro h
    cases hbf : Nat.beq i f with
    | true =>
      rw [hbf] at h1
      dsimp only at h1
      have hk0 : k ≠ 0 := hor.resolve_left fun h => h (Nat.eq_of_beq_eq_true hbf)
      obtain ⟨k', rfl⟩ := Nat.exists_eq_succ_of_ne_zero hk0
      have hk' : k' < es.length := by simpa using hk
      have h2 := List.all_eq_true.1 h1 es[k'] (List.getElem_mem hk')
      rw [hEg _ hk] at h
      simp only [Nat.succ_eq_add_one, List.getElem_cons_succ] at h
      rw [h] at h2
      simp at h2
    | false =>
      rw [hbf] at h1
      have h2 := List.all_eq_true.1 h1 _ (hEm k hk)
      rw [h] at h2
      simp at h2
  · have := List.length_filter_le (fun i => !(Array.replicate ops.size false).getD i false) (List.range ops.size)
    simp only [List.length_range] at this
    exact this
  · have := r.length; simpa using this.symm
end
end Go.Ax
