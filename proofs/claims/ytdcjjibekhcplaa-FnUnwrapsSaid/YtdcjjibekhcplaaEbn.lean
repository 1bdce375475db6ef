/- impl.UnwrapFlood: from its beginning to its end. -/
import Derived.Test.YtdcjjibekhcplaaEaf
import Derived.Test.YtdcjjibekhcplaaEao
import Derived.Test.YtdcjjibekhcplaaEat
import Derived.Test.YtdcjjibekhcplaaEau
import Derived.Test.YtdcjjibekhcplaaEav
import Derived.Test.YtdcjjibekhcplaaEaw
import Derived.Test.YtdcjjibekhcplaaEax
import Derived.Test.YtdcjjibekhcplaaEay
import Derived.Test.YtdcjjibekhcplaaEaz
import Derived.Test.YtdcjjibekhcplaaEba
import Derived.Test.YtdcjjibekhcplaaEbk
import Derived.Test.YtdcjjibekhcplaaEbl
import Derived.Test.YtdcjjibekhcplaaEbm
namespace Go.Ax
open Go Go.Proofs

theorem uhA_at {m : Nat} (hm : m = 1 ∨ m = 2 ∨ m = 4 ∨ m = 8) (x0 : Nat → Int) (X : Nat → Nat × Nat) {p : Nat} (hp : p < m * m) : uhAG m x0 X p = uhAW m x0 X p := by
  rcases hm with rfl | rfl | rfl | rfl
  · exact mapEq_at (uhA_1 x0 X) (List.mem_range.2 hp)
  · exact mapEq_at (uhA_2 x0 X) (List.mem_range.2 hp)
  · exact mapEq_at (uhA_4 x0 X) (List.mem_range.2 hp)
  · exact mapEq_at (uhA_8 x0 X) (List.mem_range.2 hp)
theorem uhB_at {m : Nat} (hm : m = 1 ∨ m = 2 ∨ m = 4 ∨ m = 8) (x0 : Nat → Int) (X : Nat → Nat × Nat) {p : Nat} (hp : p < m * m) : uhBG m x0 X p = uhBW m x0 X p := by
  rcases hm with rfl | rfl | rfl | rfl
  · exact mapEq_at (uhB_1 x0 X) (List.mem_range.2 hp)
  · exact mapEq_at (uhB_2 x0 X) (List.mem_range.2 hp)
  · exact mapEq_at (uhB_4 x0 X) (List.mem_range.2 hp)
  · exact mapEq_at (uhB_8 x0 X) (List.mem_range.2 hp)
theorem uhD_at {m : Nat} (hm : m = 1 ∨ m = 2 ∨ m = 4 ∨ m = 8) (x0 : Nat → Int) (X : Nat → Nat × Nat) {p : Nat} (hp : p < m * m) : uhDG m x0 X p = uhDW m x0 X p := by
  rcases hm with rfl | rfl | rfl | rfl
  · exact mapEq_at (uhD_1 x0 X) (List.mem_range.2 hp)
  · exact mapEq_at (uhD_2 x0 X) (List.mem_range.2 hp)
  · exact mapEq_at (uhD_4 x0 X) (List.mem_range.2 hp)
  · exact mapEq_at (uhD_8 x0 X) (List.mem_range.2 hp)
theorem blk_maskT (n : Int) (X : Nat → Nat × Nat) : (AB.cells true (.lit (.i true .i64 n :: (List.range 64).map (cx X)))).rw = (maskB n X).rw ∧ (AB.cells true (.lit (.i true .i64 n :: (List.range 64).map (cx X)))).live = (maskB n X).live ∧
    ∀ σ z o, BlkRel σ z (AB.cells true (.lit (.i true .i64 n :: (List.range 64).map (cx X)))) o → BlkRel σ z (maskB n X) o := blk_bare rfl
theorem blk_litMet (N p : Nat) : (litMet N p).rw = (metB N (metF (fun _ => false) p)).rw ∧ (litMet N p).live = (metB N (metF (fun _ => false) p)).live ∧ ∀ σ z o, BlkRel σ z (litMet N p) o → BlkRel σ z (metB N (metF (fun _ => false) p)) o := by
  refine blk_bare ?_
  rw [List.map_map, List.map_map]
  refine List.map_congr_left fun j _ => ?_
  show AV.b false (Nat.beq j p) = AV.b false (metF (fun _ => false) p j)
  unfold metF
  cases Nat.beq j p <;> rfl
theorem bwC_false {m : Nat} {xs : List Int} {X : Nat → Nat × Nat} (hw : wcZ m xs ≠ 1) (hX : isMaskB m X = true) : bwC (wcZ m xs) m X = false := by
  unfold bwC
  rw [eqQ_eq, isMaskB_re, hX]
  simp [hw]
theorem swC_eq (wc : Int) (X : Nat → Nat × Nat) (p : Nat) : swC wc X p = (!(wc == 0) || xzB X p) := by
  unfold swC xzB
  rw [eqQ_eq]
  cases wc == 0 <;> rfl
noncomputable def floodArgs (l : Bool) (n : Int) (N : Nat) (s : AV) (y x : Int) : List AV := [.i l .i64 n, .sl l 0 0 N 1, s, .i l .i64 y, .i l .i64 x]
section
variable {m : Nat} (hm : m = 1 ∨ m = 2 ∨ m = 4 ∨ m = 8) (x0 : Nat → Int) (X : Nat → Nat × Nat) {p : Nat} (hp : p < m * m)
include hm hp
theorem uh_start (hw : wcZ m (zXL (m * m) x0) = 0) (hX : isMaskB m X = true) (hz : xzB X p = false) :
    ReachS Try.prog [.code uhC] (floodArgs true m (m * m) (wvT true m X) ((p / m : Nat) : Int) ((p % m : Nat) : Int) ++ undefs 188) (lb (zXL (m * m) x0)) ugL (SO m x0 X (flIni m x0 p) 0) := by
  have ha := uhA_at hm x0 X hp
  simp only [uhAG, uhAW, Prod.mk.injEq] at ha
  obtain ⟨a1, a2, _⟩ := ha
  have hb1 := bwC_false (m := m) (xs := zXL (m * m) x0) (X := X) (by omega) hX
  have rA := way_reach (P := Try.prog) (T := tabUf) (stop := atReg 8) (n := 200) (L := [.code uhC]) (R := [.code uhC]) (p := [false, false]) (M := uhM) (t0 := floodArgs true m (m * m) (wvT true m X) ((p / m : Nat) : Int) ((p % m : Nat) : Int) ++ undefs 188) (H0 := lb (zXL (m * m) x0)) tabUf_sound rfl (by
    show allT (condsP (uhAr m x0 X p) [false, false]) = true
    rw [a1, hb1, swC_eq, hw, hz]; rfl) a2 rfl
  have rA2 := rA.post (H' := sfH m (m * m) x0 X) (heq_mid (blk_maskT m X) [] [.cells false (.ints .i64 (zXL (m * m) x0))])
  have hB := uhB_at hm x0 X hp
  have hreg := uh_reg
  simp only [Bool.and_eq_true] at hreg
  have rB := boxes5_way (P := Try.prog) (T := tabUf) (ops := opsOf uhL) (id := 8) (k := tlOf uhL) tabUf_sound (by kernel_rfl) 9 193 uhMk uhCs (Nat.le_of_ble_eq_true hreg.1) hreg.2.1 hreg.2.2 (t := uhT m (m * m) ((p / m : Nat) : Int) ((p % m : Nat) : Int)) (H := sfH m (m * m) x0 X) (t' := uhT2 m (m * m) ((p / m : Nat) : Int) ((p % m : Nat) : Int)) (H' := uhH2 m (m * m) x0 X) (M := uhM2) (nd := []) rfl rfl hB rfl
  rw [← uhL_eq] at rB
  have hD := uhD_at hm x0 X hp
  simp only [uhDG, uhDW, Prod.mk.injEq] at hD
  have rD := cway_reach (P := Try.prog) (T := tabUf) (stop := atLoop) (n := 200) (L := tlOf uhL) (p := []) (M := ugM) (t0 := uhT2 m (m * m) ((p / m : Nat) : Int) ((p % m : Nat) : Int)) (H0 := uhH2 m (m * m) x0 X) tabUf_sound (by
    show allT (condsP (uhDr m x0 X p) []) = true
    rw [hD.1]; rfl) (by
    rw [Res.at_nil]
    exact hD.2) rfl
  have r := (rA2.trans rB).trans rD
  have r2 := r.post (H' := uB4 m (m * m) x0 X (flIni m x0 p).os (flIni m x0 p).M ++ [.cells true (.lit [.i true .i64 ((p / m : Nat) : Int), .i true .i64 ((p % m : Nat) : Int)])]) (heq_mid (blk_litMet (m * m) p) _ (sfH m (m * m) x0 X ++ [.cells true (.ints .i64 (floodIni (m * m) x0 p))]))
  have r3 := r2.post (H' := uB4 m (m * m) x0 X (flIni m x0 p).os (flIni m x0 p).M ++ [qB ([] ++ [((p / m : Nat) : Int), ((p % m : Nat) : Int)])]) (heq_mid (blk_litQ ((p / m : Nat) : Int) ((p % m : Nat) : Int) []) [] (uB4 m (m * m) x0 X (flIni m x0 p).os (flIni m x0 p).M))
  have r4 := r3.weak (t' := ugTl m (m * m) (.sl false 4 0 1 2) []) (eqv_of_bare rfl)
  exact r4.toS ⟨some (0, 1), _, ⟨Nat.zero_le _, rfl, rfl, rfl⟩, rfl, rfl⟩
theorem uh_good (hw : wcZ m (zXL (m * m) x0) = 0) (hX : isMaskB m X = true) (hz : xzB X p = false) (hx : ∀ i, i < m * m → 0 ≤ x0 i ∧ x0 i ≤ 63) :
    CallOK Try.prog 85 (floodArgs true m (m * m) (wvT true m X) ((p / m : Nat) : Int) ((p % m : Nat) : Int)) (lb (zXL (m * m) x0)) (.tup [.sl true 1 0 (m * m) 1, .i true .i64 0]) (lz (zXL (m * m) x0) (flEnd m x0 X p).os) := by
  obtain ⟨L', hL', r⟩ := ui_go hm x0 X (H0 := lb (zXL (m * m) x0)) rfl hx (m * m + 1) 0 (L := ugL) rfl (by omega) (Nat.zero_le _) (flIni_ok hx hp) (uh_start hm x0 X hp hw hX hz)
  have he := ui_end hm x0 X hL' (flEnd_ok (X := X) hm hx hp) r
  refine call_of_endsS (args := floodArgs true m (m * m) (wvT true m X) ((p / m : Nat) : Int) ((p % m : Nat) : Int)) Try.func85 (rfl : Try.f85.body = some uhC) he fun t H hs => ?_
  obtain ⟨h1, qs, rfl⟩ := hs
  refine ⟨_, _, [4, 3, 1], h1, rfl, ?_⟩
  rfl
end
end Go.Ax

/- spec.UnwrapFlood: from its beginning to its end. -/
namespace Go.Ax
open Go Go.Proofs

def sjT (b : Bool) (n : Int) (N : Nat) (s : AV) (k v : Int) (i : Nat) : List AV := sgTl b n N s k [(19, .i false .i64 v), (20, .i true .i64 (Int.ofNat i))]
section
variable (b : Bool) (n : Int) (N : Nat) (x0 : Nat → Int) (X : Nat → Nat × Nat) (os : List Int) (M : Nat → Bool) (qs : List Int) (k p : Nat)
def sgQ : List Bool := [decide (0 + k * 1 < (Cells.ints .i64 qs).len), decide (0 ≤ Int.ofNat k) && decide (Int.ofNat k < (qs.length : Int))]
theorem sgU_go : (condsP (sgU b n N x0 X os M qs k) [true], lfM siM ((sgU b n N x0 X os M qs k).at [true])) = ([ltQ false (Int.ofNat k) (qs.length : Int)], true, siL ++ [], (sjT b n N (.sl false (qAt b) 0 qs.length 1) (Int.ofNat k) (qs.getD (0 + k * 1) 0) 0).map AV.bare, sgH b n N x0 X os M qs, sgQ qs k) := by cases b <;> kernel_rfl
theorem sgU_end : (condsP (sgU b n N x0 X os M qs k) [false], endOf Try.prog Try.f87.results.toList ((sgU b n N x0 X os M qs k).at [false])) = ([!ltQ false (Int.ofNat k) (qs.length : Int)], some (some ([.sl true 2 0 N 1, .i true .i64 0], []), sgH b n N x0 X os M qs, [])) := by cases b <;> kernel_rfl
theorem siU_out : (condsP (siU b n N x0 X os M qs k p 4) [], lfM sgM (siU b n N x0 X os M qs k p 4)) = ([], true, sgR, (sgTl b n N (.sl false (qAt b) 0 qs.length 1) (wrapQ false .i64 (Int.ofNat k + 1)) []).map AV.bare, sgH b n N x0 X os M qs, []) := by cases b <;> kernel_rfl
end
theorem si_at {m : Nat} (hm : m = 1 ∨ m = 2 ∨ m = 4 ∨ m = 8) (b : Bool) (x0 : Nat → Int) (X : Nat → Nat × Nat) (os : List Int) (M : Nat → Bool) (qs : List Int) (k : Nat) {p i : Nat} (hp : p < m * m) (hi : i < 4) : siG b x0 X os M qs k m p i = siW b x0 X os M qs k m p i := by
  rcases hm with rfl | rfl | rfl | rfl
  · exact mapEq_at (si_1 b x0 X os M qs k) (pis_mem hp hi)
  · exact mapEq_at (si_2 b x0 X os M qs k) (pis_mem hp hi)
  · cases b
    · exact mapEq_at (si_4f x0 X os M qs k) (pis_mem hp hi)
    · exact mapEq_at (si_4t x0 X os M qs k) (pis_mem hp hi)
  · rcases Nat.lt_or_ge p 16 with h | h
    · cases b
      · exact mapEq_at (si_8f0 x0 X os M qs k) (pj_mem (Nat.zero_le _) (by omega) hi)
      · exact mapEq_at (si_8t0 x0 X os M qs k) (pj_mem (Nat.zero_le _) (by omega) hi)
    · rcases Nat.lt_or_ge p 32 with h2 | h2
      · cases b
        · exact mapEq_at (si_8f1 x0 X os M qs k) (pj_mem h (by omega) hi)
        · exact mapEq_at (si_8t1 x0 X os M qs k) (pj_mem h (by omega) hi)
      · rcases Nat.lt_or_ge p 48 with h3 | h3
        · cases b
          · exact mapEq_at (si_8f2 x0 X os M qs k) (pj_mem h2 (by omega) hi)
          · exact mapEq_at (si_8t2 x0 X os M qs k) (pj_mem h2 (by omega) hi)
        · cases b
          · exact mapEq_at (si_8f3 x0 X os M qs k) (pj_mem h3 (by omega) hi)
          · exact mapEq_at (si_8t3 x0 X os M qs k) (pj_mem h3 (by omega) hi)
theorem vis_at {m : Nat} (hm : m = 1 ∨ m = 2 ∨ m = 4 ∨ m = 8) (b : Bool) (x0 : Nat → Int) (X : Nat → Nat × Nat) (os : List Int) (M : Nat → Bool) (qs : List Int) (k : Int) (p i to q : Nat) : dropsT 1 (vkOf b) (siT b m (m * m) (.sl false 8 0 q 1) k p i) (visH b m (m * m) x0 X os M qs p to) = (true, siT true m (m * m) (.sl false 6 0 q 1) k p i, visZ m (m * m) x0 X os M qs p to) := by
  rcases hm with rfl | rfl | rfl | rfl
  · exact vis_1 b x0 X os M qs k p i to q
  · exact vis_2 b x0 X os M qs k p i to q
  · exact vis_4 b x0 X os M qs k p i to q
  · exact vis_8 b x0 X os M qs k p i to q
def qsZ (st : Fl) : List Int := st.qs.map Int.ofNat
theorem qsZ_len (st : Fl) : (qsZ st).length = st.qs.length := by simp [qsZ]
section
variable {m : Nat} (hm : m = 1 ∨ m = 2 ∨ m = 4 ∨ m = 8) (x0 : Nat → Int) (X : Nat → Nat × Nat)
include hm
theorem si_step {t0 : List AV} {H0 : List AB} {todo0 : List Item} (h0 : H0.length = 1) {L : List Item} (hL : toLp L = siR) {p i k : Nat} (hp : p < m * m) (hi : i < 4) {st : Fl} (hst : FlOK m st) {b : Bool}
    (h : Reach Try.prog todo0 t0 H0 L (siT b m (m * m) (.sl false (qAt b) 0 (qsZ st).length 1) (Int.ofNat k) p i) (sgH b m (m * m) x0 X st.os st.M (qsZ st))) :
    ∃ b', Reach Try.prog todo0 t0 H0 siR (siT b' m (m * m) (.sl false (qAt b') 0 (qsZ (fl1 m x0 X p st i)).length 1) (Int.ofNat k) p (i + 1)) (sgH b' m (m * m) x0 X (fl1 m x0 X p st i).os (fl1 m x0 X p st i).M (qsZ (fl1 m x0 X p st i))) := by
  have hU : cupto Try.prog tabUf atLoop 200 L (siT b m (m * m) (.sl false (qAt b) 0 (qsZ st).length 1) (Int.ofNat k) p i) (sgH b m (m * m) x0 X st.os st.M (qsZ st)) = siU b m (m * m) x0 X st.os st.M (qsZ st) k p i := by
    unfold siU
    rw [← hL, cupto_toLp]
  have hg := si_at hm b x0 X st.os st.M (qsZ st) k hp hi
  have stay : ∀ {ps : List Bool}, allT (condsP (siU b m (m * m) x0 X st.os st.M (qsZ st) k p i) ps) = true → lfM siM ((siU b m (m * m) x0 X st.os st.M (qsZ st) k p i).at ps) = siStay b x0 X st.os st.M (qsZ st) k m p i → fl1 m x0 X p st i = st →
      ∃ b', Reach Try.prog todo0 t0 H0 siR (siT b' m (m * m) (.sl false (qAt b') 0 (qsZ (fl1 m x0 X p st i)).length 1) (Int.ofNat k) p (i + 1)) (sgH b' m (m * m) x0 X (fl1 m x0 X p st i).os (fl1 m x0 X p st i).M (qsZ (fl1 m x0 X p st i))) := fun {ps} hc hl e => by
    rw [e]
    exact ⟨b, h.trans (cway_reach (P := Try.prog) (T := tabUf) (stop := atLoop) (n := 200) (L := L) (p := ps) (M := siM) tabUf_sound (by rw [hU]; exact hc) (by rw [hU]; exact hl) rfl)⟩
  cases ht : tgt m p i with
  | none =>
    simp only [siG, siW, ht, List.cons.injEq, Prod.mk.injEq, and_true] at hg
    exact stay (ps := []) (by rw [hg.1]; rfl) hg.2 (by unfold fl1; rw [ht])
  | some to =>
    have hto := tgt_lt hm hp ht
    simp only [siG, siW, ht, List.cons.injEq, Prod.mk.injEq, and_true] at hg
    cases hM : st.M to with
    | true => exact stay (ps := [false]) (by rw [hg.2.2.1, hM]; rfl) hg.2.2.2 (by unfold fl1; rw [ht]; simp only [hM, Bool.true_or])
    | false =>
      cases hX : xzB X to with
      | true => exact stay (ps := [true, false]) (by rw [hg.2.1.1, hM, hX]; rfl) hg.2.1.2 (by unfold fl1; rw [ht]; simp only [hM, hX, Bool.or_true])
      | false =>
        have e : fl1 m x0 X p st i = ⟨st.os.set to (visV x0 st.os p to), metF st.M to, st.qs ++ [to]⟩ := by unfold fl1; rw [ht]; simp only [hM, hX, Bool.or_false]
        rw [e]
        have hlen := hst.len
        have hmost := hst.most
        have hN : m * m ≤ 64 := by rcases hm with rfl | rfl | rfl | rfl <;> decide
        have hq : allT (visQ st.os (qsZ st) p to (visV x0 st.os p to)) = true := by
          have hql := qsZ_len st
          have h5 : (2 * (st.qs.length + 1) + 1024) * 8 ≤ 2 ^ 48 := Nat.le_trans (by omega : _ ≤ 20000) (by decide)
          simp [visQ, allT, Cells.len, hlen, apQ, hql]
          omega
        have r1 := h.trans (cway_reach (P := Try.prog) (T := tabUf) (stop := atLoop) (n := 200) (L := L) (p := [true, true]) (M := siM) tabUf_sound (by rw [hU, hg.1.1, hM, hX]; rfl) (by rw [hU]; exact hg.1.2) hq)
        have r2 := r1.drops (ks := vkOf b) (t2 := siT true m (m * m) (.sl false 6 0 ((qsZ st).length + 1) 1) (Int.ofNat k) p (i + 1)) (H2 := visZ m (m * m) x0 X st.os st.M (qsZ st) p to) (by
          rw [h0]
          exact vis_at hm b x0 X st.os st.M (qsZ st) (Int.ofNat k) p (i + 1) to ((qsZ st).length + 1))
        have eq1 : List.take ((qsZ st).length * 1) (List.drop 0 (qsZ st)) ++ [Int.ofNat to] = qsZ ⟨st.os.set to (visV x0 st.os p to), metF st.M to, st.qs ++ [to]⟩ := by
          rw [Nat.mul_one, List.drop_zero, List.take_length]
          simp [qsZ]
        have r3 := r2.post (H' := sgH true m (m * m) x0 X (st.os.set to (visV x0 st.os p to)) (metF st.M to) (qsZ ⟨st.os.set to (visV x0 st.os p to), metF st.M to, st.qs ++ [to]⟩)) (by
          unfold visZ
          rw [eq1]
          exact heq_mid (blk_met (m * m) st.M to) _ (sfH m (m * m) x0 X ++ [.cells true (.ints .i64 (st.os.set to (visV x0 st.os p to)))]))
        have eq2 : (qsZ ⟨st.os.set to (visV x0 st.os p to), metF st.M to, st.qs ++ [to]⟩).length = (qsZ st).length + 1 := by simp [qsZ]
        rw [← eq2] at r3
        exact ⟨true, r3⟩
theorem sg_round {t0 : List AV} {H0 : List AB} {todo0 : List Item} (h0 : H0.length = 1) {L : List Item} (hL : toLp L = sgR) {p k : Nat} (hx : ∀ i, i < m * m → 0 ≤ x0 i ∧ x0 i ≤ 63) {st : Fl} (hst : FlOK m st) (hk : st.qs[k]? = some p) {b : Bool}
    (h : Reach Try.prog todo0 t0 H0 L (sgTl b m (m * m) (.sl false (qAt b) 0 (qsZ st).length 1) (Int.ofNat k) []) (sgH b m (m * m) x0 X st.os st.M (qsZ st))) :
    ∃ b', Reach Try.prog todo0 t0 H0 sgR (sgTl b' m (m * m) (.sl false (qAt b') 0 (qsZ (fl4 m x0 X p st)).length 1) (Int.ofNat (k + 1)) []) (sgH b' m (m * m) x0 X (fl4 m x0 X p st).os (fl4 m x0 X p st).M (qsZ (fl4 m x0 X p st))) := by
  have hp := hst.low p (List.mem_of_getElem? hk)
  have hkl : k < st.qs.length := by
    rcases Nat.lt_or_ge k st.qs.length with h' | h'
    · exact h'
    · rw [List.getElem?_eq_none h'] at hk; cases hk
  have hmost := hst.most
  have hN : m * m ≤ 64 := by rcases hm with rfl | rfl | rfl | rfl <;> decide
  have hU : cupto Try.prog tabUf atLoop 200 L (sgTl b m (m * m) (.sl false (qAt b) 0 (qsZ st).length 1) (Int.ofNat k) []) (sgH b m (m * m) x0 X st.os st.M (qsZ st)) = sgU b m (m * m) x0 X st.os st.M (qsZ st) k := by
    unfold sgU
    rw [← hL, cupto_toLp]
  have hg := sgU_go b m (m * m) x0 X st.os st.M (qsZ st) k
  simp only [Prod.mk.injEq] at hg
  have hql := qsZ_len st
  have r0 := h.trans (cway_reach (P := Try.prog) (T := tabUf) (stop := atLoop) (n := 200) (L := L) (p := [true]) (M := siM) tabUf_sound (by
    rw [hU, hg.1]
    show (ltQ false (Int.ofNat k) ((qsZ st).length : Int) && true) = true
    rw [Bool.and_true]
    exact ltQ_true (by omega)) (by rw [hU]; exact hg.2) (by
    simp [sgQ, allT, Cells.len, hql]; omega))
  have ev : (qsZ st).getD (0 + k * 1) 0 = Int.ofNat p := by
    simp [qsZ, List.getD_eq_getElem?_getD, hk]
  rw [ev] at r0
  have r0 := r0.weak (t' := siT b m (m * m) (.sl false (qAt b) 0 (qsZ st).length 1) (Int.ofNat k) p 0) (eqv_of_bare rfl)
  have hsl : toLp (siL ++ []) = siR := by rw [List.append_nil]; rfl
  obtain ⟨b1, r1⟩ := si_step hm x0 X h0 hsl hp (by decide : 0 < 4) hst r0
  have s1 := fl1_ok (X := X) hm hx hp hst 0
  obtain ⟨b2, r2⟩ := si_step hm x0 X h0 siR_eq hp (by decide : 1 < 4) s1 r1
  have s2 := fl1_ok (X := X) hm hx hp s1 1
  obtain ⟨b3, r3⟩ := si_step hm x0 X h0 siR_eq hp (by decide : 2 < 4) s2 r2
  have s3 := fl1_ok (X := X) hm hx hp s2 2
  obtain ⟨b4, r4⟩ := si_step hm x0 X h0 siR_eq hp (by decide : 3 < 4) s3 r3
  have ho := siU_out b4 m (m * m) x0 X (fl4 m x0 X p st).os (fl4 m x0 X p st).M (qsZ (fl4 m x0 X p st)) k p
  simp only [Prod.mk.injEq] at ho
  have r5 := r4.trans (cway_reach (P := Try.prog) (T := tabUf) (stop := atLoop) (n := 200) (L := siR) (p := []) (M := sgM) tabUf_sound (by
    show allT (condsP (siU b4 m (m * m) x0 X (fl4 m x0 X p st).os (fl4 m x0 X p st).M (qsZ (fl4 m x0 X p st)) k p 4) []) = true
    rw [ho.1]; rfl) (by
    rw [Res.at_nil]
    exact ho.2) rfl)
  have e1 : wrapQ false .i64 (Int.ofNat k + 1) = Int.ofNat (k + 1) := ofNat_next (by omega)
  rw [e1] at r5
  exact ⟨b4, r5⟩
theorem sg_go {t0 : List AV} {H0 : List AB} {todo0 : List Item} (h0 : H0.length = 1) (hx : ∀ i, i < m * m → 0 ≤ x0 i ∧ x0 i ≤ 63) : ∀ (f k : Nat) {L : List Item} {st : Fl} {b : Bool}, toLp L = sgR → k + f = m * m + 1 → k ≤ st.qs.length → FlOK m st →
    Reach Try.prog todo0 t0 H0 L (sgTl b m (m * m) (.sl false (qAt b) 0 (qsZ st).length 1) (Int.ofNat k) []) (sgH b m (m * m) x0 X st.os st.M (qsZ st)) →
    ∃ L' b', toLp L' = sgR ∧ Reach Try.prog todo0 t0 H0 L' (sgTl b' m (m * m) (.sl false (qAt b') 0 (qsZ (flGo m x0 X f k st)).length 1) (Int.ofNat (flGo m x0 X f k st).qs.length) []) (sgH b' m (m * m) x0 X (flGo m x0 X f k st).os (flGo m x0 X f k st).M (qsZ (flGo m x0 X f k st)))
  | 0, k, L, st, b, _, hf, hk, hst, _ => by
    have := hst.most
    omega
  | f + 1, k, L, st, b, hL, hf, hk, hst, h => by
    unfold flGo
    cases hg : st.qs[k]? with
    | some p =>
      have hp := hst.low p (List.mem_of_getElem? hg)
      have hkl : k < st.qs.length := by
        rcases Nat.lt_or_ge k st.qs.length with h' | h'
        · exact h'
        · rw [List.getElem?_eq_none h'] at hg; cases hg
      have hmono : st.qs.length ≤ (fl4 m x0 X p st).qs.length := by
        have : ∀ (s : Fl) (i : Nat), s.qs.length ≤ (fl1 m x0 X p s i).qs.length := fun s i => by
          unfold fl1
          split
          · exact Nat.le_refl _
          · split
            · exact Nat.le_refl _
            · simp
        exact Nat.le_trans (this _ 0) (Nat.le_trans (this _ 1) (Nat.le_trans (this _ 2) (this _ 3)))
      obtain ⟨b', r⟩ := sg_round hm x0 X h0 hL hx hst hg h
      exact sg_go h0 hx f (k + 1) sgR_eq (by omega) (by omega) (fl4_ok hm hx hp hst) r
    | none =>
      have hkl : st.qs.length = k := by
        rcases Nat.lt_or_ge k st.qs.length with h' | h'
        · rw [List.getElem?_eq_getElem h'] at hg; cases hg
        · omega
      refine ⟨L, b, hL, ?_⟩
      show Reach Try.prog todo0 t0 H0 L (sgTl b m (m * m) (.sl false (qAt b) 0 (qsZ st).length 1) (Int.ofNat st.qs.length) []) (sgH b m (m * m) x0 X st.os st.M (qsZ st))
      rw [hkl]; exact h
end
theorem sgA_at {m : Nat} (hm : m = 1 ∨ m = 2 ∨ m = 4 ∨ m = 8) (x0 : Nat → Int) (X : Nat → Nat × Nat) {p : Nat} (hp : p < m * m) : sgAG m x0 X p = sgAW m x0 X p := by
  rcases hm with rfl | rfl | rfl | rfl
  · exact mapEq_at (sgA_1 x0 X) (List.mem_range.2 hp)
  · exact mapEq_at (sgA_2 x0 X) (List.mem_range.2 hp)
  · exact mapEq_at (sgA_4 x0 X) (List.mem_range.2 hp)
  · exact mapEq_at (sgA_8 x0 X) (List.mem_range.2 hp)
theorem sgB_at {m : Nat} (hm : m = 1 ∨ m = 2 ∨ m = 4 ∨ m = 8) (x0 : Nat → Int) (X : Nat → Nat × Nat) {p : Nat} (hp : p < m * m) : sgBG m x0 X p = sgBW m x0 X p := by
  rcases hm with rfl | rfl | rfl | rfl
  · exact mapEq_at (sgB_1 x0 X) (List.mem_range.2 hp)
  · exact mapEq_at (sgB_2 x0 X) (List.mem_range.2 hp)
  · exact mapEq_at (sgB_4 x0 X) (List.mem_range.2 hp)
  · exact mapEq_at (sgB_8 x0 X) (List.mem_range.2 hp)
theorem sgD_at {m : Nat} (hm : m = 1 ∨ m = 2 ∨ m = 4 ∨ m = 8) (x0 : Nat → Int) (X : Nat → Nat × Nat) {p : Nat} (hp : p < m * m) : sgDG m x0 X p = sgDW m x0 X p := by
  rcases hm with rfl | rfl | rfl | rfl
  · exact mapEq_at (sgD_1 x0 X) (List.mem_range.2 hp)
  · exact mapEq_at (sgD_2 x0 X) (List.mem_range.2 hp)
  · exact mapEq_at (sgD_4 x0 X) (List.mem_range.2 hp)
  · exact mapEq_at (sgD_8 x0 X) (List.mem_range.2 hp)
section
variable {m : Nat} (hm : m = 1 ∨ m = 2 ∨ m = 4 ∨ m = 8) (x0 : Nat → Int) (X : Nat → Nat × Nat) {p : Nat} (hp : p < m * m)
include hm hp
theorem sg_start (hw : wcZ m (zXL (m * m) x0) = 0) (hX : isMaskB m X = true) (hz : xzB X p = false) :
    Reach Try.prog [.code sfC] (floodArgs true m (m * m) (wvT true m X) ((p / m : Nat) : Int) ((p % m : Nat) : Int) ++ undefs 185) (lb (zXL (m * m) x0)) sgL (sgTl false m (m * m) (.sl false (qAt false) 0 (qsZ (flIni m x0 p)).length 1) (Int.ofNat 0) []) (sgH false m (m * m) x0 X (flIni m x0 p).os (flIni m x0 p).M (qsZ (flIni m x0 p))) := by
  have ha := sgA_at hm x0 X hp
  simp only [sgAG, sgAW, Prod.mk.injEq] at ha
  obtain ⟨a1, a2, _⟩ := ha
  have hb1 := bwC_false (m := m) (xs := zXL (m * m) x0) (X := X) (by omega) hX
  have rA := way_reach (P := Try.prog) (T := tabUf) (stop := atReg 8) (n := 200) (L := [.code sfC]) (R := [.code sfC]) (p := [false, false]) (M := sfM) (t0 := floodArgs true m (m * m) (wvT true m X) ((p / m : Nat) : Int) ((p % m : Nat) : Int) ++ undefs 185) (H0 := lb (zXL (m * m) x0)) tabUf_sound rfl (by
    show allT (condsP (sgA m x0 X p) [false, false]) = true
    rw [a1, hb1, swC_eq, hw, hz]; rfl) a2 rfl
  have rA2 := rA.post (H' := sfH m (m * m) x0 X) (heq_mid (blk_maskT m X) [] [.cells false (.ints .i64 (zXL (m * m) x0))])
  have hB := sgB_at hm x0 X hp
  have hreg := sf_reg
  simp only [Bool.and_eq_true] at hreg
  have rB := boxes5_way (P := Try.prog) (T := tabUf) (ops := opsOf sfL) (id := 8) (k := tlOf sfL) tabUf_sound (by kernel_rfl) 16 190 sfMk sfCs (Nat.le_of_ble_eq_true hreg.1) hreg.2.1 hreg.2.2 (t := sfT m (m * m) ((p / m : Nat) : Int) ((p % m : Nat) : Int)) (H := sfH m (m * m) x0 X) (t' := sfT2 m (m * m) ((p / m : Nat) : Int) ((p % m : Nat) : Int)) (H' := sfH2 m (m * m) x0 X (Int.ofNat p)) (M := sfM2) (nd := []) rfl rfl hB rfl
  rw [← sfL_eq] at rB
  have hdm : (m : Int) * ((p / m : Nat) : Int) + ((p % m : Nat) : Int) = Int.ofNat p := by
    have := Nat.div_add_mod p m
    rw [Int.ofNat_eq_natCast]
    conv => rhs; rw [← this]
    simp
  have hD := sgD_at hm x0 X hp
  simp only [sgDG, sgDW, Prod.mk.injEq] at hD
  have rD := cway_reach (P := Try.prog) (T := tabUf) (stop := atLoop) (n := 200) (L := tlOf sfL) (p := []) (M := sgM) (t0 := sfT2 m (m * m) ((p / m : Nat) : Int) ((p % m : Nat) : Int)) (H0 := sfH2 m (m * m) x0 X ((m : Int) * ((p / m : Nat) : Int) + ((p % m : Nat) : Int))) tabUf_sound (by
    show allT (condsP (sgD m x0 X p) []) = true
    rw [hD.1]; rfl) (by
    rw [Res.at_nil]
    exact hD.2) rfl
  rw [hdm] at rD
  have r := (rA2.trans rB).trans rD
  have r2 := r.post (H' := sfH m (m * m) x0 X ++ [.cells true (.ints .i64 (floodIni (m * m) x0 p)), metB (m * m) (metF (fun _ => false) p), .cells true (.lit [.i true .i64 (Int.ofNat p)]), rowB, colB]) (heq_mid (blk_litMet (m * m) p) _ (sfH m (m * m) x0 X ++ [.cells true (.ints .i64 (floodIni (m * m) x0 p))]))
  have hblk : (AB.cells true (.lit [.i true .i64 (Int.ofNat p)])).rw = (qB [Int.ofNat p]).rw ∧ (AB.cells true (.lit [.i true .i64 (Int.ofNat p)])).live = (qB [Int.ofNat p]).live ∧ ∀ σ z o, BlkRel σ z (AB.cells true (.lit [.i true .i64 (Int.ofNat p)])) o → BlkRel σ z (qB [Int.ofNat p]) o := by
    refine ⟨rfl, rfl, fun σ z o h => ?_⟩
    have h1 := (blk_bare (rw := true) (A := [AV.i true .i64 (Int.ofNat p)]) (B := [Int.ofNat p].map (AV.i false .i64)) rfl).2.2 σ z o h
    exact blk_toL (A := .lit ([Int.ofNat p].map (AV.i false .i64))) (B := .ints .i64 [Int.ofNat p]) rfl h1
  have r3 := r2.post (H' := sgH false m (m * m) x0 X (flIni m x0 p).os (flIni m x0 p).M (qsZ (flIni m x0 p))) (heq_mid hblk [rowB, colB] (sfH m (m * m) x0 X ++ [.cells true (.ints .i64 (floodIni (m * m) x0 p)), metB (m * m) (metF (fun _ => false) p)]))
  exact r3.weak (eqv_of_bare rfl)
theorem sg_good (hw : wcZ m (zXL (m * m) x0) = 0) (hX : isMaskB m X = true) (hz : xzB X p = false) (hx : ∀ i, i < m * m → 0 ≤ x0 i ∧ x0 i ≤ 63) :
    CallOK Try.prog 87 (floodArgs true m (m * m) (wvT true m X) ((p / m : Nat) : Int) ((p % m : Nat) : Int)) (lb (zXL (m * m) x0)) (.tup [.sl true 1 0 (m * m) 1, .i true .i64 0]) (lz (zXL (m * m) x0) (flEnd m x0 X p).os) := by
  obtain ⟨L', b', hL', r⟩ := sg_go hm x0 X (H0 := lb (zXL (m * m) x0)) rfl hx (m * m + 1) 0 (L := sgL) rfl (by omega) (Nat.zero_le _) (flIni_ok hx hp) (sg_start hm x0 X hp hw hX hz)
  have he := sgU_end b' m (m * m) x0 X (flEnd m x0 X p).os (flEnd m x0 X p).M (qsZ (flEnd m x0 X p)) (flEnd m x0 X p).qs.length
  simp only [Prod.mk.injEq] at he
  have hU : cupto Try.prog tabUf atLoop 200 L' (sgTl b' m (m * m) (.sl false (qAt b') 0 (qsZ (flEnd m x0 X p)).length 1) (Int.ofNat (flEnd m x0 X p).qs.length) []) (sgH b' m (m * m) x0 X (flEnd m x0 X p).os (flEnd m x0 X p).M (qsZ (flEnd m x0 X p))) = sgU b' m (m * m) x0 X (flEnd m x0 X p).os (flEnd m x0 X p).M (qsZ (flEnd m x0 X p)) (flEnd m x0 X p).qs.length := by
    unfold sgU
    rw [← hL', cupto_toLp]
  obtain ⟨t, g1, g2⟩ := endOf_ends (T := tabUf) (stop := atLoop) (n := 200) (todo := L') (t0 := sgTl b' m (m * m) (.sl false (qAt b') 0 (qsZ (flEnd m x0 X p)).length 1) (Int.ofNat (flEnd m x0 X p).qs.length) []) (H0 := sgH b' m (m * m) x0 X (flEnd m x0 X p).os (flEnd m x0 X p).M (qsZ (flEnd m x0 X p))) tabUf_sound he.2 (by
    rw [hU]
    refine sel_of_conds _ [false] ?_
    rw [he.1, qsZ_len, ltQ_same]; rfl) rfl
  have k := call_of_ends (args := floodArgs true m (m * m) (wvT true m X) ((p / m : Nat) : Int) ((p % m : Nat) : Int)) Try.func87 (rfl : Try.f87.body = some sfC) (r.ends g1) g2 rfl
  refine dropN_call (H0 := lb (zXL (m * m) x0)) (ks := [6, 5, 4, 3, 1]) ?_ k
  cases b' <;> rfl
end
end Go.Ax

/- Floods behind an open mask: all cells are met, and what holds along steps holds of all heights. -/
namespace Go.Ax
open Go Go.Proofs

/-! ### Where a flood goes -/
def fm1 (m p : Nat) (s : Nat × List Nat) (i : Nat) : Nat × List Nat := match tgt m p i with
  | none => s
  | some to => match Nat.testBit s.1 to with
    | true => s
    | false => (s.1 ||| 2 ^ to, s.2 ++ [to])
def fm4 (m p : Nat) (s : Nat × List Nat) : Nat × List Nat := fm1 m p (fm1 m p (fm1 m p (fm1 m p s 0) 1) 2) 3
def fmGo (m : Nat) : Nat → Nat → Nat × List Nat → Nat × List Nat
  | 0, _, s => s
  | f + 1, k, s => match s.2[k]? with
    | some p => fmGo m f (k + 1) (fm4 m p s)
    | none => s
def fmEnd (m : Nat) : Nat × List Nat := fmGo m (m * m + 1) 0 (1, [0])
structure FlM (s : Fl) (t : Nat × List Nat) : Prop where
  met : ∀ j, s.M j = Nat.testBit t.1 j
  qs : s.qs = t.2
theorem fm1_rel {m : Nat} {x0 : Nat → Int} {X : Nat → Nat × Nat} (hX : ∀ j, xzB X j = false) {p : Nat} {s : Fl} {t : Nat × List Nat} (h : FlM s t) (i : Nat) : FlM (fl1 m x0 X p s i) (fm1 m p t i) := by
  unfold fl1 fm1
  cases ht : tgt m p i with
  | none => exact h
  | some to =>
    simp only []
    rw [hX to, Bool.or_false, h.met to]
    cases hb : Nat.testBit t.1 to with
    | true => exact h
    | false =>
      refine ⟨fun j => ?_, by simp [h.qs]⟩
      show metF s.M to j = _
      rw [Nat.testBit_or, Nat.testBit_two_pow]
      by_cases hj : j = to
      · subst hj; rw [metF_same]; simp
      · rw [metF_ne s.M hj, h.met j]
        simp [show ¬ to = j from fun e => hj e.symm]
theorem fm4_rel {m : Nat} {x0 : Nat → Int} {X : Nat → Nat × Nat} (hX : ∀ j, xzB X j = false) {p : Nat} {s : Fl} {t : Nat × List Nat} (h : FlM s t) : FlM (fl4 m x0 X p s) (fm4 m p t) :=
  fm1_rel hX (fm1_rel hX (fm1_rel hX (fm1_rel hX h 0) 1) 2) 3
theorem fmGo_rel {m : Nat} {x0 : Nat → Int} {X : Nat → Nat × Nat} (hX : ∀ j, xzB X j = false) : ∀ (f k : Nat) {s : Fl} {t : Nat × List Nat}, FlM s t → FlM (flGo m x0 X f k s) (fmGo m f k t)
  | 0, _, _, _, h => h
  | f + 1, k, s, t, h => by
    unfold flGo fmGo
    rw [h.qs]
    cases t.2[k]? with
    | none => exact h
    | some p => exact fmGo_rel hX f (k + 1) (fm4_rel hX h)
theorem fmEnd_1 : (fmEnd 1).1 = 2 ^ 1 - 1 := by kernel_rfl
theorem fmEnd_2 : (fmEnd 2).1 = 2 ^ 4 - 1 := by kernel_rfl
theorem fmEnd_4 : (fmEnd 4).1 = 2 ^ 16 - 1 := by kernel_rfl
theorem fmEnd_8 : (fmEnd 8).1 = 2 ^ 64 - 1 := by kernel_rfl
theorem fl_all {m : Nat} (hm : m = 1 ∨ m = 2 ∨ m = 4 ∨ m = 8) {x0 : Nat → Int} {X : Nat → Nat × Nat} (hX : ∀ j, xzB X j = false) {j : Nat} (hj : j < m * m) : (flEnd m x0 X 0).M j = true := by
  have h : FlM (flEnd m x0 X 0) (fmEnd m) := by
    refine fmGo_rel hX _ _ ⟨fun j => ?_, rfl⟩
    show metF (fun _ => false) 0 j = _
    rcases Nat.eq_zero_or_pos j with rfl | hj
    · rfl
    · rw [metF_ne _ (by omega)]
      cases hb : Nat.testBit 1 j with
      | false => rfl
      | true => have := Nat.testBit_one_eq_true_iff_self_eq_zero.1 hb; omega
  rw [h.met]
  have key : ∀ n, (fmEnd m).1 = 2 ^ n - 1 → j < n → Nat.testBit (fmEnd m).1 j = true := fun n e hn => by
    rw [e, Nat.testBit_two_pow_sub_one]; simpa using hn
  rcases hm with rfl | rfl | rfl | rfl
  · exact key _ fmEnd_1 hj
  · exact key _ fmEnd_2 hj
  · exact key _ fmEnd_4 hj
  · exact key _ fmEnd_8 hj

/-! ### What holds along steps -/
structure FlQ (m : Nat) (Q : Nat → Int → Prop) (s : Fl) : Prop where
  qs : ∀ p ∈ s.qs, s.M p = true
  val : ∀ j, j < m * m → s.M j = true → Q j (s.os.getD j 0)
theorem fl1_q {m : Nat} (hm : m = 1 ∨ m = 2 ∨ m = 4 ∨ m = 8) {x0 : Nat → Int} (hx : ∀ i, i < m * m → 0 ≤ x0 i ∧ x0 i ≤ 63) {Q : Nat → Int → Prop}
    (he : ∀ p i to v, p < m * m → tgt m p i = some to → Q p v → Q to (v + ((x0 to - x0 p + 32) % 64 - 32))) {X : Nat → Nat × Nat} {p : Nat} (hp : p < m * m) {s : Fl} (h : FlOK m s) (hq : FlQ m Q s) (hpm : s.M p = true) (i : Nat) :
    FlQ m Q (fl1 m x0 X p s i) ∧ (fl1 m x0 X p s i).M p = true := by
  unfold fl1
  split
  · exact ⟨hq, hpm⟩
  · rename_i to ht
    have hto := tgt_lt hm hp ht
    split
    · exact ⟨hq, hpm⟩
    · rename_i hb
      rw [Bool.or_eq_false_iff] at hb
      have hne : p ≠ to := fun e => by rw [e, hb.1] at hpm; cases hpm
      have hl := h.most
      have hN : m * m ≤ 64 := by rcases hm with rfl | rfl | rfl | rfl <;> decide
      have hp' := h.bd p
      have x1 := hx p hp
      have x2 := hx to hto
      have e : visV x0 s.os p to = s.os.getD p 0 + ((x0 to - x0 p + 32) % 64 - 32) := by
        unfold visV
        rw [stZ_bound (by omega) (by omega)]
        exact small64 (by omega)
      refine ⟨⟨fun q hqm => ?_, fun j hj hjm => ?_⟩, ?_⟩
      · simp only [List.mem_append, List.mem_singleton] at hqm
        show metF s.M to q = true
        by_cases hqt : q = to
        · subst hqt; exact metF_same _ _
        · rw [metF_ne _ hqt]
          rcases hqm with hqm | hqm
          · exact hq.qs q hqm
          · exact absurd hqm hqt
      · show Q j ((s.os.set to (visV x0 s.os p to)).getD j 0)
        by_cases hjt : j = to
        · subst hjt
          have e2 : (s.os.set j (visV x0 s.os p j)).getD j 0 = visV x0 s.os p j := by simp [List.getD_eq_getElem?_getD, h.len, hj]
          rw [e2, e]
          exact he p i j _ hp ht (hq.val p hp hpm)
        · have e2 : (s.os.set to (visV x0 s.os p to)).getD j 0 = s.os.getD j 0 := by
            simp only [List.getD_eq_getElem?_getD]
            rw [List.getElem?_set_ne (fun e => hjt e.symm)]
          rw [e2]
          have hjm : metF s.M to j = true := hjm
          rw [metF_ne _ hjt] at hjm
          exact hq.val j hj hjm
      · show metF s.M to p = true
        rw [metF_ne _ hne]; exact hpm
theorem fl4_q {m : Nat} (hm : m = 1 ∨ m = 2 ∨ m = 4 ∨ m = 8) {x0 : Nat → Int} (hx : ∀ i, i < m * m → 0 ≤ x0 i ∧ x0 i ≤ 63) {Q : Nat → Int → Prop}
    (he : ∀ p i to v, p < m * m → tgt m p i = some to → Q p v → Q to (v + ((x0 to - x0 p + 32) % 64 - 32))) {X : Nat → Nat × Nat} {p : Nat} (hp : p < m * m) {s : Fl} (h : FlOK m s) (hq : FlQ m Q s) (hpm : s.M p = true) :
    FlQ m Q (fl4 m x0 X p s) := by
  have h0 := fl1_ok (X := X) hm hx hp h 0
  have q0 := fl1_q hm hx he (X := X) hp h hq hpm 0
  have h1 := fl1_ok (X := X) hm hx hp h0 1
  have q1 := fl1_q hm hx he (X := X) hp h0 q0.1 q0.2 1
  have h2 := fl1_ok (X := X) hm hx hp h1 2
  have q2 := fl1_q hm hx he (X := X) hp h1 q1.1 q1.2 2
  exact (fl1_q hm hx he (X := X) hp h2 q2.1 q2.2 3).1
theorem flGo_q {m : Nat} (hm : m = 1 ∨ m = 2 ∨ m = 4 ∨ m = 8) {x0 : Nat → Int} (hx : ∀ i, i < m * m → 0 ≤ x0 i ∧ x0 i ≤ 63) {Q : Nat → Int → Prop}
    (he : ∀ p i to v, p < m * m → tgt m p i = some to → Q p v → Q to (v + ((x0 to - x0 p + 32) % 64 - 32))) {X : Nat → Nat × Nat} : ∀ (f k : Nat) {s : Fl}, FlOK m s → FlQ m Q s → FlQ m Q (flGo m x0 X f k s)
  | 0, _, _, _, h => h
  | f + 1, k, s, h, hq => by
    unfold flGo
    split
    · rename_i p hp
      have hp := List.mem_of_getElem? hp
      exact flGo_q hm hx he f (k + 1) (fl4_ok hm hx (h.low p hp) h) (fl4_q hm hx he (h.low p hp) h hq (hq.qs p hp))
    · exact hq
theorem fl_q {m : Nat} (hm : m = 1 ∨ m = 2 ∨ m = 4 ∨ m = 8) {x0 : Nat → Int} (hx : ∀ i, i < m * m → 0 ≤ x0 i ∧ x0 i ≤ 63) {Q : Nat → Int → Prop}
    (he : ∀ p i to v, p < m * m → tgt m p i = some to → Q p v → Q to (v + ((x0 to - x0 p + 32) % 64 - 32))) (h0 : Q 0 (x0 0)) {X : Nat → Nat × Nat} (hX : ∀ j, xzB X j = false) {j : Nat} (hj : j < m * m) :
    Q j ((flEnd m x0 X 0).os.getD j 0) := by
  have hp : 0 < m * m := by omega
  have hi := flIni_ok hx hp
  have hq : FlQ m Q (flIni m x0 0) := by
    refine ⟨fun p hp => ?_, fun j hj hjm => ?_⟩
    · simp only [flIni, List.mem_singleton] at hp
      subst hp
      show metF (fun _ => false) 0 0 = true
      exact metF_same _ _
    · have hjm : metF (fun _ => false) 0 j = true := hjm
      have hj0 : j = 0 := by
        rcases Nat.eq_zero_or_pos j with h | h
        · exact h
        · rw [metF_ne _ (by omega)] at hjm; cases hjm
      subst hj0
      have : (flIni m x0 0).os.getD 0 0 = x0 0 := by simp [flIni, List.getD_eq_getElem?_getD, hp]
      rw [this]; exact h0
  exact (flGo_q hm hx he _ _ hi hq).val j hj (fl_all hm hX hj)
end Go.Ax

/- Rows unwrapped, as heights whose differences are the steps: without residues along columns, too. -/
namespace Go.Ax
open Go Go.Proofs

def stN (a b : Int) : Int := (b - a + 32) % 64 - 32
/-! ### The unwrapped rows -/
theorem rwP_next (m : Nat) (xs : List Int) (j i : Nat) (h : i ≠ j + 1) : (rwP m xs (j + 1)).getD i 0 = (rwP m xs j).getD i 0 := by
  conv => lhs; unfold rwP
  simp only [List.getD_eq_getElem?_getD]
  rw [List.getElem?_set_ne (fun e => h e.symm)]
theorem rwP_keep (m : Nat) (xs : List Int) (i : Nat) : ∀ j, i ≤ j → (rwP m xs j).getD i 0 = (rwP m xs i).getD i 0
  | 0, h => by
    have : i = 0 := by omega
    subst this; rfl
  | j + 1, h => by
    by_cases hi : i = j + 1
    · subst hi; rfl
    · rw [rwP_next m xs j i hi, rwP_keep m xs i j (by omega)]
theorem rwP_zero (m : Nat) (xs : List Int) (j : Nat) : (rwP m xs j).getD 0 0 = xs.getD 0 0 := by
  rw [rwP_keep m xs 0 j (Nat.zero_le _)]; rfl
theorem rwP_up {m : Nat} (hm : 0 < m) {xs : List Int} (hx : allI 0 63 xs = true) (hl : xs.length ≤ 64) {k j : Nat} (hk : 0 < k) (hkl : k < xs.length) (hkj : k ≤ j) :
    (rwP m xs j).getD k 0 = (rwP m xs j).getD (upN m k) 0 + stN (xs.getD (upN m k) 0) (xs.getD k 0) := by
  have hu := upN_lt hm hk
  obtain ⟨k', rfl⟩ : ∃ k', k = k' + 1 := ⟨k - 1, by omega⟩
  rw [rwP_keep m xs (k' + 1) j hkj, rwP_keep m xs (upN m (k' + 1)) j (by omega)]
  have e1 : (rwP m xs (k' + 1)).getD (k' + 1) 0 = rwStep m xs (rwP m xs k') (k' + 1) := by
    have hlen := rwP_length m xs k'
    conv => lhs; unfold rwP
    simp [List.getD_eq_getElem?_getD, hlen, hkl]
  rw [e1]
  unfold rwStep
  have x1 := allI_iff.1 hx (upN m (k' + 1)) (by omega)
  have x2 := allI_iff.1 hx (k' + 1) hkl
  have b1 := rwP_bound hm hx hl k' (upN m (k' + 1)) (by omega)
  rw [stZ_bound (by omega) (by omega)]
  rw [rwP_keep m xs (upN m (k' + 1)) k' (by omega)] at b1 ⊢
  rw [small64 (by omega)]
  rfl
/-! ### Steps -/
theorem stN_neg {a b : Int} (h : (b - a - 32) % 64 ≠ 0) : stN b a = -stN a b := by unfold stN; omega
theorem stN_mod (a b : Int) : (stN a b - (b - a)) % 64 = 0 := by unfold stN; omega
theorem stN_bd (a b : Int) : -32 ≤ stN a b ∧ stN a b ≤ 31 := by unfold stN; omega
theorem stZ_stN {a b : Int} (ha : 0 ≤ a ∧ a ≤ 63) (hb : 0 ≤ b ∧ b ≤ 63) : stZ a b = stN a b := stZ_bound (by omega) (by omega)
theorem rsV_zero {a b c d : Int} (ha : 0 ≤ a ∧ a ≤ 63) (hb : 0 ≤ b ∧ b ≤ 63) (hc : 0 ≤ c ∧ c ≤ 63) (hd : 0 ≤ d ∧ d ≤ 63) (h : rsV a b c d = 0) : stN a b + stN b c + stN c d + stN d a = 0 := by
  have b1 := stN_bd a b
  have b2 := stN_bd b c
  have b3 := stN_bd c d
  have b4 := stN_bd d a
  unfold rsV at h
  rw [stZ_stN ha hb, stZ_stN hb hc, stZ_stN hc hd, stZ_stN hd ha] at h
  rw [small64 (x := stN a b + stN b c) (by omega), small64 (x := stN a b + stN b c + stN c d) (by omega), small64 (x := stN a b + stN b c + stN c d + stN d a) (by omega)] at h
  have hm : (stN a b + stN b c + stN c d + stN d a) % 64 = 0 := by
    have m1 := stN_mod a b
    have m2 := stN_mod b c
    have m3 := stN_mod c d
    have m4 := stN_mod d a
    omega
  have hs : -128 ≤ stN a b + stN b c + stN c d + stN d a ∧ stN a b + stN b c + stN c d + stN d a ≤ 124 := by omega
  generalize stN a b + stN b c + stN c d + stN d a = s at *
  have hw : IntKind.i64.wrap (s.tdiv 64) = s.tdiv 64 := by
    have hq : -2 ≤ s.tdiv 64 ∧ s.tdiv 64 ≤ 2 := by
      rcases Int.le_total 0 s with h0 | h0
      · rw [Int.tdiv_eq_ediv_of_nonneg h0]; omega
      · have : s.tdiv 64 = -((-s).tdiv 64) := by rw [Int.neg_tdiv]; omega
        rw [this, Int.tdiv_eq_ediv_of_nonneg (by omega)]; omega
    exact wrap64_id (by omega) (by omega)
  rw [hw] at h
  rcases Int.le_total 0 s with h0 | h0
  · rw [Int.tdiv_eq_ediv_of_nonneg h0] at h; omega
  · have : s.tdiv 64 = -((-s).tdiv 64) := by rw [Int.neg_tdiv]; omega
    rw [this, Int.tdiv_eq_ediv_of_nonneg (by omega)] at h; omega
/-! ### Without residues and differences of half a turn -/
structure Clean (m : Nat) (x : Nat → Int) : Prop where
  rs : ∀ y j, y + 1 < m → j + 1 < m → stN (x (m * y + j)) (x (m * y + j + 1)) + stN (x (m * y + j + 1)) (x (m * y + m + j + 1)) + stN (x (m * y + m + j + 1)) (x (m * y + m + j)) + stN (x (m * y + m + j)) (x (m * y + j)) = 0
  right : ∀ i, i < m * m → i % m + 1 < m → (x (i + 1) - x i - 32) % 64 ≠ 0
  down : ∀ i, i + m < m * m → (x (i + m) - x i - 32) % 64 ≠ 0
theorem my_mod {m y j : Nat} (hj : j < m) : (m * y + j) % m = j := by rw [Nat.mul_add_mod]; exact Nat.mod_eq_of_lt hj
theorem my_lt {m y j : Nat} (hy : y < m) (hj : j < m) : m * y + j < m * m := by
  have : m * (y + 1) ≤ m * m := Nat.mul_le_mul_left _ hy
  rw [Nat.mul_add, Nat.mul_one] at this
  omega
section
variable {m : Nat} {x R : Nat → Int} (hm : 0 < m) (hR : ∀ k, 0 < k → k < m * m → R k = R (upN m k) + stN (x (upN m k)) (x k))
include hm hR
theorem edge_right {i : Nat} (hi : i + 1 < m * m) (h : i % m + 1 < m) : R (i + 1) = R i + stN (x i) (x (i + 1)) := by
  have h1 := hR (i + 1) (Nat.succ_pos _) hi
  have e : (i + 1) % m = i % m + 1 := by
    rw [Nat.add_mod, Nat.mod_eq_of_lt (show 1 < m by omega), Nat.mod_eq_of_lt h]
  have e2 : upN m (i + 1) = i := by
    unfold upN
    rw [if_neg (by omega)]; omega
  rw [e2] at h1
  exact h1
theorem edge_down (hc : Clean m x) {y : Nat} (hy : y + 1 < m) : ∀ c, c < m → R (m * y + m + c) = R (m * y + c) + stN (x (m * y + c)) (x (m * y + m + c))
  | 0, _ => by
    have hlt : m * y + m + 0 < m * m := by
      have := my_lt (m := m) (y := y + 1) (j := 0) (by omega) hm
      rw [Nat.mul_add, Nat.mul_one] at this; exact this
    have h1 := hR (m * y + m + 0) (by omega) hlt
    have e : upN m (m * y + m + 0) = m * y := by
      unfold upN
      rw [if_pos (by rw [Nat.add_zero, Nat.add_mod_right, Nat.mul_mod_right])]
      omega
    rw [e] at h1
    exact h1
  | c + 1, hcm => by
    have ih := edge_down hc hy c (by omega)
    have l1 := my_lt (m := m) (y := y) (j := c + 1) (by omega) hcm
    have l2 := my_lt (m := m) (y := y + 1) (j := c + 1) (by omega) hcm
    rw [Nat.mul_add, Nat.mul_one] at l2
    have r1 := edge_right hm hR (i := m * y + c) (by omega) (by rw [my_mod (by omega)]; exact hcm)
    have r2 := edge_right hm hR (i := m * y + m + c) (by omega) (by
      have : (m * y + m + c) % m = c := by
        have := my_mod (m := m) (y := y + 1) (j := c) (by omega)
        rwa [Nat.mul_add, Nat.mul_one] at this
      omega)
    have hrs := hc.rs y c hy hcm
    have n1 := hc.right (m * y + m + c) (by omega) (by
      have : (m * y + m + c) % m = c := by
        have := my_mod (m := m) (y := y + 1) (j := c) (by omega)
        rwa [Nat.mul_add, Nat.mul_one] at this
      omega)
    have n2 := hc.down (m * y + c) (by omega)
    have e1 : m * y + c + m = m * y + m + c := by omega
    rw [e1] at n2
    have a1 := stN_neg n1
    have a2 := stN_neg n2
    show R (m * y + m + c + 1) = R (m * y + c + 1) + stN (x (m * y + c + 1)) (x (m * y + m + c + 1))
    omega
theorem edges (hm4 : m = 1 ∨ m = 2 ∨ m = 4 ∨ m = 8) (hc : Clean m x) {p i to : Nat} (hp : p < m * m) (h : tgt m p i = some to) : R to = R p + stN (x p) (x to) := by
  have hright : ∀ q, q < m * m → q % m + 1 < m → R (q + 1) = R q + stN (x q) (x (q + 1)) := fun q hq h1 => by
    refine edge_right hm hR ?_ h1
    rcases hm4 with rfl | rfl | rfl | rfl <;> omega
  have hdown : ∀ q, q + m < m * m → R (q + m) = R q + stN (x q) (x (q + m)) := fun q hq => by
    have e : m * (q / m) + q % m = q := Nat.div_add_mod q m
    have hy : q / m + 1 < m := by rcases hm4 with rfl | rfl | rfl | rfl <;> omega
    have := edge_down hm hR hc hy (q % m) (Nat.mod_lt _ hm)
    rw [show m * (q / m) + m + q % m = q + m by omega, e] at this
    exact this
  unfold tgt at h
  split at h
  · split at h <;> cases h
    rename_i h1
    exact hright p hp h1
  · split at h <;> cases h
    rename_i h1
    exact hdown p (by rcases hm4 with rfl | rfl | rfl | rfl <;> omega)
  · split at h <;> cases h
    rename_i h1
    have hq : p - 1 + 1 = p := by
      have : p % m ≤ p := Nat.mod_le _ _
      omega
    have hc1 : (p - 1) % m + 1 < m := by rcases hm4 with rfl | rfl | rfl | rfl <;> omega
    have e := hright (p - 1) (by omega) hc1
    have n := stN_neg (hc.right (p - 1) (by omega) hc1)
    rw [hq] at e n
    omega
  · split at h <;> cases h
    rename_i h1
    have hq : p - m + m = p := by
      rcases hm4 with rfl | rfl | rfl | rfl <;> omega
    have e := hdown (p - m) (by omega)
    have n := stN_neg (hc.down (p - m) (by omega))
    rw [hq] at e n
    omega
end
theorem ext_getD {l l' : List Int} (h : l.length = l'.length) (hg : ∀ j, j < l.length → l.getD j 0 = l'.getD j 0) : l = l' := by
  refine List.ext_getElem h fun j h1 h2 => ?_
  have := hg j h1
  simpa [List.getD_eq_getElem?_getD, h1, h2] using this
/-- The flood of an open mask of a clean map is the map unwrapped along rows. -/
theorem flood_rows {m : Nat} (hm : m = 1 ∨ m = 2 ∨ m = 4 ∨ m = 8) {xs : List Int} (hl : xs.length = m * m) (hx : allI 0 63 xs = true) (hc : Clean m fun j => xs.getD j 0) {X : Nat → Nat × Nat} (hX : ∀ j, xzB X j = false) :
    (flEnd m (fun j => xs.getD j 0) X 0).os = rwL (m : Int) xs := by
  have hm0 : 0 < m := by omega
  have hN : m * m ≤ 64 := by rcases hm with rfl | rfl | rfl | rfl <;> decide
  have hN0 : 0 < m * m := Nat.mul_pos hm0 hm0
  have hb : ∀ i, i < m * m → 0 ≤ xs.getD i 0 ∧ xs.getD i 0 ≤ 63 := fun i hi => allI_iff.1 hx i (by omega)
  have hf := flEnd_ok (X := X) hm (x0 := fun j => xs.getD j 0) hb hN0
  have hrl : (rwL (m : Int) xs).length = m * m := by unfold rwL; rw [rwP_length, hl]
  refine ext_getD (by rw [hf.len, hrl]) fun j hj => ?_
  rw [hf.len] at hj
  exact fl_q hm (x0 := fun j => xs.getD j 0) hb (Q := fun j v => v = (rwL (m : Int) xs).getD j 0) (fun p i to v hp ht hv => by
      subst hv
      refine (edges (m := m) (R := fun j => (rwL (m : Int) xs).getD j 0) (x := fun j => xs.getD j 0) hm0 (fun k hk hkm => ?_) hm hc hp ht).symm
      unfold rwL
      exact rwP_up hm0 hx (by omega) hk (by omega) (by simp; omega)) (by
        show xs.getD 0 0 = _
        unfold rwL
        rw [rwP_zero]) hX hj
/-- The flood of an open mask, wrapped again, is the map. -/
theorem flood_wrap {m : Nat} (hm : m = 1 ∨ m = 2 ∨ m = 4 ∨ m = 8) {x0 : Nat → Int} (hx : ∀ i, i < m * m → 0 ≤ x0 i ∧ x0 i ≤ 63) {X : Nat → Nat × Nat} (hX : ∀ j, xzB X j = false) {j : Nat} (hj : j < m * m) :
    ((flEnd m x0 X 0).os.getD j 0 - x0 j) % 64 = 0 :=
  fl_q hm hx (Q := fun j v => (v - x0 j) % 64 = 0) (fun p i to v _ _ hv => by omega) (by simp) hX hj
end Go.Ax

/- UnwrapFlood, of both sides: rows. -/
namespace Go.Ax
open Go Go.Proofs

noncomputable def rgC (n s y x : Int) : Bool := cond (!eqQ false s n) true (cond (!(cond (leQ false 0 y) (leQ false y (wrapQ false .i64 (n - 1))) false)) true (!(cond (leQ false 0 x) (leQ false x (wrapQ false .i64 (n - 1))) false)))
noncomputable def fcZ (n : Int) (xs : List Int) (s : Int) (X : Nat → Nat × Nat) (y x : Int) : Int := match bwC (wcZ n xs) s X with
  | true => 1
  | false => match rgC n s y x with
    | true => 2
    | false => match swC (wcZ n xs) X (n * y + x).toNat with
      | true => 5
      | false => 0
def fdL (n : Int) (xs : List Int) (X : Nat → Nat × Nat) (y x : Int) : List Int := (flEnd n.toNat (fun j => xs.getD j 0) X (n * y + x).toNat).os
noncomputable def uh0 (n : Int) (xs : List Int) (s : Int) (X : Nat → Nat × Nat) (y x : Int) : Res := jupto Try.prog tabUf atLoop 200 [.code uhC] (.i false .i64 n :: .sl false 0 0 xs.length 1 :: wv s X :: .i false .i64 y :: .i false .i64 x :: undefs 188) (lb xs)
section
variable (n : Int) (xs : List Int) (s : Int) (X : Nat → Nat × Nat) (y x : Int)
def badH : List AB := [.cells false (.ints .i64 xs), maskB s X]
theorem uh0_1 : (condsP (uh0 n xs s X y x) [true], endOf Try.prog Try.f85.results.toList ((uh0 n xs s X y x).at [true])) = ([bwC (wcZ n xs) s X], some (some ([.slnil, .i true .i64 1], []), badH xs s X, szQ xs)) := by kernel_rfl
theorem uh0_2 : (condsP (uh0 n xs s X y x) [false, true], endOf Try.prog Try.f85.results.toList ((uh0 n xs s X y x).at [false, true])) = ([!bwC (wcZ n xs) s X, rgC n s y x], some (some ([.slnil, .i true .i64 2], []), badH xs s X, szQ xs)) := by kernel_rfl
theorem sf0_1 : (condsP (sf0 n xs s X y x) [true], endOf Try.prog Try.f87.results.toList ((sf0 n xs s X y x).at [true])) = ([bwC (wcZ n xs) s X], some (some ([.slnil, .i true .i64 1], []), badH xs s X, szQ xs)) := by kernel_rfl
theorem sf0_2 : (condsP (sf0 n xs s X y x) [false, true], endOf Try.prog Try.f87.results.toList ((sf0 n xs s X y x).at [false, true])) = ([!bwC (wcZ n xs) s X, rgC n s y x], some (some ([.slnil, .i true .i64 2], []), badH xs s X, szQ xs)) := by kernel_rfl
end
/-- What is asked of a flood's function. -/
structure FloodOK (f : FuncId) : Prop where
  one : ∀ n xs s X y x, xs.length ≤ 5000 → bwC (wcZ n xs) s X = true → CallOK Try.prog f (floodArgs false n xs.length (wv s X) y x) (lb xs) (.tup [.slnil, .i false .i64 1]) (lb xs)
  two : ∀ n xs s X y x, xs.length ≤ 5000 → bwC (wcZ n xs) s X = false → rgC n s y x = true → CallOK Try.prog f (floodArgs false n xs.length (wv s X) y x) (lb xs) (.tup [.slnil, .i false .i64 2]) (lb xs)
  five : ∀ {m : Nat}, m = 1 ∨ m = 2 ∨ m = 4 ∨ m = 8 → ∀ x0 X {p : Nat}, p < m * m → bwC (wcZ m (zXL (m * m) x0)) m X = false → swC (wcZ m (zXL (m * m) x0)) X p = true →
    CallOK Try.prog f (floodArgs true m (m * m) (wvT true m X) ((p / m : Nat) : Int) ((p % m : Nat) : Int)) (lb (zXL (m * m) x0)) (.tup [.slnil, .i true .i64 5]) (lb (zXL (m * m) x0))
  good : ∀ {m : Nat}, m = 1 ∨ m = 2 ∨ m = 4 ∨ m = 8 → ∀ x0 X {p : Nat}, p < m * m → wcZ m (zXL (m * m) x0) = 0 → isMaskB m X = true → xzB X p = false → (∀ i, i < m * m → 0 ≤ x0 i ∧ x0 i ≤ 63) →
    CallOK Try.prog f (floodArgs true m (m * m) (wvT true m X) ((p / m : Nat) : Int) ((p % m : Nat) : Int)) (lb (zXL (m * m) x0)) (.tup [.sl true 1 0 (m * m) 1, .i true .i64 0]) (lz (zXL (m * m) x0) (flEnd m x0 X p).os)
theorem bad_flood {f : FuncId} {fn : Func} {C : Code} {n : Int} {xs : List Int} {s : Int} {X : Nat → Nat × Nat} {y x z : Int} {ps cs : List Bool} {q : Nat} (hf : Try.prog.funcs[f]? = some fn) (hb : fn.body = some C) (hq : fn.ntmps - 5 = q)
    (h : (condsP (jupto Try.prog tabUf atLoop 200 [.code C] (floodArgs false n xs.length (wv s X) y x ++ undefs q) (lb xs)) ps, endOf Try.prog fn.results.toList ((jupto Try.prog tabUf atLoop 200 [.code C] (floodArgs false n xs.length (wv s X) y x ++ undefs q) (lb xs)).at ps)) = (cs, some (some ([.slnil, .i true .i64 z], []), badH xs s X, szQ xs)))
    (hc : allT cs = true) (h5 : xs.length ≤ 5000) : CallOK Try.prog f (floodArgs false n xs.length (wv s X) y x) (lb xs) (.tup [.slnil, .i false .i64 z]) (lb xs) := by
  simp only [Prod.mk.injEq] at h
  obtain ⟨t, g1, g2⟩ := way_ends (P := Try.prog) (T := tabUf) (stop := atLoop) (n := 200) (L := [.code C]) (R := [.code C]) tabUf_sound rfl (by rw [h.1]; exact hc) h.2 (szQ_ok h5)
  subst hq
  have k := call_of_ends (args := floodArgs false n xs.length (wv s X) y x) (m := []) hf hb g1 g2 rfl
  exact (dropN_call (H0 := lb xs) (ks := [1]) (v' := .tup [.slnil, .i true .i64 z]) (H' := lb xs) rfl k).weaken fun σ x r => tupW (l := [.slnil, .i true .i64 z]) (by rfl) r
theorem five_flood {f : FuncId} {fn : Func} {C : Code} {m p : Nat} {x0 : Nat → Int} {X : Nat → Nat × Nat} {cs : List Bool} {q : Nat} (hf : Try.prog.funcs[f]? = some fn) (hb : fn.body = some C) (hq : fn.ntmps - 5 = q)
    (h1 : condsP (jupto Try.prog tabUf (atReg 8) 200 [.code C] (floodArgs true m (m * m) (wvT true m X) ((p / m : Nat) : Int) ((p % m : Nat) : Int) ++ undefs q) (lb (zXL (m * m) x0))) [false, true] = cs)
    (h2 : endOf Try.prog fn.results.toList ((jupto Try.prog tabUf (atReg 8) 200 [.code C] (floodArgs true m (m * m) (wvT true m X) ((p / m : Nat) : Int) ((p % m : Nat) : Int) ++ undefs q) (lb (zXL (m * m) x0))).at [false, true]) = some (some ([.slnil, .i true .i64 5], []), sfHt m (m * m) x0 X, [true, true, true]))
    (hc : allT cs = true) : CallOK Try.prog f (floodArgs true m (m * m) (wvT true m X) ((p / m : Nat) : Int) ((p % m : Nat) : Int)) (lb (zXL (m * m) x0)) (.tup [.slnil, .i true .i64 5]) (lb (zXL (m * m) x0)) := by
  obtain ⟨t, g1, g2⟩ := way_ends (P := Try.prog) (T := tabUf) (stop := atReg 8) (n := 200) (L := [.code C]) (R := [.code C]) tabUf_sound rfl (by rw [h1]; exact hc) h2 rfl
  subst hq
  have k := call_of_ends (args := floodArgs true m (m * m) (wvT true m X) ((p / m : Nat) : Int) ((p % m : Nat) : Int)) (m := []) hf hb g1 g2 rfl
  exact dropN_call (H0 := lb (zXL (m * m) x0)) (ks := [1]) rfl k
theorem flood85 : FloodOK 85 where
  one n xs s X y x h5 h := bad_flood (ps := [true]) (q := 188) Try.func85 (rfl : Try.f85.body = some uhC) rfl (uh0_1 n xs s X y x) (by rw [h]; rfl) h5
  two n xs s X y x h5 h h2 := bad_flood (ps := [false, true]) (q := 188) Try.func85 (rfl : Try.f85.body = some uhC) rfl (uh0_2 n xs s X y x) (by rw [h, h2]; rfl) h5
  five hm x0 X p hp h1 h2 := by
    have ha := uhA_at hm x0 X hp
    simp only [uhAG, uhAW, Prod.mk.injEq] at ha
    exact five_flood (q := 188) Try.func85 (rfl : Try.f85.body = some uhC) rfl ha.2.2.1 ha.2.2.2 (by rw [h1, h2]; rfl)
  good hm x0 X p hp hw hX hz hx := uh_good hm x0 X hp hw hX hz hx
theorem flood87 : FloodOK 87 where
  one n xs s X y x h5 h := bad_flood (ps := [true]) (q := 185) Try.func87 (rfl : Try.f87.body = some sfC) rfl (sf0_1 n xs s X y x) (by rw [h]; rfl) h5
  two n xs s X y x h5 h h2 := bad_flood (ps := [false, true]) (q := 185) Try.func87 (rfl : Try.f87.body = some sfC) rfl (sf0_2 n xs s X y x) (by rw [h, h2]; rfl) h5
  five hm x0 X p hp h1 h2 := by
    have ha := sgA_at hm x0 X hp
    simp only [sgAG, sgAW, Prod.mk.injEq] at ha
    exact five_flood (q := 185) Try.func87 (rfl : Try.f87.body = some sfC) rfl ha.2.2.1 ha.2.2.2 (by rw [h1, h2]; rfl)
  good hm x0 X p hp hw hX hz hx := sg_good hm x0 X hp hw hX hz hx
/-! ### The row -/
theorem rgC_false {n s y x : Int} (hn : 1 ≤ n ∧ n ≤ 8) (h : rgC n s y x = false) : s = n ∧ 0 ≤ y ∧ y < n ∧ 0 ≤ x ∧ x < n := by
  unfold rgC at h
  rw [eqQ_eq, leQ_eq, leQ_eq, leQ_eq, leQ_eq, small64 (x := n - 1) (by omega)] at h
  by_cases h1 : s = n
  · by_cases h2 : 0 ≤ y
    · by_cases h3 : y ≤ n - 1
      · by_cases h4 : 0 ≤ x
        · by_cases h5 : x ≤ n - 1
          · omega
          · simp [h1, h2, h3, h4, h5] at h
        · simp [h1, h2, h3, h4] at h
      · simp [h1, h2, h3] at h
    · simp [h1, h2] at h
  · simp [h1] at h
theorem bwC_map {n : Int} {xs : List Int} {s : Int} {X : Nat → Nat × Nat} (h : bwC (wcZ n xs) s X = false) : isMaskB s X = true ∧ ∃ m : Nat, n = (m : Int) ∧ (m = 1 ∨ m = 2 ∨ m = 4 ∨ m = 8) ∧ xs.length = m * m := by
  unfold bwC at h
  rw [eqQ_eq, isMaskB_re] at h
  cases hw : wcZ n xs == 1 with
  | true => rw [hw] at h; cases h
  | false =>
    rw [hw] at h
    refine ⟨by simpa using h, ?_⟩
    have hne : wcZ n xs ≠ 1 := by simpa using hw
    have hmap : isMapZ n xs = true := by
      cases hi : isMapZ n xs with
      | true => rfl
      | false => exact absurd (by unfold wcZ; rw [hi]) hne
    simp only [isMapZ, Bool.and_eq_true, decide_eq_true_eq] at hmap
    obtain ⟨hs, hl, _⟩ := hmap
    rcases sideB_iff.1 hs with rfl | rfl | rfl | rfl
    · exact ⟨1, rfl, by omega, by omega⟩
    · exact ⟨2, rfl, by omega, by omega⟩
    · exact ⟨4, rfl, by omega, by omega⟩
    · exact ⟨8, rfl, by omega, by omega⟩
theorem place_at {m : Nat} (hm : 0 < m) {y x : Int} (h1 : 0 ≤ y) (h2 : y < m) (h3 : 0 ≤ x) (h4 : x < m) : ∃ p : Nat, p < m * m ∧ y = ((p / m : Nat) : Int) ∧ x = ((p % m : Nat) : Int) ∧ ((m : Int) * y + x).toNat = p := by
  obtain ⟨a, rfl⟩ := Int.eq_ofNat_of_zero_le h1
  obtain ⟨b, rfl⟩ := Int.eq_ofNat_of_zero_le h3
  have ha : a < m := by omega
  have hb : b < m := by omega
  refine ⟨m * a + b, my_lt ha hb, ?_, ?_, ?_⟩
  · rw [Nat.mul_add_div hm, Nat.div_eq_of_lt hb, Nat.add_zero]
  · rw [my_mod hb]
  · have : (m : Int) * (a : Int) + (b : Int) = ((m * a + b : Nat) : Int) := by simp
    rw [this]; exact Int.toNat_natCast _
noncomputable def fdT : Table := fun _ args H nd K =>
  match args with
  | [.i _ .i64 n, a, .agg l, .i _ .i64 y, .i _ .i64 x] => match intsAt H a, ofW l with
    | some (xs, q), some (s, X) => .ite (eqQ false (fcZ n xs s X y x) 0) (K (.tup [.sl false H.length 0 (fdL n xs X y x).length 1, .i true .i64 0]) (H ++ [.cells true (.ints .i64 (fdL n xs X y x))]) (q ++ nd)) (K (.tup [.slnil, .i false .i64 (fcZ n xs s X y x)]) H (q ++ nd))
    | _, _ => .fail
  | _ => .fail
theorem fl_new {P : Program} {f : FuncId} {n : Int} {xs ys : List Int} {s : AV} {y x : Int} {v : AV} (h : CallOK P f (floodArgs false n xs.length s y x) (lb xs) (.tup [.sl false 1 0 ys.length 1, v]) (lz xs ys)) (hv : below 0 v = true) (hs : below 0 s = true) {H : List AB} {id : Nat} {r l l2 l3 l4 : Bool} (hg : getB H id = .cells r (.ints .i64 xs)) :
    CallOK P f [.i l2 .i64 n, .sl l id 0 xs.length 1, s, .i l3 .i64 y, .i l4 .i64 x] H (.tup [.sl false H.length 0 ys.length 1, v]) (H ++ [.cells true (.ints .i64 ys)]) := by
  have hpl : (floodArgs false n xs.length s y x).all (plainV (lb xs).length) = true := by
    have : ([s] : List AV).all (plainV (lb xs).length) = true := plain_lowL (by simp [belowL, hs]) _
    simp only [List.all_cons, List.all_nil, Bool.and_true] at this
    simp only [floodArgs, List.all_cons, List.all_nil, this]
    rfl
  have k := h.pick (fun i => by match i with
    | 0 => rfl
    | i + 1 => rfl) hpl [id] rfl H (fun i hi => by
      have : i = 0 := by simp [lb] at hi; exact hi
      subst this
      refine ⟨getB_lt hg, fun σ τ z o hb => ?_⟩
      have e : ([id] : List Nat).getD 0 0 = id := rfl
      rw [e, hg] at hb
      exact ro_ints hb)
  have e1 : (H ++ ((lz xs ys).drop (lb xs).length).map (mapB (pickI (lb xs).length H.length [id]))) = H ++ [.cells true (.ints .i64 ys)] := rfl
  have e2 : mapV (pickI (lb xs).length H.length [id]) (.tup [.sl false 1 0 ys.length 1, v]) = .tup [.sl false H.length 0 ys.length 1, v] := by
    show AV.tup [.sl false (pickI 1 H.length [id] 1) 0 ys.length 1, mapV _ v] = _
    rw [mapV_low _ hv]
    have : pickI 1 H.length [id] 1 = H.length := by simp [pickI]
    rw [this]
  have e3 : mapL (pickI (lb xs).length H.length [id]) (floodArgs false n xs.length s y x) = [.i false .i64 n, .sl false id 0 xs.length 1, s, .i false .i64 y, .i false .i64 x] := by
    show [AV.i false .i64 n, .sl false (pickI 1 H.length [id] 0) 0 xs.length 1, mapV _ s, .i false .i64 y, .i false .i64 x] = _
    rw [mapV_low _ hs]
    rfl
  rw [e1, e2, e3] at k
  exact k.bare rfl
theorem fdT_at {f : FuncId} (F : FloodOK f) : SoundAt Try.prog f fdT := fun args H nd K => by
  unfold fdT
  split
  case h_2 => exact .inl rfl
  rename_i l0 n a l ly y lx x
  split
  case h_2 => exact .inl rfl
  rename_i xs q s X hi hw
  rw [eqQ_eq]
  have deep : ∀ {a : AV} {v : AV} {H' : List AB}, CallOK Try.prog f [.i l0 .i64 n, a, wv s X, .i ly .i64 y, .i lx .i64 x] H v H' → CallOK Try.prog f [.i l0 .i64 n, a, .agg l, .i ly .i64 y, .i lx .i64 x] H v H' := fun h => h.deep (by simp only [List.map_cons, ofW_spec hw])
  have bad : ∀ z, z ≠ 0 → fcZ n xs s X y x = z → (xs.length ≤ 5000 → CallOK Try.prog f (floodArgs false n xs.length (wv s X) y x) (lb xs) (.tup [.slnil, .i false .i64 z]) (lb xs)) →
      (Res.ite (fcZ n xs s X y x == 0) (K (.tup [.sl false H.length 0 (fdL n xs X y x).length 1, .i true .i64 0]) (H ++ [.cells true (.ints .i64 (fdL n xs X y x))]) (q ++ nd)) (K (.tup [.slnil, .i false .i64 (fcZ n xs s X y x)]) H (q ++ nd))).sel = .fail ∨
      ∃ v H' nd', (Res.ite (fcZ n xs s X y x == 0) (K (.tup [.sl false H.length 0 (fdL n xs X y x).length 1, .i true .i64 0]) (H ++ [.cells true (.ints .i64 (fdL n xs X y x))]) (q ++ nd)) (K (.tup [.slnil, .i false .i64 (fcZ n xs s X y x)]) H (q ++ nd))).sel = (K v H' nd').sel ∧ (allT nd' = true → allT nd = true ∧ CallOK Try.prog f [.i l0 .i64 n, a, .agg l, .i ly .i64 y, .i lx .i64 x] H v H') := by
    intro z hz e hcall
    rw [e]
    have e2 : (z == 0) = false := by simpa using hz
    rw [e2]
    refine .inr ⟨_, _, _, rfl, fun hn => ?_⟩
    rw [allT_append, Bool.and_eq_true] at hn
    obtain ⟨l2, id, r, rfl, hgb, h5⟩ := intsAt_spec hi hn.1
    have k := call_readA (pre := [.i false .i64 n]) (post := [wv s X, .i false .i64 y, .i false .i64 x]) (hcall h5) rfl (by simp only [belowL, wv_low]; rfl) rfl (l := l2) hgb
    exact ⟨hn.2, deep (k.bare rfl)⟩
  cases hb : bwC (wcZ n xs) s X with
  | true => exact bad 1 (by decide) (by unfold fcZ; rw [hb]) fun h5 => F.one n xs s X y x h5 hb
  | false =>
    cases hr : rgC n s y x with
    | true => exact bad 2 (by decide) (by unfold fcZ; rw [hb, hr]) fun h5 => F.two n xs s X y x h5 hb hr
    | false =>
      obtain ⟨hmask, m, rfl, hm, hl⟩ := bwC_map hb
      have hm1 : 0 < m ∧ m ≤ 8 := by omega
      obtain ⟨rfl, hy0, hy1, hx0, hx1⟩ := rgC_false (by omega) hr
      obtain ⟨p, hp, hy, hx, hpp⟩ := place_at hm1.1 hy0 hy1 hx0 hx1
      have hxl := zXL_of hl
      have hdeep : ∀ {v : AV} {H' : List AB}, CallOK Try.prog f (floodArgs true m (m * m) (wvT true m X) ((p / m : Nat) : Int) ((p % m : Nat) : Int)) (lb xs) v H' → CallOK Try.prog f (floodArgs false m xs.length (wv m X) y x) (lb xs) v H' := fun h => by
        rw [hl, hy, hx]
        exact h.deep rfl
      cases hsw : swC (wcZ m xs) X p with
      | true =>
        refine bad 5 (by decide) (by unfold fcZ; rw [hb, hr, hpp, hsw]) fun h5 => ?_
        have k := F.five hm (fun j => xs.getD j 0) X hp (by rw [hxl]; exact hb) (by rw [hxl]; exact hsw)
        rw [hxl] at k
        exact (hdeep k).weaken fun σ x r => tupW (l := [.slnil, .i true .i64 5]) (by rfl) r
      | false =>
        have hf : fcZ m xs m X y x = 0 := by unfold fcZ; rw [hb, hr, hpp, hsw]
        rw [swC_eq, Bool.or_eq_false_iff] at hsw
        have hw0 : wcZ m xs = 0 := by simpa using hsw.1
        rw [hf]
        refine .inr ⟨_, _, _, rfl, fun hn => ?_⟩
        rw [allT_append, Bool.and_eq_true] at hn
        obtain ⟨l2, id, r, rfl, hgb, h5⟩ := intsAt_spec hi hn.1
        obtain ⟨m', hm', _, _, hall⟩ := wcZ_zero hw0
        have k := F.good hm (fun j => xs.getD j 0) X hp (by rw [hxl]; exact hw0) hmask hsw.2 (fun i hi => allI_iff.1 hall i (by omega))
        rw [hxl] at k
        have e1 : fdL m xs X y x = (flEnd m (fun j => xs.getD j 0) X p).os := by unfold fdL; rw [hpp, Int.toNat_natCast]
        have e2 : (flEnd m (fun j => xs.getD j 0) X p).os.length = m * m := (flEnd_ok (X := X) hm (fun i hi => allI_iff.1 hall i (by omega)) hp).len
        have k2 := (hdeep k).weaken (v' := .tup [.sl false 1 0 (flEnd m (fun j => xs.getD j 0) X p).os.length 1, .i true .i64 0]) fun σ x r => tupW (l := [.sl true 1 0 (m * m) 1, .i true .i64 0]) (by rw [e2]; rfl) r
        have k3 := fl_new k2 rfl (wv_low m X) (l := l2) (l2 := l0) (l3 := ly) (l4 := lx) hgb
        rw [e1]
        exact ⟨hn.2, deep k3⟩
theorem fl85_at : SoundAt Try.prog 85 fdT := fdT_at flood85
theorem fl87_at : SoundAt Try.prog 87 fdT := fdT_at flood87
end Go.Ax

/- The commonest number of a list, by runs of the sorted list and by counting: the same. -/
namespace Go.Ax

/-- b is the least of the numbers that are met most often, m times. -/
def Best (l : List Int) (b : Int) (m : Nat) : Prop := (l = [] ∧ b = 0 ∧ m = 0) ∨ (b ∈ l ∧ l.count b = m ∧ ∀ y ∈ l, l.count y < m ∨ (l.count y = m ∧ b ≤ y))
theorem Best.one {l : List Int} {b b' : Int} {m m' : Nat} (h : Best l b m) (h' : Best l b' m') : b = b' := by
  rcases h with ⟨h1, h2, _⟩ | ⟨h1, h2, h3⟩ <;> rcases h' with ⟨k1, k2, _⟩ | ⟨k1, k2, k3⟩
  · omega
  · subst h1; simp at k1
  · subst k1; simp at h1
  · have a1 := h3 _ k1
    have a2 := k3 _ h1
    omega
theorem Best.perm {l l' : List Int} (hp : l.Perm l') {b : Int} {m : Nat} (h : Best l b m) : Best l' b m := by
  rcases h with ⟨h1, h2, h3⟩ | ⟨h1, h2, h3⟩
  · subst h1
    have : l' = [] := by simpa using hp
    exact .inl ⟨this, h2, h3⟩
  · refine .inr ⟨hp.mem_iff.1 h1, by rw [← hp.count_eq]; exact h2, fun y hy => ?_⟩
    rw [← hp.count_eq]
    exact h3 y (hp.mem_iff.2 hy)

/-! ### By runs -/
structure Cm where
  b : Int
  m : Nat
  c : Nat
def cmN (zs : List Int) (k : Nat) (c : Nat) : Nat := if k = 0 ∨ zs.getD k 0 ≠ zs.getD (k - 1) 0 then 1 else c + 1
def cmGo (zs : List Int) : Nat → Cm
  | 0 => ⟨0, 0, 0⟩
  | k + 1 => if (cmGo zs k).m < cmN zs k (cmGo zs k).c then ⟨zs.getD k 0, cmN zs k (cmGo zs k).c, cmN zs k (cmGo zs k).c⟩ else ⟨(cmGo zs k).b, (cmGo zs k).m, cmN zs k (cmGo zs k).c⟩
theorem take_succ_getD {zs : List Int} {k : Nat} (h : k < zs.length) : zs.take (k + 1) = zs.take k ++ [zs.getD k 0] := by
  rw [List.take_succ_eq_append_getElem h]
  simp [List.getD_eq_getElem?_getD, h]
theorem count_snoc (l : List Int) (x y : Int) : (l ++ [x]).count y = l.count y + (if x = y then 1 else 0) := by
  rw [List.count_append, List.count_singleton]
  by_cases h : x = y
  · simp [h]
  · simp [h]
theorem sorted_le {zs : List Int} (hs : zs.Pairwise (· ≤ ·)) {i j : Nat} (hij : i ≤ j) (hj : j < zs.length) : zs.getD i 0 ≤ zs.getD j 0 := by
  rcases Nat.lt_or_eq_of_le hij with h | rfl
  · have := List.pairwise_iff_getElem.1 hs i j (by omega) hj h
    simpa [List.getD_eq_getElem?_getD, hj, show i < zs.length by omega] using this
  · exact Int.le_refl _
theorem mem_take {zs : List Int} {k : Nat} {y : Int} (h : y ∈ zs.take k) : ∃ i, i < k ∧ i < zs.length ∧ zs.getD i 0 = y := by
  obtain ⟨i, hi, e⟩ := List.mem_iff_getElem.1 h
  rw [List.length_take] at hi
  refine ⟨i, by omega, by omega, ?_⟩
  rw [List.getElem_take] at e
  simp [List.getD_eq_getElem?_getD, show i < zs.length by omega, e]
theorem cm_inv {zs : List Int} (hs : zs.Pairwise (· ≤ ·)) : ∀ k, k ≤ zs.length → Best (zs.take k) (cmGo zs k).b (cmGo zs k).m ∧ (0 < k → (cmGo zs k).c = (zs.take k).count (zs.getD (k - 1) 0))
  | 0, _ => ⟨.inl ⟨by simp, rfl, rfl⟩, fun h => absurd h (Nat.lt_irrefl 0)⟩
  | k + 1, hk => by
    obtain ⟨ih, ic⟩ := cm_inv hs k (by omega)
    have ht := take_succ_getD (show k < zs.length by omega)
    have hc : cmN zs k (cmGo zs k).c = (zs.take (k + 1)).count (zs.getD k 0) := by
      rw [ht, count_snoc, if_pos rfl]
      unfold cmN
      by_cases h0 : k = 0
      · subst h0; simp
      · by_cases hx : zs.getD k 0 = zs.getD (k - 1) 0
        · rw [if_neg (by rintro (h | h); exact h0 h; exact h hx), ic (by omega), hx]
        · rw [if_pos (.inr hx)]
          have : (zs.take k).count (zs.getD k 0) = 0 := by
            rw [List.count_eq_zero]
            intro hm
            obtain ⟨i, hi, hl, e⟩ := mem_take hm
            have h1 := sorted_le hs (show i ≤ k - 1 by omega) (by omega)
            have h2 := sorted_le hs (show k - 1 ≤ k by omega) (show k < zs.length by omega)
            omega
          omega
    have hcc : (cmGo zs (k + 1)).c = cmN zs k (cmGo zs k).c := by
      rw [cmGo]
      split <;> rfl
    refine ⟨?_, fun _ => by rw [hcc, hc]; simp⟩
    have hcnt : ∀ y, (zs.take (k + 1)).count y = (zs.take k).count y + (if zs.getD k 0 = y then 1 else 0) := fun y => by rw [ht, count_snoc]
    have hmem : ∀ y, y ∈ zs.take (k + 1) ↔ y ∈ zs.take k ∨ y = zs.getD k 0 := fun y => by rw [ht]; simp
    have hall : ∀ y ∈ zs.take k, (zs.take k).count y ≤ (cmGo zs k).m := fun y hy => by
      rcases ih with ⟨h1, _⟩ | ⟨_, _, h3⟩
      · rw [h1] at hy; simp at hy
      · have := h3 y hy; omega
    rw [cmGo]
    by_cases hlt : (cmGo zs k).m < cmN zs k (cmGo zs k).c
    · rw [if_pos hlt]
      refine .inr ⟨(hmem _).2 (.inr rfl), hc.symm, fun y hy => ?_⟩
      show _ < cmN zs k (cmGo zs k).c ∨ _
      by_cases hy2 : y = zs.getD k 0
      · subst hy2
        exact .inr ⟨hc.symm, Int.le_refl _⟩
      · have hy3 : y ∈ zs.take k := by
          rcases (hmem y).1 hy with h | h
          · exact h
          · exact absurd h hy2
        have := hall y hy3
        rw [hcnt, if_neg (fun e => hy2 e.symm)]
        omega
    · rw [if_neg hlt]
      show Best _ (cmGo zs k).b (cmGo zs k).m
      rcases ih with ⟨h1, h2, h3⟩ | ⟨h1, h2, h3⟩
      · exfalso
        rw [hc, hcnt, if_pos rfl] at hlt
        omega
      · have hx : (zs.take k).count (zs.getD k 0) + 1 ≤ (cmGo zs k).m := by
          rw [hc, hcnt, if_pos rfl] at hlt; omega
        have hbx : zs.getD k 0 ≠ (cmGo zs k).b := fun e => by rw [e] at hx; omega
        refine .inr ⟨(hmem _).2 (.inl h1), by rw [hcnt, if_neg hbx]; omega, fun y hy => ?_⟩
        by_cases hy2 : y = zs.getD k 0
        · subst hy2
          rw [hcnt, if_pos rfl]
          obtain ⟨i, hi, hl, e⟩ := mem_take h1
          have := sorted_le hs (show i ≤ k by omega) (by omega)
          omega
        · have hy3 : y ∈ zs.take k := by
            rcases (hmem y).1 hy with h | h
            · exact h
            · exact absurd h hy2
          rw [hcnt, if_neg (fun e => hy2 e.symm)]
          have := h3 y hy3
          omega

/-! ### By counting -/
structure Mo where
  b : Int
  m : Nat
def moGo (xs : List Int) : Nat → Mo
  | 0 => ⟨0, 0⟩
  | k + 1 => if (moGo xs k).m < xs.count (xs.getD k 0) ∨ (xs.count (xs.getD k 0) = (moGo xs k).m ∧ xs.getD k 0 < (moGo xs k).b) then ⟨xs.getD k 0, xs.count (xs.getD k 0)⟩ else moGo xs k
theorem mo_inv (xs : List Int) : ∀ k, k ≤ xs.length → (k = 0 ∧ (moGo xs k).b = 0 ∧ (moGo xs k).m = 0) ∨ ((moGo xs k).b ∈ xs ∧ xs.count (moGo xs k).b = (moGo xs k).m ∧ ∀ y ∈ xs.take k, xs.count y < (moGo xs k).m ∨ (xs.count y = (moGo xs k).m ∧ (moGo xs k).b ≤ y))
  | 0, _ => .inl ⟨rfl, rfl, rfl⟩
  | k + 1, hk => by
    have ih := mo_inv xs k (by omega)
    have ht := take_succ_getD (show k < xs.length by omega)
    have hmem : ∀ y, y ∈ xs.take (k + 1) ↔ y ∈ xs.take k ∨ y = xs.getD k 0 := fun y => by rw [ht]; simp
    have hin : xs.getD k 0 ∈ xs := by
      have : k < xs.length := by omega
      simp only [List.getD_eq_getElem?_getD, this, List.getElem?_eq_getElem, Option.getD_some]
      exact List.getElem_mem this
    have hpos : 0 < xs.count (xs.getD k 0) := List.count_pos_iff.2 hin
    refine .inr ?_
    rw [moGo]
    split
    · rename_i hc
      refine ⟨hin, rfl, fun y hy => ?_⟩
      show _ < xs.count (xs.getD k 0) ∨ (_ = xs.count (xs.getD k 0) ∧ xs.getD k 0 ≤ y)
      rcases (hmem y).1 hy with h | h
      · rcases ih with ⟨h1, _⟩ | ⟨_, h2, h3⟩
        · subst h1; simp at h
        · have := h3 y h; omega
      · subst h; exact .inr ⟨rfl, Int.le_refl _⟩
    · rename_i hc
      rcases ih with ⟨_, h2, h3⟩ | ⟨h1, h2, h3⟩
      · omega
      · refine ⟨h1, h2, fun y hy => ?_⟩
        rcases (hmem y).1 hy with h | h
        · exact h3 y h
        · subst h; omega
theorem mo_best (xs : List Int) : Best xs (moGo xs xs.length).b (moGo xs xs.length).m := by
  rcases mo_inv xs xs.length (Nat.le_refl _) with ⟨h1, h2, h3⟩ | ⟨h1, h2, h3⟩
  · exact .inl ⟨List.length_eq_zero_iff.1 h1, h2, h3⟩
  · rw [List.take_length] at h3
    exact .inr ⟨h1, h2, h3⟩
/-- The commonest number. -/
def mostZ (xs : List Int) : Int := (moGo xs xs.length).b
theorem cm_most {xs zs : List Int} (hs : zs.Pairwise (· ≤ ·)) (hp : zs.Perm xs) : (cmGo zs zs.length).b = mostZ xs := by
  have h := (cm_inv hs zs.length (Nat.le_refl _)).1
  rw [List.take_length] at h
  exact (h.perm hp).one (mo_best xs)
def sortZ (xs : List Int) : List Int := xs.mergeSort fun x y => decide (x ≤ y)
theorem sortZ_perm (xs : List Int) : (sortZ xs).Perm xs := List.mergeSort_perm xs _
theorem sortZ_sorted (xs : List Int) : (sortZ xs).Pairwise (· ≤ ·) := by
  have := List.pairwise_mergeSort (le := fun (x y : Int) => decide (x ≤ y)) (fun a b c h1 h2 => by simp only [decide_eq_true_eq] at *; omega) (fun a b => by simp only [Bool.or_eq_true, decide_eq_true_eq]; omega) xs
  exact this.imp (by simp)
theorem cm_sort (xs : List Int) : (cmGo (sortZ xs) xs.length).b = mostZ xs := by
  have := cm_most (sortZ_sorted xs) (sortZ_perm xs)
  rwa [(sortZ_perm xs).length_eq] at this
end Go.Ax

/- impl.commonest and spec.l07Most: one round. -/
namespace Go.Ax
open Go Go.Proofs

/-- A row for the sorting of a list. -/
def srT : Table := fun _ args H nd K => match args with
  | [.sl _ id off n z] => match getB H id with
    | .cells true (.ints .i64 xs) => K (.tup []) (setB H id (.cells true (.ints .i64 (sortZ xs)))) ((decide (off = 0) && decide (z = 1) && decide (n = xs.length) && decide (n ≤ 5000)) :: nd)
    | _ => .fail
  | _ => .fail
noncomputable def rowsSl : List (FuncId × Table) := [(257, srT)]
noncomputable def tabSl : Table := tabOf (cdeep Try.prog rowsSl [] 4000 6)
noncomputable def cmC : Code := Try.f183.body.getD .skip
noncomputable def cm0 (xs : List Int) : Res := jupto Try.prog tabSl atLoop 100 [.code cmC] (.sl false 0 0 xs.length 1 :: undefs 36) [qB xs]
noncomputable def cmR : List Item := toLp ((cm0 []).todo ++ [])
theorem cmR_eq : toLp cmR = cmR := by kernel_rfl
def cmT (n : Nat) (k b m c : Int) : List AV := tmpsOf 37 [(0, .sl false 0 0 n 1), (3, .i false .i64 b), (4, .i false .i64 m), (5, .i false .i64 c), (10, .sl false 0 0 n 1), (11, .i false .i64 n), (12, .i false .i64 k)]
def cmM : List Bool := maskOf 37 [(0, .any), (3, .any), (4, .any), (5, .any), (10, .any), (11, .any), (12, .any)]
noncomputable def cmU (n : Nat) (zs : List Int) (k : Nat) (b m c : Int) : Res := jupto Try.prog tabSl atLoop 100 cmR (cmT n (Int.ofNat k) b m c) [qB zs]
def cmX (zs : List Int) (k : Nat) : Int := zs.getD (0 + k * 1) 0
def cmZ (zs : List Int) (k : Nat) (c : Int) : Int := wrapQ false .i64 ((cond (cond (eqQ false (Int.ofNat k) 0) true (!eqQ false (cmX zs k) (zs.getD (0 + (wrapQ false .i64 (Int.ofNat k - 1)).toNat * 1) 0))) 0 c) + 1)
def cmQ (n : Nat) (zs : List Int) (k : Nat) : List Bool := [cond (!eqQ false (Int.ofNat k) 0) (andT [decide (0 + (wrapQ false .i64 (Int.ofNat k - 1)).toNat * 1 < (Cells.ints .i64 zs).len), decide (0 ≤ wrapQ false .i64 (Int.ofNat k - 1)) && decide (wrapQ false .i64 (Int.ofNat k - 1) < (n : Int))]) true,
  decide (0 + k * 1 < (Cells.ints .i64 zs).len), decide (0 ≤ Int.ofNat k) && decide (Int.ofNat k < (n : Int))]
theorem cm0_ok (xs : List Int) : (condsP (cm0 xs) [], lfM cmM (cm0 xs)) = ([], true, (cm0 []).todo ++ [], (cmT xs.length 0 0 0 0).map AV.bare, [qB (sortZ xs)], [decide (0 = 0) && decide (1 = 1) && decide (xs.length = xs.length) && decide (xs.length ≤ 5000)]) := by kernel_rfl
theorem cmU_go (n : Nat) (zs : List Int) (k : Nat) (b m c : Int) : (condsP (cmU n zs k b m c) [true], lfM cmM ((cmU n zs k b m c).at [true])) =
    ([ltQ false (Int.ofNat k) (n : Int)], true, cmR, (cmT n (wrapQ false .i64 (Int.ofNat k + 1)) (cond (ltQ false m (cmZ zs k c)) (cmX zs k) b) (cond (ltQ false m (cmZ zs k c)) (cmZ zs k c) m) (cmZ zs k c)).map AV.bare, [qB zs], cmQ n zs k) := by kernel_rfl
theorem cmU_end (n : Nat) (zs : List Int) (k : Nat) (b m c : Int) : (condsP (cmU n zs k b m c) [false], endOf Try.prog Try.f183.results.toList ((cmU n zs k b m c).at [false])) = ([!ltQ false (Int.ofNat k) (n : Int)], some (some ([.i false .i64 b], []), [qB zs], [])) := by kernel_rfl
/-! ### spec.l07Most -/
noncomputable def moC : Code := Try.f185.body.getD .skip
noncomputable def mo0 (xs : List Int) : Res := jupto Try.prog tabSl atLoop 100 [.code moC] (.sl false 0 0 xs.length 1 :: undefs 52) (lb xs)
noncomputable def moR : List Item := toLp ((mo0 []).todo ++ [])
theorem moR_eq : toLp moR = moR := by kernel_rfl
def moT (n : Nat) (k b m : Int) : List AV := tmpsOf 53 [(0, .sl false 0 0 n 1), (3, .i false .i64 b), (4, .i false .i64 m), (5, .i false .i64 k)]
def moM : List Bool := maskOf 53 [(0, .any), (3, .any), (4, .any), (5, .any)]
noncomputable def moU (xs : List Int) (k : Nat) (b m : Int) : Res := jupto Try.prog tabSl atLoop 100 moR (moT xs.length (Int.ofNat k) b m) (lb xs)
noncomputable def mjL : List Item := ((moU [] 0 0 0).at [true]).todo ++ []
noncomputable def mjR : List Item := toLp mjL
theorem mjR_eq : toLp mjR = mjR := by kernel_rfl
def mjT (n : Nat) (k b m j c : Int) : List AV := tmpsOf 53 [(0, .sl false 0 0 n 1), (3, .i false .i64 b), (4, .i false .i64 m), (5, .i false .i64 k), (6, .i false .i64 c), (7, .i false .i64 j)]
def mjM : List Bool := maskOf 53 [(0, .any), (3, .any), (4, .any), (5, .any), (6, .any), (7, .any)]
noncomputable def mjU (xs : List Int) (k : Nat) (b m : Int) (j : Nat) (c : Int) : Res := jupto Try.prog tabSl atLoop 100 mjR (mjT xs.length (Int.ofNat k) b m (Int.ofNat j) c) (lb xs)
theorem mo0_ok (xs : List Int) : (condsP (mo0 xs) [], lfM moM (mo0 xs)) = ([], true, (mo0 []).todo ++ [], (moT xs.length 0 0 0).map AV.bare, lb xs, []) := by kernel_rfl
theorem moU_go (xs : List Int) (k : Nat) (b m : Int) : (condsP (moU xs k b m) [true], lfM mjM ((moU xs k b m).at [true])) = ([ltQ false (Int.ofNat k) (xs.length : Int)], true, mjL, (mjT xs.length (Int.ofNat k) b m 0 0).map AV.bare, lb xs, []) := by kernel_rfl
theorem moU_end (xs : List Int) (k : Nat) (b m : Int) : (condsP (moU xs k b m) [false], endOf Try.prog Try.f185.results.toList ((moU xs k b m).at [false])) = ([!ltQ false (Int.ofNat k) (xs.length : Int)], some (some ([.i false .i64 b], []), lb xs, [])) := by kernel_rfl
def ixQ (xs : List Int) (k : Nat) : List Bool := [decide (0 + k * 1 < (Cells.ints .i64 xs).len), decide (0 ≤ Int.ofNat k) && decide (Int.ofNat k < (xs.length : Int))]
theorem mjU_go (xs : List Int) (k : Nat) (b m : Int) (j : Nat) (c : Int) : (condsP (mjU xs k b m j c) [true], lfM mjM ((mjU xs k b m j c).at [true])) =
    ([ltQ false (Int.ofNat j) (xs.length : Int)], true, mjR, (mjT xs.length (Int.ofNat k) b m (wrapQ false .i64 (Int.ofNat j + 1)) (cond (eqQ false (cmX xs j) (cmX xs k)) (wrapQ false .i64 (c + 1)) c)).map AV.bare, lb xs, ixQ xs k ++ ixQ xs j) := by kernel_rfl
def moB (xs : List Int) (k : Nat) (b m c : Int) : Bool := cond (ltQ false m c) true (cond (eqQ false c m) (ltQ false (cmX xs k) b) false)
theorem mjU_end (xs : List Int) (k : Nat) (b m : Int) (j : Nat) (c : Int) : (condsP (mjU xs k b m j c) [false], lfM moM ((mjU xs k b m j c).at [false])) =
    ([!ltQ false (Int.ofNat j) (xs.length : Int)], true, moR, (moT xs.length (wrapQ false .i64 (Int.ofNat k + 1)) (cond (moB xs k b m c) (cmX xs k) b) (cond (moB xs k b m c) c m)).map AV.bare, lb xs,
      [cond (moB xs k b m c) (andT (ixQ xs k)) true, cond (!ltQ false m c) (andT (guardL (eqQ false c m) (ixQ xs k) ++ guardL (!eqQ false c m) [])) true]) := by kernel_rfl
end Go.Ax

/- slices.Sort at lists of int64: a row. -/
namespace Go.Ax
open Go Go.Proofs Go.Sort

theorem sort_call (blk cap : Nat) (zs : List Int) (w : World) (hH : Holds (Value.int .i64) w blk 0 zs.toArray) (hblk : blk < w.heap.size) (hsz : zs.length < 4611686018427387904) :
    Calls Try.prog 257 #[.slice (some ⟨blk, 0, none⟩) zs.length cap] w fun e w' =>
      e = .returned (.tuple #[]) ∧ ∃ n os, w' = grow (putRow (Value.int .i64) (Sort.ahead w n) blk 0 (sortZ zs).toArray) os := AnyG.slices_Sort_int laysSort blk 0 cap zs w hH hblk hsz
theorem ints_cell {σ : List (Nat × Nat)} {xs : List Int} {c : Array Value} (h : RelA σ (Cells.ints .i64 xs).toL c) {j : Nat} (hj : j < xs.length) : c[j]? = some (.int .i64 (xs.toArray[j]!)) := by
  obtain ⟨v, hv, hr⟩ := h j (.i false .i64 xs[j]) (by simp [Cells.toL, hj])
  cases hr
  rw [hv]
  simp [hj]
theorem sort_at : SoundAt Try.prog 257 srT := fun args H nd K => by
  unfold srT
  split
  case h_2 => exact .inl rfl
  rename_i l id off n z
  split
  case h_2 => exact .inl rfl
  rename_i xs hg
  refine .inr ⟨_, _, _, rfl, fun hn => ?_⟩
  simp only [allT, Bool.and_eq_true, decide_eq_true_eq] at hn
  obtain ⟨⟨⟨⟨rfl, rfl⟩, hnx⟩, h5⟩, hnd⟩ := hn
  refine ⟨hnd, fun σ w rargs s hra => ?_⟩
  obtain ⟨rs, hrs, hs⟩ := relL_one hra
  have hra' : rargs = #[rs] := by rw [← Array.toArray_toList (xs := rargs), hrs]
  subst hra'
  cases hs with
  | sl hid hcap hz =>
  subst hnx
  rename_i cap b c
  have hb := s.blk id b c hid
  rw [hg] at hb
  obtain ⟨cc, e, fr, hw, hA, hcs, hfr⟩ := hb
  have hblt := s.lt hid (by rw [hg]; rfl)
  have hidl : id < H.length := by rw [← s.len]; exact isSome_lt hid
  refine (sort_call b cap xs w (fun j hj => ?_) hblt (by omega)).mono ?_
  · simp only [List.size_toArray] at hj
    have hc := ints_cell hA hj
    refine ⟨?_, ?_⟩
    · simp only [World.cell?, hw, Nat.zero_add]
      exact hc
    · have := hfr rfl j
      simp only [World.frozen?, hw]
      rw [Bool.eq_false_iff]; intro hh; apply this
      simpa using hh
  · rintro e' w' ⟨rfl, k, os, rfl⟩
    refine ⟨_, rfl, σ, .tup .nil, ⟨by rw [setB_length]; exact s.len, fun i b' z' hb' => ?_, fun i j b' z' z2 hi hj hri hlj => ?_⟩, ⟨rfl, rfl, rfl, by simp, fun b' hb' hno => ?_, Ext.refl σ, fun i b' z' h h' => (by rw [h'] at h; cases h), fun i _ h => ?_⟩⟩
    · have hlt : ∀ {q : Nat}, q < w.heap.size → (grow (putRow (Value.int .i64) (Sort.ahead w k) b 0 (sortZ xs).toArray) os).heap[q]? = (putRow (Value.int .i64) (Sort.ahead w k) b 0 (sortZ xs).toArray).heap[q]? := fun {q} hq => heap_grow_old _ os (by simpa using hq)
      by_cases hib : i = id
      · subst hib
        rw [hid] at hb'; cases hb'
        rw [getB_setB_same hidl, hlt hblt]
        refine ⟨putCells (Value.int .i64) 0 (sortZ xs).toArray cc, e, fr, ?_, ?_, by simp [putCells, hcs], hfr⟩
        · simp only [putRow, mapBlock, Array.getElem?_modify, if_true, heap_ahead, hw, Option.map_some]
          rfl
        · intro j a ha
          simp only [Cells.toL, List.getElem?_map, Option.map_eq_some_iff] at ha
          obtain ⟨y, hy, rfl⟩ := ha
          have hjl : j < (sortZ xs).length := by
            rcases Nat.lt_or_ge j (sortZ xs).length with h' | h'
            · exact h'
            · rw [List.getElem?_eq_none h'] at hy; cases hy
          have hjx : j < xs.length := by rwa [(sortZ_perm xs).length_eq] at hjl
          have hc := ints_cell hA hjx
          refine ⟨.int .i64 y, ?_, .i _ _⟩
          simp only [putCells, Array.getElem?_mapIdx, hc, Option.map_some, List.size_toArray, Nat.sub_zero]
          rw [if_pos ⟨Nat.zero_le _, by omega⟩]
          congr 2
          rw [List.getElem?_eq_getElem hjl] at hy
          cases hy
          simp [hjl]
      · rw [getB_setB_ne (fun e => hib e.symm)]
        have hbi := s.blk i b' z' hb'
        cases hgi : getB H i with
        | dead => trivial
        | cells r C =>
          have hne : b' ≠ b := fun e => hib (s.inj id i b _ z' hid (by rw [← e]; exact hb') (by rw [hg]; rfl) (by rw [hgi]; rfl)).symm
          have hq := s.lt hb' (by rw [hgi]; rfl)
          rw [hlt hq]
          rw [hgi] at hbi
          simp only [putRow, mapBlock, Array.getElem?_modify, heap_ahead, if_neg (Ne.symm hne)]
          exact hbi
        | code o0 xs0 =>
          have hne : b' ≠ b := fun e => hib (s.inj id i b _ z' hid (by rw [← e]; exact hb') (by rw [hg]; rfl) (by rw [hgi]; rfl)).symm
          have hq := s.lt hb' (by rw [hgi]; rfl)
          rw [hlt hq]
          rw [hgi] at hbi
          simp only [putRow, mapBlock, Array.getElem?_modify, heap_ahead, if_neg (Ne.symm hne)]
          exact hbi
    · have hri' : (getB H i).rw = true := by
        by_cases hib : i = id
        · subst hib; rw [hg]; rfl
        · rwa [getB_setB_ne (fun e => hib e.symm)] at hri
      have hlj' : (getB H j).live = true := by
        by_cases hjb : j = id
        · subst hjb; rw [hg]; rfl
        · rwa [getB_setB_ne (fun e => hjb e.symm)] at hlj
      exact s.inj i j b' z' z2 hi hj hri' hlj'
    · rw [heap_grow_old _ os (by simpa using hb')]
      have hne : b ≠ b' := fun e => hno id c (by rw [hg]; rfl) (by rw [hid, e])
      simp only [putRow, mapBlock, Array.getElem?_modify, heap_ahead, if_neg hne]
    · by_cases hib : i = id
      · subst hib; rw [hg]; rfl
      · rwa [getB_setB_ne (fun e => hib e.symm)] at h
end Go.Ax

/- impl.commonest and spec.l07Most: contracts. -/
namespace Go.Ax
open Go Go.Proofs

theorem rowsSl_at : allAt Try.prog rowsSl := ⟨sort_at, trivial⟩
theorem tabSl_sound : SoundT Try.prog tabSl := cdeep_sound (allAt_mem rowsSl_at) 6
theorem cmX_eq (zs : List Int) (k : Nat) : cmX zs k = zs.getD k 0 := by unfold cmX; rw [Nat.zero_add, Nat.mul_one]
theorem cm_c_le (zs : List Int) : ∀ k, (cmGo zs k).c ≤ k
  | 0 => Nat.le_refl _
  | k + 1 => by
    have ih := cm_c_le zs k
    have h1 : cmN zs k (cmGo zs k).c ≤ k + 1 := by
      unfold cmN
      split <;> omega
    rw [cmGo]
    split <;> exact h1
theorem cmZ_eq {zs : List Int} {k c : Nat} (hk : k ≤ 5000) (hc : c ≤ k) : cmZ zs k (c : Int) = ((cmN zs k c : Nat) : Int) := by
  unfold cmZ cmN
  rw [cmX_eq, eqQ_eq, eqQ_eq]
  by_cases h0 : k = 0
  · subst h0
    simp
    exact small64 (by omega)
  · have hw : (wrapQ false .i64 (Int.ofNat k - 1)).toNat = k - 1 := by
      rw [small64 (by simp; omega)]
      simp
    have hk0 : (Int.ofNat k == 0) = false := by simp; omega
    rw [hw, hk0, Nat.zero_add, Nat.mul_one]
    by_cases he : zs.getD k 0 = zs.getD (k - 1) 0
    · rw [if_neg (by rintro (h | h); exact h0 h; exact h he)]
      have : (zs.getD k 0 == zs.getD (k - 1) 0) = true := by simpa using he
      rw [this]
      show wrapQ false .i64 ((c : Int) + 1) = _
      rw [small64 (by omega)]; simp
    · rw [if_pos (.inr he)]
      have : (zs.getD k 0 == zs.getD (k - 1) 0) = false := by simpa using he
      rw [this]
      show wrapQ false .i64 ((0 : Int) + 1) = _
      rw [small64 (by omega)]; simp
theorem ltQ_nat (a b : Nat) : ltQ false (a : Int) (b : Int) = decide (a < b) := by rw [ltQ_eq]; simp
theorem cmQ_ok {n : Nat} {zs : List Int} {k : Nat} (hl : zs.length = n) (hk : k < n) (h5 : n ≤ 5000) : allT (cmQ n zs k) = true := by
  unfold cmQ
  rw [eqQ_eq]
  by_cases h0 : k = 0
  · subst h0
    simp [allT, Cells.len, hl]; omega
  · have hw : wrapQ false .i64 (Int.ofNat k - 1) = Int.ofNat k - 1 := small64 (by simp; omega)
    have hk0 : (Int.ofNat k == 0) = false := by simp; omega
    rw [hw, hk0]
    simp [allT, andT, Cells.len, hl]
    omega
theorem cm_loop {xs : List Int} (h5 : xs.length ≤ 5000) {L0 : List Item} (hL0 : toLp L0 = cmR) {t0 : List AV} {H0 : List AB} {todo0 : List Item} (h : Reach Try.prog todo0 t0 H0 L0 (cmT xs.length 0 0 0 0) [qB (sortZ xs)]) :
    ∀ k, k ≤ xs.length → ∃ L, toLp L = cmR ∧ Reach Try.prog todo0 t0 H0 L (cmT xs.length (Int.ofNat k) (cmGo (sortZ xs) k).b ((cmGo (sortZ xs) k).m : Nat) ((cmGo (sortZ xs) k).c : Nat)) [qB (sortZ xs)]
  | 0, _ => ⟨L0, hL0, h⟩
  | k + 1, hk => by
    obtain ⟨L, hL, r⟩ := cm_loop h5 hL0 h k (by omega)
    have hg := cmU_go xs.length (sortZ xs) k (cmGo (sortZ xs) k).b ((cmGo (sortZ xs) k).m : Nat) ((cmGo (sortZ xs) k).c : Nat)
    simp only [Prod.mk.injEq] at hg
    have hc := cm_c_le (sortZ xs) k
    have hU : jupto Try.prog tabSl atLoop 100 cmR (cmT xs.length (Int.ofNat k) (cmGo (sortZ xs) k).b ((cmGo (sortZ xs) k).m : Nat) ((cmGo (sortZ xs) k).c : Nat)) [qB (sortZ xs)] = cmU xs.length (sortZ xs) k (cmGo (sortZ xs) k).b ((cmGo (sortZ xs) k).m : Nat) ((cmGo (sortZ xs) k).c : Nat) := rfl
    have r1 := r.trans (way_reach (P := Try.prog) (T := tabSl) (stop := atLoop) (n := 100) (L := L) (R := cmR) (p := [true]) (M := cmM) tabSl_sound (by rw [hL, cmR_eq]) (by
      rw [hU, hg.1]
      show (ltQ false (Int.ofNat k) (xs.length : Int) && true) = true
      rw [Bool.and_true]
      exact ltQ_true (by omega)) (by rw [hU]; exact hg.2) (cmQ_ok (sortZ_perm xs).length_eq (by omega) h5))
    rw [cmZ_eq (by omega) hc, ltQ_nat, cmX_eq] at r1
    have e1 : wrapQ false .i64 (Int.ofNat k + 1) = Int.ofNat (k + 1) := ofNat_next (by omega)
    rw [e1] at r1
    refine ⟨cmR, cmR_eq, ?_⟩
    rw [cmGo]
    by_cases hlt : (cmGo (sortZ xs) k).m < cmN (sortZ xs) k (cmGo (sortZ xs) k).c
    · rw [if_pos hlt]
      rw [decide_eq_true hlt] at r1
      exact r1
    · rw [if_neg hlt]
      rw [decide_eq_false hlt] at r1
      exact r1
theorem cm_call {xs : List Int} (h5 : xs.length ≤ 5000) : CallOK Try.prog 183 [.sl false 0 0 xs.length 1] [qB xs] (.i false .i64 (mostZ xs)) [qB (sortZ xs)] := by
  have h0 := cm0_ok xs
  simp only [Prod.mk.injEq] at h0
  have r0 := way_reach (P := Try.prog) (T := tabSl) (stop := atLoop) (n := 100) (L := [.code cmC]) (R := [.code cmC]) (p := []) (M := cmM) (t0 := .sl false 0 0 xs.length 1 :: undefs 36) (H0 := [qB xs]) tabSl_sound rfl (by
    show allT (condsP (cm0 xs) []) = true
    rw [h0.1]; rfl) (by rw [Res.at_nil]; exact h0.2) (by simp [allT, h5])
  obtain ⟨L, hL, r⟩ := cm_loop h5 (L0 := (cm0 []).todo ++ []) rfl r0 xs.length (Nat.le_refl _)
  have he := cmU_end xs.length (sortZ xs) xs.length (cmGo (sortZ xs) xs.length).b ((cmGo (sortZ xs) xs.length).m : Nat) ((cmGo (sortZ xs) xs.length).c : Nat)
  simp only [Prod.mk.injEq] at he
  obtain ⟨t, g1, g2⟩ := way_ends (P := Try.prog) (T := tabSl) (stop := atLoop) (n := 100) (L := L) (R := cmR) (p := [false]) (t0 := cmT xs.length (Int.ofNat xs.length) (cmGo (sortZ xs) xs.length).b ((cmGo (sortZ xs) xs.length).m : Nat) ((cmGo (sortZ xs) xs.length).c : Nat)) (H0 := [qB (sortZ xs)]) tabSl_sound (by rw [hL, cmR_eq]) (by
    show allT (condsP (cmU xs.length (sortZ xs) xs.length _ _ _) [false]) = true
    rw [he.1, ltQ_same]; rfl) he.2 rfl
  have k := call_of_ends (args := [.sl false 0 0 xs.length 1]) Try.func183 (rfl : Try.f183.body = some cmC) (r.ends g1) g2 rfl
  rw [cm_sort] at k
  exact k
/-! ### By counting -/
def ctL (xs : List Int) (x : Int) (j : Nat) : Nat := (xs.take j).count x
theorem mj_loop {xs : List Int} (h5 : xs.length ≤ 5000) {k : Nat} (hk : k < xs.length) {b m : Int} {L0 : List Item} (hL0 : toLp L0 = mjR) {t0 : List AV} {H0 : List AB} {todo0 : List Item} (h : Reach Try.prog todo0 t0 H0 L0 (mjT xs.length (Int.ofNat k) b m 0 0) (lb xs)) :
    ∀ j, j ≤ xs.length → ∃ L, toLp L = mjR ∧ Reach Try.prog todo0 t0 H0 L (mjT xs.length (Int.ofNat k) b m (Int.ofNat j) ((ctL xs (xs.getD k 0) j : Nat) : Int)) (lb xs)
  | 0, _ => ⟨L0, hL0, h⟩
  | j + 1, hj => by
    obtain ⟨L, hL, r⟩ := mj_loop h5 hk hL0 h j (by omega)
    have hg := mjU_go xs k b m j ((ctL xs (xs.getD k 0) j : Nat) : Int)
    simp only [Prod.mk.injEq] at hg
    have hc : ctL xs (xs.getD k 0) j ≤ j := by
      unfold ctL
      exact Nat.le_trans List.count_le_length (by simp; omega)
    have r1 := r.trans (way_reach (P := Try.prog) (T := tabSl) (stop := atLoop) (n := 100) (L := L) (R := mjR) (p := [true]) (M := mjM) tabSl_sound (by rw [hL, mjR_eq]) (by
      show allT (condsP (mjU xs k b m j _) [true]) = true
      rw [hg.1]
      show (ltQ false (Int.ofNat j) (xs.length : Int) && true) = true
      rw [Bool.and_true]
      exact ltQ_true (by omega)) hg.2 (by
      simp [ixQ, allT, Cells.len]; omega))
    have e1 : wrapQ false .i64 (Int.ofNat j + 1) = Int.ofNat (j + 1) := ofNat_next (by omega)
    rw [e1, cmX_eq, cmX_eq, eqQ_eq] at r1
    refine ⟨mjR, mjR_eq, ?_⟩
    have e2 : cond (xs.getD j 0 == xs.getD k 0) (wrapQ false .i64 (((ctL xs (xs.getD k 0) j : Nat) : Int) + 1)) ((ctL xs (xs.getD k 0) j : Nat) : Int) = ((ctL xs (xs.getD k 0) (j + 1) : Nat) : Int) := by
      have : ctL xs (xs.getD k 0) (j + 1) = ctL xs (xs.getD k 0) j + (if xs.getD j 0 = xs.getD k 0 then 1 else 0) := by
        unfold ctL
        rw [take_succ_getD (by omega), count_snoc]
      rw [this, small64 (by omega)]
      by_cases he : xs.getD j 0 = xs.getD k 0
      · have h2 : (xs.getD j 0 == xs.getD k 0) = true := by simpa using he
        rw [h2, if_pos he]; simp
      · have h2 : (xs.getD j 0 == xs.getD k 0) = false := by simpa using he
        rw [h2, if_neg he]; simp
    rw [e2] at r1
    exact r1
theorem ixQ_ok {xs : List Int} {k : Nat} (hk : k < xs.length) : allT (ixQ xs k) = true := by simp [ixQ, allT, Cells.len]; omega
theorem andT_ix {xs : List Int} {k : Nat} (hk : k < xs.length) : andT (ixQ xs k) = true := by rw [andT_eq]; exact ixQ_ok hk
theorem guard_ok {l : List Bool} (b : Bool) (h : allT l = true) : allT (guardL b l) = true := by
  cases l with
  | nil => rfl
  | cons x l =>
    show allT [cond b (andT (x :: l)) true] = true
    cases b
    · rfl
    · simp only [cond, allT, andT_eq, Bool.and_true]
      exact h
theorem moQ_ok {xs : List Int} {k : Nat} (hk : k < xs.length) (b m c : Int) : allT [cond (moB xs k b m c) (andT (ixQ xs k)) true, cond (!ltQ false m c) (andT (guardL (eqQ false c m) (ixQ xs k) ++ guardL (!eqQ false c m) [])) true] = true := by
  have h1 := andT_ix hk
  have h2 : andT (guardL (eqQ false c m) (ixQ xs k) ++ guardL (!eqQ false c m) []) = true := by
    rw [andT_eq, allT_append, guard_ok _ (ixQ_ok hk), guard_ok _ rfl]; rfl
  rw [h1, h2]
  cases moB xs k b m c <;> cases ltQ false m c <;> rfl
theorem moB_eq (N M : Nat) (x b : Int) : cond (decide (M < N)) true (cond ((N : Int) == (M : Int)) (decide (x < b)) false) = decide (M < N ∨ (N = M ∧ x < b)) := by
  by_cases h1 : M < N
  · simp [h1]
  · by_cases h2 : N = M
    · subst h2; simp
    · have h3 : ((N : Int) == (M : Int)) = false := by simp; omega
      rw [h3]
      simp [h1, h2]
theorem mo_loop {xs : List Int} (h5 : xs.length ≤ 5000) {L0 : List Item} (hL0 : toLp L0 = moR) {t0 : List AV} {H0 : List AB} {todo0 : List Item} (h : Reach Try.prog todo0 t0 H0 L0 (moT xs.length 0 0 0) (lb xs)) :
    ∀ k, k ≤ xs.length → ∃ L, toLp L = moR ∧ Reach Try.prog todo0 t0 H0 L (moT xs.length (Int.ofNat k) (moGo xs k).b ((moGo xs k).m : Nat)) (lb xs)
  | 0, _ => ⟨L0, hL0, h⟩
  | k + 1, hk => by
    obtain ⟨L, hL, r⟩ := mo_loop h5 hL0 h k (by omega)
    have hg := moU_go xs k (moGo xs k).b ((moGo xs k).m : Nat)
    simp only [Prod.mk.injEq] at hg
    have r1 := r.trans (way_reach (P := Try.prog) (T := tabSl) (stop := atLoop) (n := 100) (L := L) (R := moR) (p := [true]) (M := mjM) tabSl_sound (by rw [hL, moR_eq]) (by
      show allT (condsP (moU xs k (moGo xs k).b ((moGo xs k).m : Nat)) [true]) = true
      rw [hg.1]
      show (ltQ false (Int.ofNat k) (xs.length : Int) && true) = true
      rw [Bool.and_true]
      exact ltQ_true (by omega)) hg.2 rfl)
    obtain ⟨L2, hL2, r2⟩ := mj_loop h5 (k := k) (by omega) (L0 := mjL) rfl r1 xs.length (Nat.le_refl _)
    have hcnt : ctL xs (xs.getD k 0) xs.length = xs.count (xs.getD k 0) := by unfold ctL; rw [List.take_length]
    rw [hcnt] at r2
    have he := mjU_end xs k (moGo xs k).b ((moGo xs k).m : Nat) xs.length ((xs.count (xs.getD k 0) : Nat) : Int)
    simp only [Prod.mk.injEq] at he
    have r3 := r2.trans (way_reach (P := Try.prog) (T := tabSl) (stop := atLoop) (n := 100) (L := L2) (R := mjR) (p := [false]) (M := moM) tabSl_sound (by rw [hL2, mjR_eq]) (by
      show allT (condsP (mjU xs k (moGo xs k).b ((moGo xs k).m : Nat) xs.length _) [false]) = true
      rw [he.1, ltQ_same]; rfl) he.2 (moQ_ok (by omega) _ _ _))
    have e1 : wrapQ false .i64 (Int.ofNat k + 1) = Int.ofNat (k + 1) := ofNat_next (by omega)
    rw [e1] at r3
    refine ⟨moR, moR_eq, ?_⟩
    have hB : moB xs k (moGo xs k).b ((moGo xs k).m : Nat) ((xs.count (xs.getD k 0) : Nat) : Int) = decide ((moGo xs k).m < xs.count (xs.getD k 0) ∨ (xs.count (xs.getD k 0) = (moGo xs k).m ∧ xs.getD k 0 < (moGo xs k).b)) := by
      unfold moB
      rw [ltQ_nat, eqQ_eq, cmX_eq, ltQ_eq]
      exact moB_eq _ _ _ _
    rw [hB, cmX_eq] at r3
    rw [moGo]
    by_cases hc : (moGo xs k).m < xs.count (xs.getD k 0) ∨ (xs.count (xs.getD k 0) = (moGo xs k).m ∧ xs.getD k 0 < (moGo xs k).b)
    · rw [if_pos hc]
      rw [decide_eq_true hc] at r3
      exact r3
    · rw [if_neg hc]
      rw [decide_eq_false hc] at r3
      exact r3
theorem mo_call {xs : List Int} (h5 : xs.length ≤ 5000) : CallOK Try.prog 185 [.sl false 0 0 xs.length 1] (lb xs) (.i false .i64 (mostZ xs)) (lb xs) := by
  have h0 := mo0_ok xs
  simp only [Prod.mk.injEq] at h0
  have r0 := way_reach (P := Try.prog) (T := tabSl) (stop := atLoop) (n := 100) (L := [.code moC]) (R := [.code moC]) (p := []) (M := moM) (t0 := .sl false 0 0 xs.length 1 :: undefs 52) (H0 := lb xs) tabSl_sound rfl (by
    show allT (condsP (mo0 xs) []) = true
    rw [h0.1]; rfl) (by rw [Res.at_nil]; exact h0.2) rfl
  obtain ⟨L, hL, r⟩ := mo_loop h5 (L0 := (mo0 []).todo ++ []) rfl r0 xs.length (Nat.le_refl _)
  have he := moU_end xs xs.length (moGo xs xs.length).b ((moGo xs xs.length).m : Nat)
  simp only [Prod.mk.injEq] at he
  obtain ⟨t, g1, g2⟩ := way_ends (P := Try.prog) (T := tabSl) (stop := atLoop) (n := 100) (L := L) (R := moR) (p := [false]) (t0 := moT xs.length (Int.ofNat xs.length) (moGo xs xs.length).b ((moGo xs xs.length).m : Nat)) (H0 := lb xs) tabSl_sound (by rw [hL, moR_eq]) (by
    show allT (condsP (moU xs xs.length _ _) [false]) = true
    rw [he.1, ltQ_same]; rfl) he.2 rfl
  exact call_of_ends (args := [.sl false 0 0 xs.length 1]) Try.func185 (rfl : Try.f185.body = some moC) (r.ends g1) g2 rfl
/-! ### Rows -/
/-- A call that writes the one block that it is handed, seen from any memory. -/
theorem CallOK.writes1 {P : Program} {f : FuncId} {n z : Nat} {A : Cells} {v : AV} {H1 : List AB} (h : CallOK P f [.sl false 0 0 n z] [.cells true A] v H1) (hv : below 0 v = true) {H : List AB} {id : Nat} {l : Bool} (hg : getB H id = .cells true A) (hA : ∀ (σ τ : List (Nat × Nat)) (y : Nat) (o : Option Obj), BlkRel σ y (.cells true A) o → BlkRel τ y (.cells true A) o) (hz : 0 < z) :
    CallOK P f [.sl l id 0 n z] H v (setB H id .dead) := fun σ w rargs s hra => by
  obtain ⟨rs, hrs, hs⟩ := relL_one hra
  cases hs with
  | slz => omega
  | sl hid hcap hz =>
  rename_i cap b c
  have hidl : id < H.length := by rw [← s.len]; exact isSome_lt hid
  have hb := s.blk id b c hid
  rw [hg] at hb
  have s0 : Sim [(b, c)] [.cells true A] w := ⟨rfl, fun i b' z' hb' => by
    cases i with
    | zero => simp at hb'; obtain ⟨rfl, rfl⟩ := hb'; exact hA _ _ _ _ hb
    | succ i => simp at hb', fun i j b' z' z2 hi hj _ _ => by
    cases i with
    | succ i => simp at hi
    | zero => cases j with
      | zero => rfl
      | succ j => simp at hj⟩
  have r0 : RelL [(b, c)] [.sl false 0 0 n z] rargs.toList := by
    rw [hrs]
    exact .cons (.sl (by rfl) hcap hz) .nil
  refine (h [(b, c)] w rargs s0 r0).mono ?_
  rintro e w' ⟨rv, rfl, σ1, r1, s1, f1⟩
  refine ⟨rv, rfl, σ, below_free hv r1, ?_, ?_⟩
  · have hk := s.kill id
    refine ⟨hk.len, fun i b' z' hb' => ?_, hk.inj⟩
    have hbi := hk.blk i b' z' hb'
    by_cases hib : id = i
    · subst hib
      rw [getB_setB_same hidl]; trivial
    · rw [getB_setB_ne hib] at hbi ⊢
      cases hgi : getB H i with
      | dead => trivial
      | cells r C =>
        have hq := s.lt hb' (by rw [hgi]; rfl)
        have hne : b' ≠ b := fun e => hib (s.inj id i b c z' hid (by rw [← e]; exact hb') (by rw [hg]; rfl) (by rw [hgi]; rfl))
        rw [f1.old b' hq fun j z2 _ hj => by
          cases j with
          | zero => simp at hj; exact hne hj.1.symm
          | succ j => simp at hj]
        rw [hgi] at hbi; exact hbi
      | code o0 xs0 =>
        have hq := s.lt hb' (by rw [hgi]; rfl)
        have hne : b' ≠ b := fun e => hib (s.inj id i b c z' hid (by rw [← e]; exact hb') (by rw [hg]; rfl) (by rw [hgi]; rfl))
        rw [f1.old b' hq fun j z2 _ hj => by
          cases j with
          | zero => simp at hj; exact hne hj.1.symm
          | succ j => simp at hj]
        rw [hgi] at hbi; exact hbi
  · refine ⟨f1.os, f1.tape, f1.output, f1.size, fun b' hb' hno => f1.old b' hb' fun j z2 _ hj => ?_, Ext.refl σ, fun i b' z' h h' => (by rw [h'] at h; cases h), fun i _ h => ?_⟩
    · cases j with
      | zero =>
        simp at hj
        obtain ⟨rfl, rfl⟩ := hj
        exact hno id c (by rw [hg]; rfl) hid
      | succ j => simp at hj
    · by_cases hib : id = i
      · subst hib
        rw [getB_setB_same hidl] at h; cases h
      · rwa [getB_setB_ne hib] at h
def cmRow : Table := fun _ args H nd K => match args with
  | [.sl _ id off n z] => match getB H id with
    | .cells true (.ints .i64 xs) => K (.i false .i64 (mostZ xs)) (setB H id .dead) ((decide (off = 0) && decide (z = 1) && decide (n = xs.length) && decide (n ≤ 5000)) :: nd)
    | _ => .fail
  | _ => .fail
theorem rw_ints {σ τ : List (Nat × Nat)} {k : IntKind} {xs : List Int} {z : Nat} {o : Option Obj} (h : BlkRel σ z (.cells true (.ints k xs)) o) : BlkRel τ z (.cells true (.ints k xs)) o := by
  obtain ⟨c, e, fr, h1, h2, h3, h4⟩ := h
  refine ⟨c, e, fr, h1, fun j a ha => ?_, h3, h4⟩
  obtain ⟨v, hv, hr⟩ := h2 j a ha
  refine ⟨v, hv, below_free ?_ hr⟩
  simp only [Cells.toL, List.getElem?_map, Option.map_eq_some_iff] at ha
  obtain ⟨y, _, rfl⟩ := ha
  rfl
theorem cm_at : SoundAt Try.prog 183 cmRow := fun args H nd K => by
  unfold cmRow
  split
  case h_2 => exact .inl rfl
  rename_i l id off n z
  split
  case h_2 => exact .inl rfl
  rename_i xs hg
  refine .inr ⟨_, _, _, rfl, fun hn => ?_⟩
  simp only [allT, Bool.and_eq_true, decide_eq_true_eq] at hn
  obtain ⟨⟨⟨⟨rfl, rfl⟩, rfl⟩, h5⟩, hnd⟩ := hn
  exact ⟨hnd, (cm_call h5).writes1 rfl hg (fun _ _ _ _ h => rw_ints h) (by decide)⟩
def moRow : Table := fun _ args H nd K => match args with
  | [a] => match intsAt H a with
    | some (xs, q) => K (.i false .i64 (mostZ xs)) H (q ++ nd)
    | none => .fail
  | _ => .fail
theorem mo_at : SoundAt Try.prog 185 moRow := fun args H nd K => by
  unfold moRow
  split
  case h_2 => exact .inl rfl
  rename_i a
  split
  case h_2 => exact .inl rfl
  rename_i xs q hi
  refine .inr ⟨_, _, _, rfl, fun hn => ?_⟩
  rw [allT_append, Bool.and_eq_true] at hn
  obtain ⟨l2, id, r, rfl, hgb, h5⟩ := intsAt_spec hi hn.1
  exact ⟨hn.2, call_read1 (mo_call h5) rfl hgb⟩
end Go.Ax

/- Planes with small steps: unwrapped again, and their slopes. -/
namespace Go.Ax
open Go Go.Proofs

def dxL (m : Nat) (x : Nat → Int) : List Int := (List.range (m * m)).flatMap fun k => match Nat.blt (k % m + 1) m with
  | true => [wrapQ false .i64 (x (k + 1) - x k)]
  | false => []
def dyL (m : Nat) (x : Nat → Int) : List Int := (List.range (m * m)).flatMap fun k => match Nat.blt (k / m + 1) m with
  | true => [wrapQ false .i64 (x (k + m) - x k)]
  | false => []
def slL (n : Int) (xs : List Int) : List Int := [mostZ (dxL n.toNat fun j => xs.getD j 0), mostZ (dyL n.toNat fun j => xs.getD j 0)]
theorem mostZ_const {xs : List Int} {c : Int} (h0 : xs ≠ []) (h : ∀ y ∈ xs, y = c) : mostZ xs = c := by
  rcases mo_best xs with ⟨h1, _⟩ | ⟨h1, _⟩
  · exact absurd h1 h0
  · exact h _ h1
def plF (m : Nat) (u v : Int) (i : Nat) : Int := u * ((i % m : Nat) : Int) + v * ((i / m : Nat) : Int)
def plL (m : Nat) (u v : Int) : List Int := (List.range (m * m)).map (plF m u v)
theorem plL_get {m : Nat} {u v : Int} {i : Nat} (h : i < m * m) : (plL m u v).getD i 0 = plF m u v i := by
  simp [plL, List.getD_eq_getElem?_getD, h]
theorem mul31 {u : Int} {k K : Nat} (hu : -31 ≤ u ∧ u ≤ 31) (hk : k ≤ K) : -(31 * (K : Int)) ≤ u * (k : Int) ∧ u * (k : Int) ≤ 31 * (K : Int) := by
  have h1 : u * (k : Int) ≤ 31 * (k : Int) := Int.mul_le_mul_of_nonneg_right hu.2 (by omega)
  have h2 : -31 * (k : Int) ≤ u * (k : Int) := Int.mul_le_mul_of_nonneg_right hu.1 (by omega)
  omega
theorem plF_bd {m : Nat} (hm : m = 1 ∨ m = 2 ∨ m = 4 ∨ m = 8) {u v : Int} (hu : -31 ≤ u ∧ u ≤ 31) (hv : -31 ≤ v ∧ v ≤ 31) {i : Nat} (hi : i < m * m) : -500 ≤ plF m u v i ∧ plF m u v i ≤ 500 := by
  have h1 : i % m ≤ 7 := by rcases hm with rfl | rfl | rfl | rfl <;> omega
  have h2 : i / m ≤ 7 := by rcases hm with rfl | rfl | rfl | rfl <;> omega
  have a := mul31 hu h1
  have b := mul31 hv h2
  unfold plF
  omega
theorem wz_eq {h : Int} (_ : -100000 ≤ h ∧ h ≤ 100000) : wz h = h % 64 := by
  unfold wz
  have b1 := Int.tmod_lt_of_pos h (b := 64) (by omega)
  have b2 := Int.lt_tmod_of_pos h (b := 64) (by omega)
  rw [small64 (by omega), Int.tmod_eq_emod_of_nonneg (by omega), Int.add_emod_right]
  have := Int.tmod_def h 64
  omega
theorem pl_right {m : Nat} (hm : m = 1 ∨ m = 2 ∨ m = 4 ∨ m = 8) (u v : Int) {i : Nat} (h : i % m + 1 < m) : plF m u v (i + 1) = plF m u v i + u := by
  have e1 : (i + 1) % m = i % m + 1 := by rcases hm with rfl | rfl | rfl | rfl <;> omega
  have e2 : (i + 1) / m = i / m := by rcases hm with rfl | rfl | rfl | rfl <;> omega
  unfold plF
  rw [e1, e2, Int.natCast_add, Int.mul_add]
  omega
theorem pl_down {m : Nat} (hm : m = 1 ∨ m = 2 ∨ m = 4 ∨ m = 8) (u v : Int) (i : Nat) : plF m u v (i + m) = plF m u v i + v := by
  have e1 : (i + m) % m = i % m := Nat.add_mod_right _ _
  have e2 : (i + m) / m = i / m + 1 := by rcases hm with rfl | rfl | rfl | rfl <;> omega
  unfold plF
  rw [e1, e2, Int.natCast_add, Int.mul_add]
  omega
theorem pl_up {m : Nat} (hm : m = 1 ∨ m = 2 ∨ m = 4 ∨ m = 8) (u v : Int) {k : Nat} (hk : 0 < k) : plF m u v k - plF m u v (upN m k) = u ∨ plF m u v k - plF m u v (upN m k) = v := by
  unfold upN
  split
  · rename_i h
    have hge : m ≤ k := by rcases hm with rfl | rfl | rfl | rfl <;> omega
    have := pl_down hm u v (k - m)
    rw [Nat.sub_add_cancel hge] at this
    omega
  · rename_i h
    have := pl_right hm u v (i := k - 1) (by rcases hm with rfl | rfl | rfl | rfl <;> omega)
    rw [Nat.sub_add_cancel hk] at this
    omega
theorem plane_back {m : Nat} (hm : m = 1 ∨ m = 2 ∨ m = 4 ∨ m = 8) {u v : Int} (hu : -31 ≤ u ∧ u ≤ 31) (hv : -31 ≤ v ∧ v ≤ 31) : rwL (m : Int) (wrL m (plL m u v)) = plL m u v := by
  have hm0 : 0 < m := by omega
  have hN : m * m ≤ 64 := by rcases hm with rfl | rfl | rfl | rfl <;> decide
  have hl : (wrL m (plL m u v)).length = m * m := by simp [wrL, plL]
  have hw : ∀ i, i < m * m → (wrL m (plL m u v)).getD i 0 = plF m u v i % 64 := fun i hi => by
    have : (wrL m (plL m u v)).getD i 0 = wz (plF m u v i) := by simp [wrL, plL, List.getD_eq_getElem?_getD, hi]
    rw [this]
    have := plF_bd hm hu hv hi
    exact wz_eq (by omega)
  have ha : allI 0 63 (wrL m (plL m u v)) = true := by
    rw [allI_iff]
    intro i hi
    rw [hw i (by omega)]
    omega
  have hv0 : ∀ k, k < m * m → (rwL (m : Int) (wrL m (plL m u v))).getD k 0 = plF m u v k := by
    intro k
    induction k using Nat.strongRecOn with
    | ind k ih =>
      intro hk
      unfold rwL at ih ⊢
      simp only [Int.toNat_natCast] at ih ⊢
      rcases Nat.eq_zero_or_pos k with rfl | hk0
      · rw [rwP_zero, hw 0 hk]
        simp [plF]
      · have hu1 := upN_lt hm0 hk0
        rw [rwP_up hm0 ha (by omega) hk0 (by omega) (by omega), ih _ hu1 (by omega), hw k hk, hw _ (by omega)]
        have := pl_up hm u v hk0
        unfold stN
        omega
  have hrl : (rwL (m : Int) (wrL m (plL m u v))).length = m * m := by unfold rwL; rw [rwP_length, hl]
  refine ext_getD (by rw [hrl]; simp [plL]) fun j hj => ?_
  rw [hrl] at hj
  rw [hv0 j hj, plL_get hj]
theorem plane_slopes {m : Nat} (hm : m = 2 ∨ m = 4 ∨ m = 8) {u v : Int} (hu : -31 ≤ u ∧ u ≤ 31) (hv : -31 ≤ v ∧ v ≤ 31) : slL (m : Int) (plL m u v) = [u, v] := by
  have hm' : m = 1 ∨ m = 2 ∨ m = 4 ∨ m = 8 := by omega
  have hx : mostZ (dxL m fun j => (plL m u v).getD j 0) = u := by
    refine mostZ_const (fun e => ?_) fun y hy => ?_
    · have : wrapQ false .i64 ((plL m u v).getD 1 0 - (plL m u v).getD 0 0) ∈ dxL m fun j => (plL m u v).getD j 0 := by
        unfold dxL
        rw [List.mem_flatMap]
        refine ⟨0, List.mem_range.2 (by rcases hm with rfl | rfl | rfl <;> decide), ?_⟩
        rcases hm with rfl | rfl | rfl <;> simp [Nat.blt]
      rw [e] at this
      simp at this
    · unfold dxL at hy
      rw [List.mem_flatMap] at hy
      obtain ⟨k, hk, hy⟩ := hy
      rw [List.mem_range] at hk
      split at hy
      · rename_i hb
        have hb := blt_true hb
        simp only [List.mem_singleton] at hy
        have hk1 : k + 1 < m * m := by rcases hm with rfl | rfl | rfl <;> omega
        rw [plL_get hk1, plL_get hk, pl_right hm' u v hb] at hy
        rw [hy, small64 (by omega)]
        omega
      · simp at hy
  have hy : mostZ (dyL m fun j => (plL m u v).getD j 0) = v := by
    refine mostZ_const (fun e => ?_) fun y hy => ?_
    · have : wrapQ false .i64 ((plL m u v).getD (0 + m) 0 - (plL m u v).getD 0 0) ∈ dyL m fun j => (plL m u v).getD j 0 := by
        unfold dyL
        rw [List.mem_flatMap]
        refine ⟨0, List.mem_range.2 (by rcases hm with rfl | rfl | rfl <;> decide), ?_⟩
        rcases hm with rfl | rfl | rfl <;> simp [Nat.blt]
      rw [e] at this
      simp at this
    · unfold dyL at hy
      rw [List.mem_flatMap] at hy
      obtain ⟨k, hk, hy⟩ := hy
      rw [List.mem_range] at hk
      split at hy
      · rename_i hb
        have hb := blt_true hb
        simp only [List.mem_singleton] at hy
        have hk1 : k + m < m * m := by rcases hm with rfl | rfl | rfl <;> omega
        rw [plL_get hk1, plL_get hk, pl_down hm' u v k] at hy
        rw [hy, small64 (by omega)]
        omega
      · simp at hy
  unfold slL
  simp only [Int.toNat_natCast]
  rw [hx, hy]
end Go.Ax
