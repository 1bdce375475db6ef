/- spec.l07Map gives some number and some list. -/
import Derived.Test.YtdcjjibekhcplaaEai
namespace Go.Ax
open Go Go.Proofs

theorem list_map_eq {α β : Type} {f g : α → β} {l : List α} (h : l.map f = l.map g) {a : α} (ha : a ∈ l) : f a = g a := by
  induction l with
  | nil => cases ha
  | cons b l ih =>
    simp only [List.map_cons, List.cons.injEq] at h
    rcases List.mem_cons.1 ha with rfl | ha
    · exact h.1
    · exact ih h.2 ha
theorem tupW {l l' : List AV} (h : l.map AV.bare = l'.map AV.bare) {σ : List (Nat × Nat)} {v : Value} (r : Rel σ (.tup l) v) : Rel σ (.tup l') v := by
  cases r with | tup r => exact .tup (RelL.unbare (h ▸ r.bare))
theorem mp_drop (c : Cd) (a : Nat) (h : Int) (w : Bool) (n kd U V : Int) (k : Nat) (xs : List Int) : dropsT 2 [2, 2] (mpTn w n kd U V k xs) (mpN c a h w n kd U V k xs) =
    (true, mpTl w n kd U V (.sl false 2 0 (xs.length + 1) 1) (.i false .i64 (wrapQ false .i64 (Int.ofNat k + 1))), mpH c (mpA c a kd) (mpS h kd) (List.take (xs.length * 1) (List.drop 0 xs) ++ [mpV c a h w n kd U V k])) := by kernel_rfl
def mpAs (w : Bool) : List AV := [.p true 1 0, .b true w]
def mpH2 (c : Cd) (a : Nat) (h : Int) : List AB := [codeB c false, srcB c a h]
theorem mp_loop {c : Cd} (hc : goodB c = true) {a0 : Nat} {h0 : Int} {w : Bool} {n kd U V : Int} (hn : n ∈ ([1, 2, 4, 8] : List Int)) (hk : kd ∈ ([0, 1, 2, 3] : List Int)) {L0 : List Item} {t0 : List AV} (hL0 : toLp L0 = mpR) {a : Nat} {h : Int}
    (hr : Reach Try.prog [.code mpC] t0 (mpH2 c a0 h0) L0 (mpT w n kd U V 0 []) (mpH c a h [])) : ∀ k, k ≤ n.toNat * n.toNat → ∃ L xs a h, toLp L = mpR ∧ xs.length = k ∧ Reach Try.prog [.code mpC] t0 (mpH2 c a0 h0) L (mpT w n kd U V k xs) (mpH c a h xs)
  | 0, _ => ⟨L0, [], a, h, hL0, rfl, hr⟩
  | k + 1, hkN => by
    obtain ⟨L, xs, a1, h1, hL, hx, r⟩ := mp_loop hc hn hk hL0 hr k (by omega)
    have hN : n.toNat * n.toNat ≤ 64 := by
      simp only [List.mem_cons, List.not_mem_nil, or_false] at hn
      rcases hn with rfl | rfl | rfl | rfl <;> decide
    have hok : okB c c.off c.len = true := by simp [okB, hc]
    have hs : mpStep c a1 h1 U V k xs (w, n, kd) = mpWant c a1 h1 U V k xs (w, n, kd) := by
      have hm : (w, n, kd) ∈ mpAll w := by
        simp only [mpAll, List.mem_flatMap, List.mem_map]
        exact ⟨n, hn, kd, hk, rfl⟩
      cases w with
      | true => exact list_map_eq (mpU_t c a1 h1 U V k xs) hm
      | false => exact list_map_eq (mpU_f c a1 h1 U V k xs) hm
    simp only [mpStep, mpWant, Prod.mk.injEq] at hs
    obtain ⟨s1, s2⟩ := hs
    have hU : mpU c a1 h1 w n kd U V k xs = cupto Try.prog tabMq atLoop 200 L (mpT w n kd U V k xs) (mpH c a1 h1 xs) := by
      unfold mpU
      rw [← cupto_toLp Try.prog tabMq atLoop 200 L, hL]
    rw [hU] at s1 s2
    have hlt : ltQ false (Int.ofNat k) (n * n) = true := by
      rw [ltQ_eq]
      simp only [List.mem_cons, List.not_mem_nil, or_false] at hn
      rcases hn with rfl | rfl | rfl | rfl <;> simp at hkN ⊢ <;> omega
    have hq : allT (mpQ c kd xs) = true := by
      have hlen : (Cells.ints IntKind.i64 xs).len = xs.length := rfl
      have h1 : (decide (0 = 0) && decide (1 = 1) && decide (xs.length * 1 = (Cells.ints IntKind.i64 xs).len) && decide ((2 * (xs.length + 1) + 1024) * 8 ≤ 2 ^ 48)) = true := by
        rw [hlen]
        simp only [Bool.and_eq_true, decide_eq_true_eq]
        refine ⟨⟨⟨trivial, trivial⟩, by omega⟩, ?_⟩
        have : (2 * (xs.length + 1) + 1024) * 8 ≤ 20000 := by omega
        exact Nat.le_trans this (by decide)
      unfold mpQ
      rw [h1]
      cases decide (kd = 0) || decide (kd = 1) <;> simp [allT, hok]
    have r1 := r.trans (cway_reach (P := Try.prog) (T := tabMq) (stop := atLoop) (n := 200) (L := L) (p := [true]) (M := mpM) (t0 := mpT w n kd U V k xs) (H0 := mpH c a1 h1 xs) (t' := mpTn w n kd U V k xs) (todo' := mpR) (H' := mpN c a1 h1 w n kd U V k xs) (nd := mpQ c kd xs) tabMq_sound (by rw [s1, hlt]; rfl) s2 hq)
    have r2 := r1.drops (ks := [2, 2]) (mp_drop c a1 h1 w n kd U V k xs)
    have e1 : List.take (xs.length * 1) (List.drop 0 xs) = xs := by simp
    rw [e1] at r2
    refine ⟨mpR, xs ++ [mpV c a1 h1 w n kd U V k], mpA c a1 kd, mpS h1 kd, mpR_eq, by simp [hx], ?_⟩
    have e2 : mpT w n kd U V (k + 1) (xs ++ [mpV c a1 h1 w n kd U V k]) = mpTl w n kd U V (.sl false 2 0 (xs.length + 1) 1) (.i false .i64 (wrapQ false .i64 (Int.ofNat k + 1))) := by
      unfold mpT
      rw [ofNat_next (by omega)]
      simp
    rw [e2]
    exact r2
theorem okN_ok {c : Cd} (hc : goodB c = true) : ∀ n, okN c n = true
  | 0 => rfl
  | n + 1 => by simp [okN, okN_ok hc n, okB, hc]
/-- All numbers that are drawn as a side. -/
def mpNs : List Int := [1, 2, 4, 8] ++ mpNo
theorem map_ok {c : Cd} (hc : goodB c = true) (w : Bool) (a : Nat) (h : Int) : ∃ (m : Int) (ys : List Int) (a' : Nat) (h' : Int), (ys.length ≤ 65 ∧ m ∈ mpNs) ∧ CallOK Try.prog 171 (mpAs w) (mpH2 c a h) (.tup [.i false .i64 m, .sl false 2 0 ys.length 1]) (mpH c a' h' ys) := by
  have hok : okB c c.off c.len = true := by simp [okB, hc]
  have h0 := mp0_ok c a h w
  simp only [Prod.mk.injEq] at h0
  obtain ⟨x, hx, hs⟩ := Res.stops_sel h0.1
  have hm : mpF x ∈ mpPs.map fun p => (mpL, (true, (mpT w p.1 p.2 (mpUV c (nxA c a 7) (nxS h 7)) (mpUV c (nxA c (nxA c a 7) 61) (nxS (nxS h 7) 61)) 0 []).map AV.bare, mpH c (nxA c (nxA c (nxA c (nxA c a 7) 61) 61) 4) (nxS (nxS (nxS (nxS h 7) 61) 61) 4) []), List.replicate 4 (okB c c.off c.len)) := by
    rw [← h0.2]
    exact List.mem_map.2 ⟨x, hx, rfl⟩
  obtain ⟨p, hp, he⟩ := List.mem_map.1 hm
  simp only [mpF, Prod.mk.injEq] at he
  obtain ⟨e1, ⟨e2, e3, e4⟩, e5⟩ := he
  obtain ⟨hn, hk⟩ : p.1 ∈ ([1, 2, 4, 8] : List Int) ∧ p.2 ∈ ([0, 1, 2, 3] : List Int) := by
    simp only [mpPs, List.mem_flatMap, List.mem_map] at hp
    obtain ⟨n, hn, k, hk, rfl⟩ := hp
    simp only [List.mem_cons, List.not_mem_nil, or_false] at hn hk ⊢
    exact ⟨by omega, by omega⟩
  have r0 := cupto_reach (stop := atLoop) (n := 200) (todo := [.code mpC]) (t := mpAs w ++ undefs 80) (H := mpH2 c a h) tabMp_sound hs (by rw [← e5]; rw [hok]; rfl)
  have r1 := r0.drops (ks := [2]) (t2 := (dropsT 2 [2] x.t x.H).2.1) (H2 := (dropsT 2 [2] x.t x.H).2.2) (Prod.ext e2.symm rfl)
  rw [← e1, ← e4] at r1
  have r2 := (r1.weak (blur_eqv mpM _)).weak (eqv_of_bare e3.symm)
  have hL : toLp mpL = mpR := rfl
  obtain ⟨L, xs, a1, h1, hL1, hlen, r3⟩ := mp_loop hc hn hk hL r2 (p.1.toNat * p.1.toNat) (Nat.le_refl _)
  have hxs : xs = zXL (p.1.toNat * p.1.toNat) (fun j => xs.getD j 0) := by
    have := map_range_getD (fun z : Int => z) 0 xs _ hlen
    simpa [zXL] using this
  have hN : p.1.toNat * p.1.toNat ≤ 64 := by
    simp only [List.mem_cons, List.not_mem_nil, or_false] at hn
    rcases hn with e | e | e | e <;> rw [e] <;> decide
  obtain ⟨q, hq, hcq⟩ := mpW_some c a1 h1 (fun j => xs.getD j 0) p.1 (p.1.toNat * p.1.toNat)
  obtain ⟨m, ys, a', h', k, hy, hback⟩ := mpW_back c a1 h1 (fun j => xs.getD j 0) p.1 (p.1.toNat * p.1.toNat) q hq
  have hz : mpZ c a1 h1 w p.1 (p.1.toNat * p.1.toNat) p.2 (mpUV c (nxA c a 7) (nxS h 7)) (mpUV c (nxA c (nxA c a 7) 61) (nxS (nxS h 7) 61)) (fun j => xs.getD j 0) q.1 = q.2 := by
    generalize mpUV c (nxA c a 7) (nxS h 7) = U
    generalize mpUV c (nxA c (nxA c a 7) 61) (nxS (nxS h 7) 61) = V
    generalize p.2 = kd
    generalize (fun j => xs.getD j 0) = x at hq ⊢
    generalize p.1 = n at hn hq ⊢
    simp only [List.mem_cons, List.not_mem_nil, or_false] at hn
    rcases hn with rfl | rfl | rfl | rfl
    · exact list_map_eq (mpW_1 c a1 h1 U V x w kd) hq
    · exact list_map_eq (mpW_2 c a1 h1 U V x w kd) hq
    · exact list_map_eq (mpW_4 c a1 h1 U V x w kd) hq
    · exact list_map_eq (mpW_8 c a1 h1 U V x w kd) hq
  unfold mpZ at hz
  have hz1 := congrArg Prod.fst hz
  have hz2 := congrArg Prod.snd hz
  dsimp only at hz1 hz2
  rw [hback] at hz2
  unfold mpG at hz2
  rw [okN_ok hc] at hz2
  have r4 : Reach Try.prog [.code mpC] (mpAs w ++ undefs 80) (mpH2 c a h) L (mpTl w p.1 p.2 (mpUV c (nxA c a 7) (nxS h 7)) (mpUV c (nxA c (nxA c a 7) 61) (nxS (nxS h 7) 61)) (.sl true 2 0 (p.1.toNat * p.1.toNat) 1) (.i true .i64 (Int.ofNat (p.1.toNat * p.1.toNat)))) (mpH c a1 h1 (zXL (p.1.toNat * p.1.toNat) fun j => xs.getD j 0)) := by
    rw [← hxs]
    refine r3.weak (eqv_of_bare ?_)
    unfold mpT
    rw [hlen]
    rfl
  unfold mpE at hz1 hz2
  rw [← hL1, cupto_toLp] at hz1 hz2
  have k2 := cend_call (P := Try.prog) (T := tabMp) (stop := fun _ => false) (n := 200) (ks := q.1.2) (f := 171) (args := mpAs w) (H0 := mpH2 c a h) (p := q.1.1) tabMp_sound Try.func171 (rfl : Try.f171.body = some mpC) r4 (by rw [hz1]; exact hcq) hz2
  exact ⟨m, ys, a', h', ⟨by omega, by
    rcases hy.2 with rfl | h0
    · exact List.mem_append_left _ hn
    · exact List.mem_append_right _ h0⟩, k2.weaken fun σ x r => tupW (by rfl) r⟩
end Go.Ax
