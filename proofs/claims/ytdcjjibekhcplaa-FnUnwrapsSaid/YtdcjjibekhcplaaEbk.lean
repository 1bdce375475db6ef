/- impl.UnwrapFlood: blocks out of use. -/
import Derived.Test.YtdcjjibekhcplaaEar
import Derived.Test.YtdcjjibekhcplaaEbc
import Derived.Test.YtdcjjibekhcplaaEbd
import Derived.Test.YtdcjjibekhcplaaEbe
import Derived.Test.YtdcjjibekhcplaaEbf
import Derived.Test.YtdcjjibekhcplaaEbg
import Derived.Test.YtdcjjibekhcplaaEbh
import Derived.Test.YtdcjjibekhcplaaEbj
namespace Go.Ax
open Go Go.Proofs

/-- The queue: some elements from an offset on, or nothing and no room. -/
def qv (kk : Option (Nat × Nat)) (id : Nat) : AV := match kk with
  | some (off, L) => .sl false id off L 2
  | none => .sle
def qB (qs : List Int) : AB := .cells true (.ints .i64 qs)
section
variable (x0 : Nat → Int) (X : Nat → Nat × Nat) (os : List Int) (M : Nat → Bool) (qs : List Int) (b : Bool) (p i : Nat) (d e : AB)
def dStay (m off L : Nat) (k : Bool) := dropsT 1 [6] (uiTl b m (m * m) p i (qv (cond k (some (off, L)) none) (qId b)) []) (uB4 m (m * m) x0 X os M ++ qMem b (qB qs) (atB m p) ++ [d])
def dStayW (m off L : Nat) (k : Bool) : Bool × List AV × List AB := (true, uiTl b m (m * m) p i (qv (cond k (some (off, L)) none) (qId b)) [], uB4 m (m * m) x0 X os M ++ qMem b (qB qs) (atB m p))
def dVis (m off L : Nat) (Q : AB) := dropsT 1 (cond b [7, 6, 5] [7, 6, 4]) (uiTl b m (m * m) p i (.sl false 8 off L 2) []) (uB4 m (m * m) x0 X os M ++ (qMem b Q (atB m p) ++ [d]) ++ [e, qB qs])
def dVisW (m off L : Nat) : Bool × List AV × List AB := (true, uiTl true m (m * m) p i (.sl false 5 off L 2) [], uB4 m (m * m) x0 X os M ++ qMem true (qB qs) (atB m p))
def dOut (m off L : Nat) (k : Bool) := dropsT 1 [aAt b] (ugTl m (m * m) (qv (cond k (some (off, L)) none) (qId b)) []) (uB4 m (m * m) x0 X os M ++ qMem b (qB qs) (atB m p))
def dOutW (m off L : Nat) (k : Bool) : Bool × List AV × List AB := (true, ugTl m (m * m) (qv (cond k (some (off, L)) none) 4) [], uB4 m (m * m) x0 X os M ++ [qB qs])
theorem dStay_1 (off L : Nat) (k : Bool) : dStay x0 X os M qs b p i d 1 off L k = dStayW x0 X os M qs b p i 1 off L k := by cases b <;> cases k <;> kernel_rfl
theorem dStay_2 (off L : Nat) (k : Bool) : dStay x0 X os M qs b p i d 2 off L k = dStayW x0 X os M qs b p i 2 off L k := by cases b <;> cases k <;> kernel_rfl
theorem dStay_4 (off L : Nat) (k : Bool) : dStay x0 X os M qs b p i d 4 off L k = dStayW x0 X os M qs b p i 4 off L k := by cases b <;> cases k <;> kernel_rfl
theorem dStay_8 (off L : Nat) (k : Bool) : dStay x0 X os M qs b p i d 8 off L k = dStayW x0 X os M qs b p i 8 off L k := by cases b <;> cases k <;> kernel_rfl
theorem dVis_1 (off L : Nat) (Q : AB) : dVis x0 X os M qs b p i d e 1 off L Q = dVisW x0 X os M qs p i 1 off L := by cases b <;> kernel_rfl
theorem dVis_2 (off L : Nat) (Q : AB) : dVis x0 X os M qs b p i d e 2 off L Q = dVisW x0 X os M qs p i 2 off L := by cases b <;> kernel_rfl
theorem dVis_4 (off L : Nat) (Q : AB) : dVis x0 X os M qs b p i d e 4 off L Q = dVisW x0 X os M qs p i 4 off L := by cases b <;> kernel_rfl
theorem dVis_8 (off L : Nat) (Q : AB) : dVis x0 X os M qs b p i d e 8 off L Q = dVisW x0 X os M qs p i 8 off L := by cases b <;> kernel_rfl
theorem dOut_1 (off L : Nat) (k : Bool) : dOut x0 X os M qs b p 1 off L k = dOutW x0 X os M qs 1 off L k := by cases b <;> cases k <;> kernel_rfl
theorem dOut_2 (off L : Nat) (k : Bool) : dOut x0 X os M qs b p 2 off L k = dOutW x0 X os M qs 2 off L k := by cases b <;> cases k <;> kernel_rfl
theorem dOut_4 (off L : Nat) (k : Bool) : dOut x0 X os M qs b p 4 off L k = dOutW x0 X os M qs 4 off L k := by cases b <;> cases k <;> kernel_rfl
theorem dOut_8 (off L : Nat) (k : Bool) : dOut x0 X os M qs b p 8 off L k = dOutW x0 X os M qs 8 off L k := by cases b <;> cases k <;> kernel_rfl
end
end Go.Ax

/- Floods: the plain list that a flood comes to. -/
namespace Go.Ax
open Go Go.Proofs

/-- What a flood has done so far: the heights, the cells that are met, the queue from its beginning. -/
structure Fl where
  os : List Int
  M : Nat → Bool
  qs : List Nat
def metF (M : Nat → Bool) (to j : Nat) : Bool := cond (Nat.beq j to) true (M j)
/-- One direction from a place. -/
def fl1 (m : Nat) (x0 : Nat → Int) (X : Nat → Nat × Nat) (p : Nat) (s : Fl) (i : Nat) : Fl := match tgt m p i with
  | none => s
  | some to => match s.M to || xzB X to with
    | true => s
    | false => ⟨s.os.set to (visV x0 s.os p to), metF s.M to, s.qs ++ [to]⟩
def fl4 (m : Nat) (x0 : Nat → Int) (X : Nat → Nat × Nat) (p : Nat) (s : Fl) : Fl := fl1 m x0 X p (fl1 m x0 X p (fl1 m x0 X p (fl1 m x0 X p s 0) 1) 2) 3
def flGo (m : Nat) (x0 : Nat → Int) (X : Nat → Nat × Nat) : Nat → Nat → Fl → Fl
  | 0, _, s => s
  | f + 1, k, s => match s.qs[k]? with
    | some p => flGo m x0 X f (k + 1) (fl4 m x0 X p s)
    | none => s
def flIni (m : Nat) (x0 : Nat → Int) (p : Nat) : Fl := ⟨(List.replicate (m * m) 0).set p (x0 p), metF (fun _ => false) p, [p]⟩
def flEnd (m : Nat) (x0 : Nat → Int) (X : Nat → Nat × Nat) (p : Nat) : Fl := flGo m x0 X (m * m + 1) 0 (flIni m x0 p)
/-- How many are met. -/
def ctM (M : Nat → Bool) : Nat → Nat
  | 0 => 0
  | n + 1 => ctM M n + cond (M n) 1 0
theorem ctM_le (M : Nat → Bool) : ∀ n, ctM M n ≤ n
  | 0 => Nat.le_refl _
  | n + 1 => by
    have := ctM_le M n
    unfold ctM
    cases M n <;> simp only [cond] <;> omega
theorem metF_same (M : Nat → Bool) (to : Nat) : metF M to to = true := by unfold metF; rw [Nat.beq_refl]; rfl
theorem metF_ne (M : Nat → Bool) {to j : Nat} (h : j ≠ to) : metF M to j = M j := by
  unfold metF
  have : Nat.beq j to = false := by
    cases hb : Nat.beq j to with
    | false => rfl
    | true => exact absurd (Nat.eq_of_beq_eq_true hb) h
  rw [this]; rfl
theorem ctM_low (M : Nat → Bool) (to : Nat) : ∀ n, n ≤ to → ctM (metF M to) n = ctM M n
  | 0, _ => rfl
  | n + 1, h => by
    unfold ctM
    rw [ctM_low M to n (by omega), metF_ne M (by omega)]
theorem ctM_met (M : Nat → Bool) {to : Nat} (h0 : M to = false) : ∀ n, to < n → ctM (metF M to) n = ctM M n + 1
  | 0, h => absurd h (Nat.not_lt_zero _)
  | n + 1, h => by
    unfold ctM
    by_cases hn : n = to
    · subst hn
      rw [metF_same, h0, ctM_low M n n (Nat.le_refl _)]
      simp only [cond]
    · rw [ctM_met M h0 n (by omega), metF_ne M hn]
      omega
theorem ctM_none : ∀ n, ctM (fun _ => false) n = 0
  | 0 => rfl
  | n + 1 => by unfold ctM; rw [ctM_none n]; rfl
/-- What holds of a flood on the way. -/
structure FlOK (m : Nat) (s : Fl) : Prop where
  len : s.os.length = m * m
  low : ∀ p ∈ s.qs, p < m * m
  ct : s.qs.length = ctM s.M (m * m)
  bd : ∀ i, -(63 + 32 * (s.qs.length : Int)) ≤ s.os.getD i 0 ∧ s.os.getD i 0 ≤ 63 + 32 * (s.qs.length : Int)
theorem FlOK.most {m : Nat} {s : Fl} (h : FlOK m s) : s.qs.length ≤ m * m := by rw [h.ct]; exact ctM_le _ _
theorem tgt_lt {m p i to : Nat} (hm : m = 1 ∨ m = 2 ∨ m = 4 ∨ m = 8) (hp : p < m * m) (h : tgt m p i = some to) : to < m * m := by
  unfold tgt at h
  rcases hm with rfl | rfl | rfl | rfl <;> split at h <;> split at h <;> cases h <;> omega
theorem set_bd {os : List Int} {to : Nat} {v b : Int} (hb : ∀ i, -b ≤ os.getD i 0 ∧ os.getD i 0 ≤ b) (hv : -b ≤ v ∧ v ≤ b) (i : Nat) : -b ≤ (os.set to v).getD i 0 ∧ (os.set to v).getD i 0 ≤ b := by
  have h := hb i
  simp only [List.getD_eq_getElem?_getD, List.getElem?_set] at h ⊢
  by_cases hi : to = i
  · rw [if_pos hi]
    by_cases hl : to < os.length
    · rw [if_pos hl]; exact hv
    · rw [if_neg hl]
      have := hb os.length
      simp only [List.getD_eq_getElem?_getD, List.getElem?_eq_none (Nat.le_refl _), Option.getD_none] at this ⊢
      exact this
  · rw [if_neg hi]; exact h
theorem fl1_ok {m : Nat} (hm : m = 1 ∨ m = 2 ∨ m = 4 ∨ m = 8) {x0 : Nat → Int} (hx : ∀ i, i < m * m → 0 ≤ x0 i ∧ x0 i ≤ 63) {X : Nat → Nat × Nat} {p : Nat} (hp : p < m * m) {s : Fl} (h : FlOK m s) (i : Nat) : FlOK m (fl1 m x0 X p s i) := by
  unfold fl1
  split
  · exact h
  · rename_i to ht
    have hto := tgt_lt hm hp ht
    split
    · exact h
    · rename_i hb
      rw [Bool.or_eq_false_iff] at hb
      have hl := h.most
      have hN : m * m ≤ 64 := by rcases hm with rfl | rfl | rfl | rfl <;> decide
      refine ⟨by simp [h.len], fun q hq => ?_, ?_, fun j => ?_⟩
      · simp only [List.mem_append, List.mem_singleton] at hq
        rcases hq with hq | rfl
        · exact h.low q hq
        · exact hto
      · simp only [List.length_append, List.length_cons, List.length_nil]
        rw [ctM_met s.M hb.1 _ hto, h.ct]
      · simp only [List.length_append, List.length_cons, List.length_nil]
        have hp' := h.bd p
        have x1 := hx p hp
        have x2 := hx to hto
        have e : visV x0 s.os p to = s.os.getD p 0 + ((x0 to - x0 p + 32) % 64 - 32) := by
          unfold visV
          rw [stZ_bound (by omega) (by omega)]
          exact small64 (by omega)
        refine set_bd (b := 63 + 32 * ((s.qs.length + (0 + 1) : Nat) : Int)) (fun j => ?_) ?_ j
        · have := h.bd j
          omega
        · rw [e]
          omega
theorem fl4_ok {m : Nat} (hm : m = 1 ∨ m = 2 ∨ m = 4 ∨ m = 8) {x0 : Nat → Int} (hx : ∀ i, i < m * m → 0 ≤ x0 i ∧ x0 i ≤ 63) {X : Nat → Nat × Nat} {p : Nat} (hp : p < m * m) {s : Fl} (h : FlOK m s) : FlOK m (fl4 m x0 X p s) :=
  fl1_ok hm hx hp (fl1_ok hm hx hp (fl1_ok hm hx hp (fl1_ok hm hx hp h 0) 1) 2) 3
theorem flIni_ok {m : Nat} {x0 : Nat → Int} (hx : ∀ i, i < m * m → 0 ≤ x0 i ∧ x0 i ≤ 63) {p : Nat} (hp : p < m * m) : FlOK m (flIni m x0 p) := by
  have x1 := hx p hp
  refine ⟨by simp [flIni], fun q hq => ?_, ?_, fun j => ?_⟩
  · simp only [flIni, List.mem_singleton] at hq
    subst hq; exact hp
  · simp only [flIni, List.length_cons, List.length_nil]
    rw [ctM_met _ rfl _ hp, ctM_none]
  · simp only [flIni, List.length_cons, List.length_nil]
    refine set_bd (b := 63 + 32 * ((0 + 1 : Nat) : Int)) (fun j => ?_) (by omega) j
    simp only [List.getD_eq_getElem?_getD, List.getElem?_replicate]
    split <;> simp
theorem flGo_ok {m : Nat} (hm : m = 1 ∨ m = 2 ∨ m = 4 ∨ m = 8) {x0 : Nat → Int} (hx : ∀ i, i < m * m → 0 ≤ x0 i ∧ x0 i ≤ 63) {X : Nat → Nat × Nat} : ∀ (f k : Nat) {s : Fl}, FlOK m s → FlOK m (flGo m x0 X f k s)
  | 0, _, _, h => h
  | f + 1, k, s, h => by
    unfold flGo
    split
    · rename_i p hp
      exact flGo_ok hm hx f (k + 1) (fl4_ok hm hx (h.low p (List.mem_of_getElem? hp)) h)
    · exact h
theorem flEnd_ok {m : Nat} (hm : m = 1 ∨ m = 2 ∨ m = 4 ∨ m = 8) {x0 : Nat → Int} (hx : ∀ i, i < m * m → 0 ≤ x0 i ∧ x0 i ≤ 63) {X : Nat → Nat × Nat} {p : Nat} (hp : p < m * m) : FlOK m (flEnd m x0 X p) := flGo_ok hm hx _ _ (flIni_ok hx hp)
end Go.Ax

/- impl.UnwrapFlood: what its loops do. -/
namespace Go.Ax
open Go Go.Proofs

theorem mapEq_at {α β : Type} {f g : α → β} {l : List α} (h : l.map f = l.map g) {x : α} (hx : x ∈ l) : f x = g x := List.map_inj_left.1 h x hx
theorem pis_mem {m p i : Nat} (hp : p < m * m) (hi : i < 4) : (p, i) ∈ pis m := by
  unfold pis
  rw [List.mem_flatMap]
  exact ⟨p, List.mem_range.2 hp, List.mem_map.2 ⟨i, List.mem_range.2 hi, rfl⟩⟩
theorem pj_mem {k p i : Nat} (h1 : k ≤ p) (h2 : p < k + 16) (hi : i < 4) : (p, i) ∈ (List.range 16).flatMap fun p => (List.range 4).map fun i => (k + p, i) := by
  rw [List.mem_flatMap]
  exact ⟨p - k, List.mem_range.2 (by omega), List.mem_map.2 ⟨i, List.mem_range.2 hi, by rw [Nat.add_sub_cancel' h1]⟩⟩
/-- One round, as told. -/
theorem ui_at {m : Nat} (hm : m = 1 ∨ m = 2 ∨ m = 4 ∨ m = 8) (x0 : Nat → Int) (X : Nat → Nat × Nat) (os : List Int) (M : Nat → Bool) (s : AV) (Q : AB) (b : Bool) {p i : Nat} (hp : p < m * m) (hi : i < 4) : uiG x0 X os M s Q b m p i = uiW x0 X os M s Q b m p i := by
  rcases hm with rfl | rfl | rfl | rfl
  · exact mapEq_at (ui_1 x0 X os M s Q b) (pis_mem hp hi)
  · exact mapEq_at (ui_2 x0 X os M s Q b) (pis_mem hp hi)
  · cases b
    · exact mapEq_at (ui_4f x0 X os M s Q) (pis_mem hp hi)
    · exact mapEq_at (ui_4t x0 X os M s Q) (pis_mem hp hi)
  · rcases Nat.lt_or_ge p 16 with h | h
    · cases b
      · exact mapEq_at (ui_8f0 x0 X os M s Q) (pj_mem (Nat.zero_le _) (by omega) hi)
      · exact mapEq_at (ui_8t0 x0 X os M s Q) (pj_mem (Nat.zero_le _) (by omega) hi)
    · rcases Nat.lt_or_ge p 32 with h2 | h2
      · cases b
        · exact mapEq_at (ui_8f1 x0 X os M s Q) (pj_mem h (by omega) hi)
        · exact mapEq_at (ui_8t1 x0 X os M s Q) (pj_mem h (by omega) hi)
      · rcases Nat.lt_or_ge p 48 with h3 | h3
        · cases b
          · exact mapEq_at (ui_8f2 x0 X os M s Q) (pj_mem h2 (by omega) hi)
          · exact mapEq_at (ui_8t2 x0 X os M s Q) (pj_mem h2 (by omega) hi)
        · cases b
          · exact mapEq_at (ui_8f3 x0 X os M s Q) (pj_mem h3 (by omega) hi)
          · exact mapEq_at (ui_8t3 x0 X os M s Q) (pj_mem h3 (by omega) hi)
theorem dStay_at {m : Nat} (hm : m = 1 ∨ m = 2 ∨ m = 4 ∨ m = 8) (x0 : Nat → Int) (X : Nat → Nat × Nat) (os : List Int) (M : Nat → Bool) (qs : List Int) (b : Bool) (p i : Nat) (d : AB) (kk : Option (Nat × Nat)) :
    dropsT 1 [6] (uiTl b m (m * m) p i (qv kk (qId b)) []) (uB4 m (m * m) x0 X os M ++ qMem b (qB qs) (atB m p) ++ [d]) = (true, uiTl b m (m * m) p i (qv kk (qId b)) [], uB4 m (m * m) x0 X os M ++ qMem b (qB qs) (atB m p)) := by
  rcases hm with rfl | rfl | rfl | rfl <;> cases kk
  · exact dStay_1 x0 X os M qs b p i d 0 0 false
  · exact dStay_1 x0 X os M qs b p i d _ _ true
  · exact dStay_2 x0 X os M qs b p i d 0 0 false
  · exact dStay_2 x0 X os M qs b p i d _ _ true
  · exact dStay_4 x0 X os M qs b p i d 0 0 false
  · exact dStay_4 x0 X os M qs b p i d _ _ true
  · exact dStay_8 x0 X os M qs b p i d 0 0 false
  · exact dStay_8 x0 X os M qs b p i d _ _ true
theorem dVis_at {m : Nat} (hm : m = 1 ∨ m = 2 ∨ m = 4 ∨ m = 8) (x0 : Nat → Int) (X : Nat → Nat × Nat) (os : List Int) (M : Nat → Bool) (qs : List Int) (b : Bool) (p i : Nat) (d e : AB) (off L : Nat) (Q : AB) :
    dropsT 1 (cond b [7, 6, 5] [7, 6, 4]) (uiTl b m (m * m) p i (.sl false 8 off L 2) []) (uB4 m (m * m) x0 X os M ++ (qMem b Q (atB m p) ++ [d]) ++ [e, qB qs]) = (true, uiTl true m (m * m) p i (.sl false 5 off L 2) [], uB4 m (m * m) x0 X os M ++ qMem true (qB qs) (atB m p)) := by
  rcases hm with rfl | rfl | rfl | rfl
  · exact dVis_1 x0 X os M qs b p i d e off L Q
  · exact dVis_2 x0 X os M qs b p i d e off L Q
  · exact dVis_4 x0 X os M qs b p i d e off L Q
  · exact dVis_8 x0 X os M qs b p i d e off L Q
theorem dOut_at {m : Nat} (hm : m = 1 ∨ m = 2 ∨ m = 4 ∨ m = 8) (x0 : Nat → Int) (X : Nat → Nat × Nat) (os : List Int) (M : Nat → Bool) (qs : List Int) (b : Bool) (p : Nat) (kk : Option (Nat × Nat)) :
    dropsT 1 [aAt b] (ugTl m (m * m) (qv kk (qId b)) []) (uB4 m (m * m) x0 X os M ++ qMem b (qB qs) (atB m p)) = (true, ugTl m (m * m) (qv kk 4) [], uB4 m (m * m) x0 X os M ++ [qB qs]) := by
  rcases hm with rfl | rfl | rfl | rfl <;> cases kk
  · exact dOut_1 x0 X os M qs b p 0 0 false
  · exact dOut_1 x0 X os M qs b p _ _ true
  · exact dOut_2 x0 X os M qs b p 0 0 false
  · exact dOut_2 x0 X os M qs b p _ _ true
  · exact dOut_4 x0 X os M qs b p 0 0 false
  · exact dOut_4 x0 X os M qs b p _ _ true
  · exact dOut_8 x0 X os M qs b p 0 0 false
  · exact dOut_8 x0 X os M qs b p _ _ true
theorem Res.at_nil (r : Res) : r.at [] = r := by cases r <;> rfl
theorem heq_last {A B : AB} (h : A.rw = B.rw ∧ A.live = B.live ∧ ∀ σ z o, BlkRel σ z A o → BlkRel σ z B o) (G : List AB) (e : AB) : HEq (G ++ [e, A]) (G ++ [e, B]) := by
  have := heq_mid h [] (G ++ [e])
  rw [List.append_assoc, List.append_assoc] at this
  exact this
/-! ### States -/
def flat (m : Nat) (l : List Nat) : List Int := l.flatMap fun p => [((p / m : Nat) : Int), ((p % m : Nat) : Int)]
theorem flat_snoc (m : Nat) (l : List Nat) (p : Nat) : flat m (l ++ [p]) = flat m l ++ [((p / m : Nat) : Int), ((p % m : Nat) : Int)] := by simp [flat]
def QOK (m : Nat) (st : Fl) (k : Nat) (kk : Option (Nat × Nat)) (qs : List Int) : Prop := k ≤ st.qs.length ∧ match kk with
  | some (off, L) => off + L * 2 = qs.length ∧ k + L = st.qs.length ∧ qs.drop off = flat m (st.qs.drop k)
  | none => st.qs.length = k
def SI (m : Nat) (x0 : Nat → Int) (X : Nat → Nat × Nat) (p i : Nat) (st : Fl) (k : Nat) (t : List AV) (H : List AB) : Prop := ∃ b kk qs, QOK m st k kk qs ∧ (kk = none → b = false) ∧
  t = uiTl b m (m * m) p i (qv kk (qId b)) [] ∧ H = uB4 m (m * m) x0 X st.os st.M ++ qMem b (qB qs) (atB m p)
def SO (m : Nat) (x0 : Nat → Int) (X : Nat → Nat × Nat) (st : Fl) (k : Nat) (t : List AV) (H : List AB) : Prop := ∃ kk qs, QOK m st k kk qs ∧ t = ugTl m (m * m) (qv kk 4) [] ∧ H = uB4 m (m * m) x0 X st.os st.M ++ [qB qs]
theorem blk_litQ (v u : Int) (qs : List Int) : (litQ v u qs).rw = (qB (qs ++ [v, u])).rw ∧ (litQ v u qs).live = (qB (qs ++ [v, u])).live ∧ ∀ σ z o, BlkRel σ z (litQ v u qs) o → BlkRel σ z (qB (qs ++ [v, u])) o := by
  refine ⟨rfl, rfl, fun σ z o h => ?_⟩
  have h : BlkRel σ z (.cells true (.lit (qs.map (AV.i false .i64) ++ [AV.i true .i64 v, AV.i true .i64 u]))) o := h
  have h1 := (blk_bare (rw := true) (A := qs.map (AV.i false .i64) ++ [AV.i true .i64 v, AV.i true .i64 u]) (B := (qs ++ [v, u]).map (AV.i false .i64)) (by simp [AV.bare])).2.2 σ z o h
  exact blk_toL (A := .lit ((qs ++ [v, u]).map (AV.i false .i64))) (B := .ints .i64 (qs ++ [v, u])) rfl h1
theorem blk_met (N : Nat) (M : Nat → Bool) (to : Nat) : (AB.cells true (.lit ((List.range N).map (visM M to)))).rw = (metB N (metF M to)).rw ∧ (AB.cells true (.lit ((List.range N).map (visM M to)))).live = (metB N (metF M to)).live ∧
    ∀ σ z o, BlkRel σ z (AB.cells true (.lit ((List.range N).map (visM M to)))) o → BlkRel σ z (metB N (metF M to)) o := by
  refine blk_bare ?_
  rw [List.map_map, List.map_map]
  rfl
section
variable {m : Nat} (hm : m = 1 ∨ m = 2 ∨ m = 4 ∨ m = 8) (x0 : Nat → Int) (X : Nat → Nat × Nat)
include hm
/-- One direction. -/
theorem ui_step {t0 : List AV} {H0 : List AB} {todo0 : List Item} (h0 : H0.length = 1) {L : List Item} (hL : toLp L = uiR) {p i k : Nat} (hp : p < m * m) (hi : i < 4) {st : Fl} (hst : FlOK m st)
    (h : ReachS Try.prog todo0 t0 H0 L (SI m x0 X p i st k)) : ReachS Try.prog todo0 t0 H0 uiR (SI m x0 X p (i + 1) (fl1 m x0 X p st i) k) := by
  have hU : ∀ (s : AV) (Q : AB) (b : Bool), cupto Try.prog tabUf (fun L => atLoop L || atReg 24 L) 200 L (uiTl b m (m * m) p i s []) (uB4 m (m * m) x0 X st.os st.M ++ qMem b Q (atB m p)) = uiU m x0 X st.os st.M s Q b p i := fun s Q b => by
    unfold uiU
    rw [← hL, cupto_toLp]
  -- a state that stays
  have stay : ∀ {b : Bool} {kk : Option (Nat × Nat)} {qs : List Int} {ps : List Bool}, QOK m st k kk qs → (kk = none → b = false) → allT (condsP (uiU m x0 X st.os st.M (qv kk (qId b)) (qB qs) b p i) ps) = true →
      lfM uiM ((uiU m x0 X st.os st.M (qv kk (qId b)) (qB qs) b p i).at ps) = uiStay x0 X st.os st.M (qv kk (qId b)) (qB qs) b m p i →
      ReachS Try.prog L (uiTl b m (m * m) p i (qv kk (qId b)) []) (uB4 m (m * m) x0 X st.os st.M ++ qMem b (qB qs) (atB m p)) uiR fun t H => ∃ b kk qs, QOK m st k kk qs ∧ (kk = none → b = false) ∧
        t = uiTl b m (m * m) p (i + 1) (qv kk (qId b)) [] ∧ H = uB4 m (m * m) x0 X st.os st.M ++ qMem b (qB qs) (atB m p) ++ [dirB i] := fun {b kk qs ps} hq hb hc hl => by
    have hr := cway_reach (P := Try.prog) (T := tabUf) (stop := fun L => atLoop L || atReg 24 L) (n := 200) (L := L) (p := ps) (M := uiM) tabUf_sound (by rw [hU]; exact hc) (by rw [hU]; exact hl) rfl
    exact hr.toS ⟨b, kk, qs, hq, hb, rfl, rfl⟩
  have fin : ∀ {S : List AV → List AB → Prop}, ReachS Try.prog todo0 t0 H0 uiR S → (∀ t H, S t H → ∃ b kk qs, QOK m st k kk qs ∧ (kk = none → b = false) ∧
        t = uiTl b m (m * m) p (i + 1) (qv kk (qId b)) [] ∧ H = uB4 m (m * m) x0 X st.os st.M ++ qMem b (qB qs) (atB m p) ++ [dirB i]) → ReachS Try.prog todo0 t0 H0 uiR (SI m x0 X p (i + 1) st k) := fun h hS => by
    refine h.drops fun t H hs => ?_
    obtain ⟨b, kk, qs, hq, hb, rfl, rfl⟩ := hS t H hs
    rw [h0]
    exact ⟨[6], _, _, dStay_at hm x0 X st.os st.M qs b p (i + 1) (dirB i) kk, b, kk, qs, hq, hb, rfl, rfl⟩
  have hget : ∀ (s : AV) (Q : AB) (b : Bool), uiG x0 X st.os st.M s Q b m p i = uiW x0 X st.os st.M s Q b m p i := fun s Q b => ui_at hm x0 X st.os st.M s Q b hp hi
  cases ht : tgt m p i with
  | none =>
    have e : fl1 m x0 X p st i = st := by unfold fl1; rw [ht]
    rw [e]
    refine fin (h.bind fun t H hs => ?_) fun t H hs => hs
    obtain ⟨b, kk, qs, hq, hb, rfl, rfl⟩ := hs
    have hg := hget (qv kk (qId b)) (qB qs) b
    simp only [uiG, uiW, ht, List.cons.injEq, Prod.mk.injEq, and_true] at hg
    exact stay (ps := []) hq hb (by rw [hg.1]; rfl) hg.2
  | some to =>
    have hto := tgt_lt hm hp ht
    cases hM : st.M to with
    | true =>
      have e : fl1 m x0 X p st i = st := by unfold fl1; rw [ht]; simp only [hM, Bool.true_or]
      rw [e]
      refine fin (h.bind fun t H hs => ?_) fun t H hs => hs
      obtain ⟨b, kk, qs, hq, hb, rfl, rfl⟩ := hs
      have hg := hget (qv kk (qId b)) (qB qs) b
      simp only [uiG, uiW, ht, List.cons.injEq, Prod.mk.injEq, and_true] at hg
      exact stay (ps := [true]) hq hb (by rw [hg.2.2.1, hM]; rfl) hg.2.2.2
    | false =>
      cases hX : xzB X to with
      | true =>
        have e : fl1 m x0 X p st i = st := by unfold fl1; rw [ht]; simp only [hM, hX, Bool.or_true]
        rw [e]
        refine fin (h.bind fun t H hs => ?_) fun t H hs => hs
        obtain ⟨b, kk, qs, hq, hb, rfl, rfl⟩ := hs
        have hg := hget (qv kk (qId b)) (qB qs) b
        simp only [uiG, uiW, ht, List.cons.injEq, Prod.mk.injEq, and_true] at hg
        exact stay (ps := [false, true]) hq hb (by rw [hg.2.1.1, hM, hX]; rfl) hg.2.1.2
      | false =>
        have e : fl1 m x0 X p st i = ⟨st.os.set to (visV x0 st.os p to), metF st.M to, st.qs ++ [to]⟩ := by unfold fl1; rw [ht]; simp only [hM, hX, Bool.or_false]
        rw [e]
        -- behind the visit, with the blocks that are out of use
        have hv : ReachS Try.prog todo0 t0 H0 uiR fun t H => ∃ b off L qs d e Q, QOK m ⟨st.os.set to (visV x0 st.os p to), metF st.M to, st.qs ++ [to]⟩ k (some (off, L)) qs ∧
            t = uiTl b m (m * m) p (i + 1) (.sl false 8 off L 2) [] ∧ H = uB4 m (m * m) x0 X (st.os.set to (visV x0 st.os p to)) (metF st.M to) ++ (qMem b Q (atB m p) ++ [d]) ++ [e, qB qs] := by
          refine h.bind fun t H hs => ?_
          obtain ⟨b, kk, qs, hq, hb, rfl, rfl⟩ := hs
          have hg := hget (qv kk (qId b)) (qB qs) b
          simp only [uiG, uiW, ht, List.cons.injEq, Prod.mk.injEq, and_true] at hg
          have hlen := hst.len
          have hr := cway_reach (P := Try.prog) (T := tabUf) (stop := fun L => atLoop L || atReg 24 L) (n := 200) (L := L) (p := [false, false]) (M := v24M) tabUf_sound (by rw [hU, hg.1.1, hM, hX]; rfl) (by rw [hU]; exact hg.1.2) (by
            simp [visR, allT, Cells.len, hlen]
            omega)
          have hr2 : Reach Try.prog L (uiTl b m (m * m) p i (qv kk (qId b)) []) (uB4 m (m * m) x0 X st.os st.M ++ qMem b (qB qs) (atB m p)) u24L (v24T b m (m * m) p i (qv kk (qId b)) ((to / m : Nat) : Int) ((to % m : Nat) : Int))
              (uB4 m (m * m) x0 X (st.os.set to (visV x0 st.os p to)) (metF st.M to) ++ (qMem b (qB qs) (atB m p) ++ [dirB i])) := by
            refine hr.post ?_
            have := heq_mid (blk_met (m * m) st.M to) (qMem b (qB qs) (atB m p) ++ [dirB i]) (sfH m (m * m) x0 X ++ [.cells true (.ints .i64 (st.os.set to (visV x0 st.os p to)))])
            exact this
          obtain ⟨hk, hq⟩ := hq
          have htail : ∀ (s : AV) (G : List AB), Reach Try.prog (tlOf u24L) (uiTl b m (m * m) p i s []) G uiR (uiTl b m (m * m) p (i + 1) s []) G := fun s G => by
            have h24 := mapEq_at (t24_ok b m (m * m) p s G) (List.mem_range.2 hi)
            simp only [Prod.mk.injEq] at h24
            exact cway_reach (P := Try.prog) (T := tabUf) (stop := atLoop) (n := 200) (L := tlOf u24L) (p := []) (M := uiM) tabUf_sound (by
              show allT (condsP (t24 b m (m * m) p i s G) []) = true
              rw [h24.1]; rfl) (by
              rw [Res.at_nil]
              exact h24.2) rfl
          have hmost := hst.most
          have hN : m * m ≤ 64 := by rcases hm with rfl | rfl | rfl | rfl <;> decide
          cases kk with
          | some z =>
            obtain ⟨off, L'⟩ := z
            obtain ⟨h1, h2, h3⟩ := hq
            have hr24 := reg24 (A := .cells false (.ints .i64 (zXL (m * m) x0))) (B := maskB m X) (C := .cells true (.ints .i64 (st.os.set to (visV x0 st.os p to)))) (D := metB (m * m) (metF st.M to)) (a := atB m p) (d := dirB i) (qs := qs) (off := off) (L := L') (b := b) (n := m) (N := m * m) (p := p) (i := i) (v := ((to / m : Nat) : Int)) (u := ((to % m : Nat) : Int)) (by omega) (by omega)
            refine Reach.bindS hr2 (hr24.bind fun t H hS => ?_)
            obtain ⟨off', qs', hcase, rfl, rfl⟩ := hS
            have hp2 : ReachS Try.prog (tlOf u24L) (uiTl b m (m * m) p i (.sl false 8 off' (L' + 1) 2) []) (q24H (.cells false (.ints .i64 (zXL (m * m) x0))) (maskB m X) (.cells true (.ints .i64 (st.os.set to (visV x0 st.os p to)))) (metB (m * m) (metF st.M to)) (atB m p) (dirB i) b .dead ++ [litVU ((to / m : Nat) : Int) ((to % m : Nat) : Int), litQ ((to / m : Nat) : Int) ((to % m : Nat) : Int) qs']) uiR
                fun t H => t = uiTl b m (m * m) p (i + 1) (.sl false 8 off' (L' + 1) 2) [] ∧ H = uB4 m (m * m) x0 X (st.os.set to (visV x0 st.os p to)) (metF st.M to) ++ (qMem b .dead (atB m p) ++ [dirB i]) ++ [litVU ((to / m : Nat) : Int) ((to % m : Nat) : Int), qB (qs' ++ [((to / m : Nat) : Int), ((to % m : Nat) : Int)])] := by
              refine Reach.toS ((htail _ _).post ?_) ⟨rfl, rfl⟩
              exact heq_last (blk_litQ ((to / m : Nat) : Int) ((to % m : Nat) : Int) qs') (uB4 m (m * m) x0 X (st.os.set to (visV x0 st.os p to)) (metF st.M to) ++ (qMem b .dead (atB m p) ++ [dirB i])) (litVU ((to / m : Nat) : Int) ((to % m : Nat) : Int))
            refine hp2.mono fun t H hh => ?_
            obtain ⟨rfl, rfl⟩ := hh
            refine ⟨b, off', L' + 1, _, _, _, _, ⟨by simp; omega, ?_⟩, rfl, rfl⟩
            have hdr : (st.qs ++ [to]).drop k = st.qs.drop k ++ [to] := List.drop_append_of_le_length (by omega)
            show off' + (L' + 1) * 2 = (qs' ++ _).length ∧ k + (L' + 1) = (st.qs ++ [to]).length ∧ (qs' ++ _).drop off' = flat m ((st.qs ++ [to]).drop k)
            rw [hdr, flat_snoc, ← h3]
            rcases hcase with ⟨rfl, rfl⟩ | ⟨rfl, rfl⟩
            · refine ⟨by simp; omega, by simp; omega, ?_⟩
              rw [List.drop_append_of_le_length (by omega)]
            · refine ⟨by simp; omega, by simp; omega, ?_⟩
              rw [List.drop_zero]
          | none =>
            have hb := hb rfl
            subst hb
            have h24 := mapEq_at (e24_ok (.cells false (.ints .i64 (zXL (m * m) x0))) (maskB m X) (.cells true (.ints .i64 (st.os.set to (visV x0 st.os p to)))) (metB (m * m) (metF st.M to)) (qB qs) (atB m p) (dirB i) m (m * m) p ((to / m : Nat) : Int) ((to % m : Nat) : Int)) (List.mem_range.2 hi)
            simp only [Prod.mk.injEq] at h24
            have he := cway_reach (P := Try.prog) (T := tabUf) (stop := atLoop) (n := 200) (L := u24L) (p := []) (M := uiM) (t0 := v24T false m (m * m) p i .sle ((to / m : Nat) : Int) ((to % m : Nat) : Int)) (H0 := q24H (.cells false (.ints .i64 (zXL (m * m) x0))) (maskB m X) (.cells true (.ints .i64 (st.os.set to (visV x0 st.os p to)))) (metB (m * m) (metF st.M to)) (atB m p) (dirB i) false (qB qs)) tabUf_sound (by
              show allT (condsP (e24 _ _ _ _ _ _ _ m (m * m) p i _ _) []) = true
              rw [h24.1]; rfl) (by
              rw [Res.at_nil]
              exact h24.2) rfl
            have he2 : Reach Try.prog u24L (v24T false m (m * m) p i .sle ((to / m : Nat) : Int) ((to % m : Nat) : Int)) (uB4 m (m * m) x0 X (st.os.set to (visV x0 st.os p to)) (metF st.M to) ++ (qMem false (qB qs) (atB m p) ++ [dirB i])) uiR (uiTl false m (m * m) p (i + 1) (.sl false 8 0 1 2) [])
                (uB4 m (m * m) x0 X (st.os.set to (visV x0 st.os p to)) (metF st.M to) ++ (qMem false (qB qs) (atB m p) ++ [dirB i]) ++ [litVU ((to / m : Nat) : Int) ((to % m : Nat) : Int), qB ([] ++ [((to / m : Nat) : Int), ((to % m : Nat) : Int)])]) := by
              refine (he.weak (eqv_of_bare ?_)).post ?_
              · rfl
              · exact heq_last (blk_litQ ((to / m : Nat) : Int) ((to % m : Nat) : Int) []) (uB4 m (m * m) x0 X (st.os.set to (visV x0 st.os p to)) (metF st.M to) ++ (qMem false (qB qs) (atB m p) ++ [dirB i])) (litVU ((to / m : Nat) : Int) ((to % m : Nat) : Int))
            refine Reach.bindS hr2 (he2.toS ⟨false, 0, 1, _, _, _, _, ⟨by simp; omega, ?_⟩, rfl, rfl⟩)
            have hq : st.qs.length = k := hq
            have hdr : (st.qs ++ [to]).drop k = [to] := by rw [← hq]; simp
            show 0 + 1 * 2 = ([] ++ _ : List Int).length ∧ k + 1 = (st.qs ++ [to]).length ∧ ([] ++ _ : List Int).drop 0 = flat m ((st.qs ++ [to]).drop k)
            rw [hdr]
            exact ⟨rfl, by simp; omega, by simp [flat]⟩
        refine hv.drops fun t H hs => ?_
        obtain ⟨b, off, L', qs, d, e, Q, hq, rfl, rfl⟩ := hs
        rw [h0]
        exact ⟨_, _, _, dVis_at hm x0 X _ _ qs b p (i + 1) d e off L' Q, true, some (off, L'), qs, hq, (by intro h; cases h), rfl, rfl⟩
end
end Go.Ax

/- impl.UnwrapFlood: its loops and its end. -/
namespace Go.Ax
open Go Go.Proofs

theorem getD_drop (qs : List Int) (off j : Nat) : qs.getD (off + j) 0 = (qs.drop off).getD j 0 := by simp [List.getD_eq_getElem?_getD]
theorem drop_some {l : List Nat} {k p : Nat} (h : l[k]? = some p) : l.drop k = p :: l.drop (k + 1) := by
  have hk : k < l.length := by
    rcases Nat.lt_or_ge k l.length with h' | h'
    · exact h'
    · rw [List.getElem?_eq_none h'] at h; cases h
  rw [List.drop_eq_getElem_cons hk]
  rw [List.getElem?_eq_getElem hk] at h
  cases h; rfl
theorem qAB_at {m : Nat} {qs : List Int} {off p : Nat} {r : List Nat} (h : qs.drop off = flat m (p :: r)) : (qAB qs off).rw = (atB m p).rw ∧ (qAB qs off).live = (atB m p).live ∧ ∀ σ z o, BlkRel σ z (qAB qs off) o → BlkRel σ z (atB m p) o := by
  refine blk_bare ?_
  have e1 : qs.getD (off + 0 * 2 + 0) 0 = ((p / m : Nat) : Int) := by
    rw [show off + 0 * 2 + 0 = off + 0 by omega, getD_drop, h]; rfl
  have e2 : qs.getD (off + 0 * 2 + 1) 0 = ((p % m : Nat) : Int) := by
    rw [show off + 0 * 2 + 1 = off + 1 by omega, getD_drop, h]; rfl
  rw [e1, e2]
  rfl
theorem u4_at {m : Nat} (hm : m = 1 ∨ m = 2 ∨ m = 4 ∨ m = 8) (A B C D Q : AB) (N : Nat) (s : AV) {p : Nat} (hp : p < m * m) : (condsP (u4V A B C D Q N m p s) [], lfM uiM (u4V A B C D Q N m p s)) = ([], true, uiL ++ [], (uiTl false m N p 0 s []).map AV.bare, [A, B, C, D, Q, atB m p], []) := by
  rcases hm with rfl | rfl | rfl | rfl
  · exact mapEq_at (u4_1 A B C D Q N s) (List.mem_range.2 hp)
  · exact mapEq_at (u4_2 A B C D Q N s) (List.mem_range.2 hp)
  · exact mapEq_at (u4_4 A B C D Q N s) (List.mem_range.2 hp)
  · exact mapEq_at (u4_8 A B C D Q N s) (List.mem_range.2 hp)
section
variable {m : Nat} (hm : m = 1 ∨ m = 2 ∨ m = 4 ∨ m = 8) (x0 : Nat → Int) (X : Nat → Nat × Nat)
include hm
theorem ui_out {t0 : List AV} {H0 : List AB} {todo0 : List Item} (h0 : H0.length = 1) {p k : Nat} {st : Fl}
    (h : ReachS Try.prog todo0 t0 H0 uiR (SI m x0 X p 4 st k)) : ReachS Try.prog todo0 t0 H0 ugR (SO m x0 X st k) := by
  have h1 : ReachS Try.prog todo0 t0 H0 ugR fun t H => ∃ b kk qs, QOK m st k kk qs ∧ t = ugTl m (m * m) (qv kk (qId b)) [] ∧ H = uB4 m (m * m) x0 X st.os st.M ++ qMem b (qB qs) (atB m p) := by
    refine h.bind fun t H hs => ?_
    obtain ⟨b, kk, qs, hq, _, rfl, rfl⟩ := hs
    have hx := x4_ok m (m * m) b p (qv kk (qId b)) (uB4 m (m * m) x0 X st.os st.M ++ qMem b (qB qs) (atB m p))
    simp only [Prod.mk.injEq] at hx
    have hr := cway_reach (P := Try.prog) (T := tabUf) (stop := atLoop) (n := 200) (L := uiR) (p := []) (M := ugM) (t0 := uiTl b m (m * m) p 4 (qv kk (qId b)) []) (H0 := uB4 m (m * m) x0 X st.os st.M ++ qMem b (qB qs) (atB m p)) tabUf_sound (by
      show allT (condsP (x4 m (m * m) b p (qv kk (qId b)) _) []) = true
      rw [hx.1]; rfl) (by
      rw [Res.at_nil]
      exact hx.2) rfl
    exact hr.toS ⟨b, kk, qs, hq, rfl, rfl⟩
  refine h1.drops fun t H hs => ?_
  obtain ⟨b, kk, qs, hq, rfl, rfl⟩ := hs
  rw [h0]
  exact ⟨_, _, _, dOut_at hm x0 X st.os st.M qs b p kk, kk, qs, hq, rfl, rfl⟩
theorem ui_in {t0 : List AV} {H0 : List AB} {todo0 : List Item} {L : List Item} (hL : toLp L = ugR) {p k : Nat} {st : Fl} (hst : FlOK m st) (hk : st.qs[k]? = some p)
    (h : ReachS Try.prog todo0 t0 H0 L (SO m x0 X st k)) : ReachS Try.prog todo0 t0 H0 (uiL ++ []) (SI m x0 X p 0 st (k + 1)) := by
  have hp := hst.low p (List.mem_of_getElem? hk)
  have hkl : k < st.qs.length := by
    rcases Nat.lt_or_ge k st.qs.length with h' | h'
    · exact h'
    · rw [List.getElem?_eq_none h'] at hk; cases hk
  refine h.bind fun t H hs => ?_
  obtain ⟨kk, qs, ⟨_, hq⟩, rfl, rfl⟩ := hs
  cases kk with
  | none =>
    have hq : st.qs.length = k := hq
    omega
  | some z =>
    obtain ⟨off, Q⟩ := z
    obtain ⟨h1, h2, h3⟩ := hq
    have hd := drop_some hk
    rw [hd] at h3
    have hg := ugV_go (.cells false (.ints .i64 (zXL (m * m) x0))) (maskB m X) (.cells true (.ints .i64 st.os)) (metB (m * m) st.M) qs off Q m (m * m)
    simp only [Prod.mk.injEq] at hg
    have hU : cupto Try.prog tabUf (fun L => atLoop L || atReg 13 L) 200 L (ugTl m (m * m) (.sl false 4 off Q 2) []) (uB4 m (m * m) x0 X st.os st.M ++ [qB qs]) = ugV (.cells false (.ints .i64 (zXL (m * m) x0))) (maskB m X) (.cells true (.ints .i64 st.os)) (metB (m * m) st.M) qs off Q m (m * m) := by
      unfold ugV
      rw [← hL, cupto_toLp]
      rfl
    have hr := cway_reach (P := Try.prog) (T := tabUf) (stop := fun L => atLoop L || atReg 13 L) (n := 200) (L := L) (p := [true]) (M := w13N) tabUf_sound (by
      rw [hU, hg.1]
      show (ltQ false 0 (Q : Int) && true) = true
      rw [Bool.and_true]
      exact ltQ_true (i := 0) (n := Q) (show 0 < Q by omega)) (by rw [hU]; exact hg.2) (by
      simp [allT, Cells.len]
      omega)
    have hr2 : Reach Try.prog L (ugTl m (m * m) (.sl false 4 off Q 2) []) (uB4 m (m * m) x0 X st.os st.M ++ [qB qs]) u3L (w13T m (m * m) (.sl false 4 off Q 2) []) (q13H (.cells false (.ints .i64 (zXL (m * m) x0))) (maskB m X) (.cells true (.ints .i64 st.os)) (metB (m * m) st.M) (atB m p) qs) := by
      refine hr.post ?_
      exact heq_last (qAB_at h3) (uB4 m (m * m) x0 X st.os st.M) (qB qs)
    refine Reach.bindS hr2 ((reg13 (by omega)).bind fun t H hs => ?_)
    obtain ⟨s, hs, rfl, rfl⟩ := hs
    have hu := u4_at hm (.cells false (.ints .i64 (zXL (m * m) x0))) (maskB m X) (.cells true (.ints .i64 st.os)) (metB (m * m) st.M) (qB qs) (m * m) s hp
    simp only [Prod.mk.injEq] at hu
    have hr3 := cway_reach (P := Try.prog) (T := tabUf) (stop := atLoop) (n := 200) (L := tlOf u3L) (p := []) (M := uiM) (t0 := w13T m (m * m) s []) (H0 := q13H (.cells false (.ints .i64 (zXL (m * m) x0))) (maskB m X) (.cells true (.ints .i64 st.os)) (metB (m * m) st.M) (atB m p) qs) tabUf_sound (by
      show allT (condsP (u4V _ _ _ _ (qB qs) (m * m) m p s) []) = true
      rw [hu.1]; rfl) (by
      rw [Res.at_nil]
      exact hu.2) rfl
    rcases hs with rfl | ⟨hQ1, rfl⟩
    · refine hr3.toS ⟨false, some (off + 2, Q - 1), qs, ⟨by omega, ?_⟩, (fun h => by cases h), rfl, rfl⟩
      refine ⟨by omega, by omega, ?_⟩
      rw [← List.drop_drop, h3]
      rfl
    · exact hr3.toS ⟨false, none, qs, ⟨by omega, by show st.qs.length = k + 1; omega⟩, fun _ => rfl, rfl, rfl⟩
omit hm in
theorem uiL_lp : toLp (uiL ++ []) = uiR := by rw [List.append_nil]; rfl
theorem ui_round {t0 : List AV} {H0 : List AB} {todo0 : List Item} (h0 : H0.length = 1) {L : List Item} (hL : toLp L = ugR) {p k : Nat} (hx : ∀ i, i < m * m → 0 ≤ x0 i ∧ x0 i ≤ 63) {st : Fl} (hst : FlOK m st) (hk : st.qs[k]? = some p)
    (h : ReachS Try.prog todo0 t0 H0 L (SO m x0 X st k)) : ReachS Try.prog todo0 t0 H0 ugR (SO m x0 X (fl4 m x0 X p st) (k + 1)) := by
  have hp := hst.low p (List.mem_of_getElem? hk)
  have r0 := ui_in hm x0 X hL hst hk h
  have r1 := ui_step hm x0 X h0 uiL_lp hp (by decide : 0 < 4) hst r0
  have s1 := fl1_ok (X := X) hm hx hp hst 0
  have r2 := ui_step hm x0 X h0 uiR_eq hp (by decide : 1 < 4) s1 r1
  have s2 := fl1_ok (X := X) hm hx hp s1 1
  have r3 := ui_step hm x0 X h0 uiR_eq hp (by decide : 2 < 4) s2 r2
  have s3 := fl1_ok (X := X) hm hx hp s2 2
  have r4 := ui_step hm x0 X h0 uiR_eq hp (by decide : 3 < 4) s3 r3
  exact ui_out hm x0 X h0 r4
theorem ui_go {t0 : List AV} {H0 : List AB} {todo0 : List Item} (h0 : H0.length = 1) (hx : ∀ i, i < m * m → 0 ≤ x0 i ∧ x0 i ≤ 63) : ∀ (f k : Nat) {L : List Item} {st : Fl}, toLp L = ugR → k + f = m * m + 1 → k ≤ st.qs.length → FlOK m st →
    ReachS Try.prog todo0 t0 H0 L (SO m x0 X st k) → ∃ L', toLp L' = ugR ∧ ReachS Try.prog todo0 t0 H0 L' (SO m x0 X (flGo m x0 X f k st) (flGo m x0 X f k st).qs.length)
  | 0, k, L, st, _, hf, hk, hst, _ => by
    have := hst.most
    omega
  | f + 1, k, L, st, hL, hf, hk, hst, h => by
    unfold flGo
    cases hg : st.qs[k]? with
    | some p =>
      have hp := hst.low p (List.mem_of_getElem? hg)
      have hkl : k < st.qs.length := by
        rcases Nat.lt_or_ge k st.qs.length with h' | h'
        · exact h'
        · rw [List.getElem?_eq_none h'] at hg; cases hg
      have hmono : st.qs.length ≤ (fl4 m x0 X p st).qs.length := by
        have : ∀ (s : Fl) (i : Nat), s.qs.length ≤ (fl1 m x0 X p s i).qs.length := fun s i => by
          unfold fl1
          split
          · exact Nat.le_refl _
          · split
            · exact Nat.le_refl _
            · simp
        exact Nat.le_trans (this _ 0) (Nat.le_trans (this _ 1) (Nat.le_trans (this _ 2) (this _ 3)))
      exact ui_go h0 hx f (k + 1) ugR_eq (by omega) (by omega) (fl4_ok hm hx hp hst) (ui_round hm x0 X h0 hL hx hst hg h)
    | none =>
      have hkl : st.qs.length = k := by
        rcases Nat.lt_or_ge k st.qs.length with h' | h'
        · rw [List.getElem?_eq_getElem h'] at hg; cases hg
        · omega
      refine ⟨L, hL, ?_⟩
      show ReachS Try.prog todo0 t0 H0 L (SO m x0 X st st.qs.length)
      rw [hkl]; exact h
/-- The end of the flood. -/
theorem ui_end {t0 : List AV} {H0 : List AB} {todo0 : List Item} {L : List Item} (hL : toLp L = ugR) {st : Fl} (hst : FlOK m st)
    (h : ReachS Try.prog todo0 t0 H0 L (SO m x0 X st st.qs.length)) : EndsS Try.prog todo0 t0 H0 fun t H => resV Try.prog t H Try.f85.results.toList = some ([.sl true 2 0 (m * m) 1, .i true .i64 0], []) ∧ ∃ qs, H = uB4 m (m * m) x0 X st.os st.M ++ [qB qs] := by
  have hN : m * m ≤ 64 := by rcases hm with rfl | rfl | rfl | rfl <;> decide
  have hall : allI (-100000) 100000 st.os = true := by
    rw [allI_iff]
    intro i _
    have := hst.bd i
    have := hst.most
    omega
  have hlen := hst.len
  have hq : allT [true, decide (m * m = st.os.length), decide (m * m ≤ 5000)] = true := by
    simp [allT, hlen]; omega
  refine h.endsS fun t H hs => ?_
  obtain ⟨kk, qs, ⟨_, hk⟩, rfl, rfl⟩ := hs
  have hU : ∀ s, cupto Try.prog tabUf atLoop 200 L (ugTl m (m * m) s []) (uB4 m (m * m) x0 X st.os st.M ++ [qB qs]) = ugE (.cells false (.ints .i64 (zXL (m * m) x0))) (maskB m X) (metB (m * m) st.M) (qB qs) st.os m (m * m) s := fun s => by
    unfold ugE
    rw [← hL, cupto_toLp]
    rfl
  cases kk with
  | some z =>
    obtain ⟨off, Q⟩ := z
    obtain ⟨h1, h2, h3⟩ := hk
    have hQ : Q = 0 := by omega
    subst hQ
    have he := ugE_sl (.cells false (.ints .i64 (zXL (m * m) x0))) (maskB m X) (metB (m * m) st.M) (qB qs) st.os off 0 m (m * m)
    simp only [Prod.mk.injEq] at he
    obtain ⟨t, g1, g2⟩ := endOf_ends (T := tabUf) (stop := atLoop) (n := 200) (todo := L) (t0 := ugTl m (m * m) (.sl false 4 off 0 2) []) (H0 := uB4 m (m * m) x0 X st.os st.M ++ [qB qs]) tabUf_sound he.2 (by
      rw [hU]
      exact sel_of_conds _ [false, false] (by rw [he.1, first_all, hall]; rfl)) hq
    exact ⟨t, _, g1, g2, qs, rfl⟩
  | none =>
    have he := ugE_sle (.cells false (.ints .i64 (zXL (m * m) x0))) (maskB m X) (metB (m * m) st.M) (qB qs) st.os m (m * m)
    simp only [Prod.mk.injEq] at he
    obtain ⟨t, g1, g2⟩ := endOf_ends (T := tabUf) (stop := atLoop) (n := 200) (todo := L) (t0 := ugTl m (m * m) .sle []) (H0 := uB4 m (m * m) x0 X st.os st.M ++ [qB qs]) tabUf_sound he.2 (by
      rw [hU]
      exact sel_of_conds _ [false] (by rw [he.1, first_all, hall]; rfl)) hq
    exact ⟨t, _, g1, g2, qs, rfl⟩
end
end Go.Ax
