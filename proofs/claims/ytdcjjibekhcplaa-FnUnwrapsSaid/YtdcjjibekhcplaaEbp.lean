/- spec.SlopesOf: one round. -/
import Derived.Test.YtdcjjibekhcplaaEak
import Derived.Test.YtdcjjibekhcplaaEal
import Derived.Test.YtdcjjibekhcplaaEao
import Derived.Test.YtdcjjibekhcplaaEbn
import Derived.Test.YtdcjjibekhcplaaEbo
namespace Go.Ax
open Go Go.Proofs

noncomputable def rowsSp : List (FuncId × Table) := [(178, isMapT), (184, isMapT), (183, cmRow), (185, moRow)]
theorem rowsSp_at : allAt Try.prog rowsSp := ⟨isMap_at, isMap2_at, cm_at, mo_at, trivial⟩
noncomputable def tabSp : Table := tabOf (cdeep Try.prog rowsSp [92, 93] 4000 6)
theorem tabSp_sound : SoundT Try.prog tabSp := cdeep_sound (allAt_mem rowsSp_at) 6
noncomputable def zqC : Code := Try.f93.body.getD .skip
noncomputable def zq0 (n : Int) (xs : List Int) : Res := cupto Try.prog tabSp atLoop 100 [.code zqC] (.i false .i64 n :: .sl false 0 0 xs.length 1 :: undefs 64) (lb xs)
noncomputable def zqL : List Item := ((zq0 0 []).at [false]).todo ++ []
noncomputable def zqR : List Item := toLp zqL
theorem zqR_eq : toLp zqR = zqR := by kernel_rfl
/-- Where the rows lie, and the columns. -/
def srId (b : Bool) : Nat := cond b 2 1
def scId (b : Bool) : Nat := cond b 1 2
def zqTs (n : Int) (m : Nat) (r c : AV) (k : Int) : List AV := tmpsOf 66 [(0, .i false .i64 n), (1, .sl false 0 0 m 1), (6, r), (7, c), (8, .i false .i64 k)]
def zqT (b : Bool) (n : Int) (m : Nat) (rs cs : List Int) (k : Int) : List AV := zqTs n m (.sl false (srId b) 0 rs.length 1) (.sl false (scId b) 0 cs.length 1) k
def zqH (b : Bool) (xs rs cs : List Int) : List AB := .cells false (.ints .i64 xs) :: cond b [qB cs, qB rs] [qB rs, qB cs]
def zqM : List Bool := maskOf 66 [(0, .any), (1, .any), (6, .any), (7, .any), (8, .any)]
def zqStop (L : List Item) : Bool := atLoop L || (atReg 8 L || atReg 10 L)
section
variable (b : Bool) (n : Int) (xs rs cs : List Int) (k : Nat)
noncomputable def zqU : Res := cupto Try.prog tabSp zqStop 100 zqR (zqT b n xs.length rs cs (Int.ofNat k)) (zqH b xs rs cs)
end
noncomputable def zq8L : List Item := ((zqU false 1 [] [] [] 0).at [true, true]).todo ++ []
noncomputable def zq10L : List Item := ((zqU false 1 [] [] [] 0).at [true, false, true]).todo ++ []
theorem zq8_eq : zq8L = .code (.region 8 (opsOf zq8L) true) :: tlOf zq8L := by kernel_rfl
theorem zq10_eq : zq10L = .code (.region 10 (opsOf zq10L) true) :: tlOf zq10L := by kernel_rfl
theorem zq8_reg : (Nat.ble 12 (opsOf zq8L).size && (drawOK (opsOf zq8L) 12 && box2OK (opsOf zq8L) 12 11 (Nat.beq 11))) = true := by kernel_rfl
theorem zq10_reg : (Nat.ble 13 (opsOf zq10L).size && (drawOK (opsOf zq10L) 13 && box2OK (opsOf zq10L) 13 12 (Nat.beq 12))) = true := by kernel_rfl
section
variable (b : Bool) (n : Int) (xs rs cs : List Int) (k : Nat)
def zqc1 : Bool := ltQ false (Int.ofNat k) (wrapQ false .i64 (n * n))
def zqc2 : Bool := ltQ false ((Int.ofNat k).tmod n) (wrapQ false .i64 (n - 1))
def zqc3 : Bool := ltQ false (wrapQ false .i64 ((Int.ofNat k).tdiv n)) (wrapQ false .i64 (n - 1))
noncomputable def zq8 : Res := runYB Try.prog tabSp 11 (Nat.beq 11) 0 ((opsOf zq8L).toList.take 12) (zqT b n xs.length rs cs (Int.ofNat k)) (zqH b xs rs cs) .dead [] fun t B nd => runOps Try.prog tabSp (opsOf zq8L) ((opsOf zq8L).toList.drop 12) t (zqH b xs rs cs ++ [B]) nd fun t H nd => .stop [] t H nd
noncomputable def zq10 : Res := runYB Try.prog tabSp 12 (Nat.beq 12) 0 ((opsOf zq10L).toList.take 13) (zqT b n xs.length rs cs (Int.ofNat k)) (zqH b xs rs cs) .dead [] fun t B nd => runOps Try.prog tabSp (opsOf zq10L) ((opsOf zq10L).toList.drop 13) t (zqH b xs rs cs ++ [B]) nd fun t H nd => .stop [] t H nd
def zqV (xs : List Int) (a k : Int) : Int := IntKind.i64.wrap (xs.getD (0 + a.toNat * 1) 0 - xs.getD (0 + k.toNat * 1) 0)
def zqQ (xs ys : List Int) (a k : Int) : List Bool := [apQ ys.length ys, decide (0 + k.toNat * 1 < (Cells.ints .i64 xs).len), decide (0 ≤ k) && decide (k < (xs.length : Int)), decide (0 + a.toNat * 1 < (Cells.ints .i64 xs).len), decide (0 ≤ a) && decide (a < (xs.length : Int))]
def zqL8 (v : Int) : List AB := [.cells true (.lit [.i false .i64 v]), .cells true (.ints .i64 (List.take (rs.length * 1) (List.drop 0 rs) ++ [v]))]
def zqH8 (v : Int) : List AB := .cells false (.ints .i64 xs) :: (cond b [qB cs, .dead] [.dead, qB cs] ++ zqL8 rs v)
def zqH10 (v : Int) : List AB := .cells false (.ints .i64 xs) :: (cond b [.dead, qB rs] [qB rs, .dead] ++ zqL8 cs v)
theorem zqU_8 : (condsP (zqU b n xs rs cs k) [true, true], lfM zqM ((zqU b n xs rs cs k).at [true, true])) = ([zqc1 n k, zqc2 n k], true, zq8L, (zqT b n xs.length rs cs (Int.ofNat k)).map AV.bare, zqH b xs rs cs, [!(n == 0)]) := by cases b <;> kernel_rfl
theorem zqU_10 : (condsP (zqU b n xs rs cs k) [true, false, true], lfM zqM ((zqU b n xs rs cs k).at [true, false, true])) = ([zqc1 n k, !zqc2 n k, zqc3 n k], true, zq10L, (zqT b n xs.length rs cs (Int.ofNat k)).map AV.bare, zqH b xs rs cs, [!(n == 0), !(n == 0)]) := by cases b <;> kernel_rfl
theorem zqU_no : (condsP (zqU b n xs rs cs k) [true, false, false], lfM zqM ((zqU b n xs rs cs k).at [true, false, false])) = ([zqc1 n k, !zqc2 n k, !zqc3 n k], true, zqR, (zqT b n xs.length rs cs (wrapQ false .i64 (Int.ofNat k + 1))).map AV.bare, zqH b xs rs cs, [!(n == 0), !(n == 0)]) := by cases b <;> kernel_rfl
theorem zqU_end : (condsP (zqU b n xs rs cs k) [false], endOf Try.prog Try.f93.results.toList ((zqU b n xs rs cs k).at [false])) = ([!zqc1 n k], some (some ([.sl true 3 0 2 1, .i true .i64 0], []), zqH b xs rs cs ++ [.cells true (.lit [.i false .i64 (mostZ rs), .i false .i64 (mostZ cs)])], szQ cs ++ szQ rs)) := by cases b <;> kernel_rfl
theorem zq8_out : lfM zqM (zq8 b n xs rs cs k) = (true, [], (zqTs n xs.length (.sl false 4 0 (rs.length + 1) 1) (.sl false (scId b) 0 cs.length 1) (Int.ofNat k)).map AV.bare, zqH8 b xs rs cs (zqV xs (IntKind.i64.wrap (Int.ofNat k + 1)) (Int.ofNat k)), zqQ xs rs (IntKind.i64.wrap (Int.ofNat k + 1)) (Int.ofNat k)) := by cases b <;> kernel_rfl
theorem zq10_out : lfM zqM (zq10 b n xs rs cs k) = (true, [], (zqTs n xs.length (.sl false (srId b) 0 rs.length 1) (.sl false 4 0 (cs.length + 1) 1) (Int.ofNat k)).map AV.bare, zqH10 b xs rs cs (zqV xs (IntKind.i64.wrap (Int.ofNat k + n)) (Int.ofNat k)), zqQ xs cs (IntKind.i64.wrap (Int.ofNat k + n)) (Int.ofNat k)) := by cases b <;> kernel_rfl
theorem zq8_drop (k : Int) (v : Int) : dropsT 1 (cond b [3, 2] [3, 1]) (zqTs n xs.length (.sl false 4 0 (rs.length + 1) 1) (.sl false (scId b) 0 cs.length 1) k) (zqH8 b xs rs cs v) = (true, zqTs n xs.length (.sl false 2 0 (rs.length + 1) 1) (.sl false 1 0 cs.length 1) k, zqH true xs (List.take (rs.length * 1) (List.drop 0 rs) ++ [v]) cs) := by cases b <;> kernel_rfl
theorem zq10_drop (k : Int) (v : Int) : dropsT 1 (cond b [3, 1] [3, 2]) (zqTs n xs.length (.sl false (srId b) 0 rs.length 1) (.sl false 4 0 (cs.length + 1) 1) k) (zqH10 b xs rs cs v) = (true, zqTs n xs.length (.sl false 1 0 rs.length 1) (.sl false 2 0 (cs.length + 1) 1) k, zqH false xs rs (List.take (cs.length * 1) (List.drop 0 cs) ++ [v])) := by cases b <;> kernel_rfl
/-- Behind the rows. -/
noncomputable def zqB : Res := cupto Try.prog tabSp zqStop 100 (tlOf zq8L) (zqT b n xs.length rs cs (Int.ofNat k)) (zqH b xs rs cs)
theorem zqB_10 : (condsP (zqB b n xs rs cs k) [true], lfM zqM ((zqB b n xs rs cs k).at [true])) = ([zqc3 n k], true, zq10L, (zqT b n xs.length rs cs (Int.ofNat k)).map AV.bare, zqH b xs rs cs, [!(n == 0)]) := by cases b <;> kernel_rfl
theorem zqB_no : (condsP (zqB b n xs rs cs k) [false], lfM zqM ((zqB b n xs rs cs k).at [false])) = ([!zqc3 n k], true, zqR, (zqT b n xs.length rs cs (wrapQ false .i64 (Int.ofNat k + 1))).map AV.bare, zqH b xs rs cs, [!(n == 0)]) := by cases b <;> kernel_rfl
noncomputable def zqE : Res := cupto Try.prog tabSp zqStop 100 (tlOf zq10L) (zqT b n xs.length rs cs (Int.ofNat k)) (zqH b xs rs cs)
theorem zqE_no : (condsP (zqE b n xs rs cs k) [], lfM zqM ((zqE b n xs rs cs k).at [])) = ([], true, zqR, (zqT b n xs.length rs cs (wrapQ false .i64 (Int.ofNat k + 1))).map AV.bare, zqH b xs rs cs, []) := by cases b <;> kernel_rfl
theorem zq0_ok : (condsP (zq0 n xs) [false], lfM zqM ((zq0 n xs).at [false])) = ([!!isMapZ n xs], true, zqL, (zqT false n xs.length [] [] 0).map AV.bare, zqH false xs [] [], szQ xs) := by kernel_rfl
theorem zq0_bad : (condsP (zq0 n xs) [true], endOf Try.prog Try.f93.results.toList ((zq0 n xs).at [true])) = ([!isMapZ n xs], some (some ([.slnil, .i true .i64 1], []), lb xs, szQ xs)) := by kernel_rfl
noncomputable def so0 : Res := cupto Try.prog tabSp atLoop 100 [.code (Try.f92.body.getD .skip)] (.i false .i64 n :: .sl false 0 0 xs.length 1 :: undefs 60) (lb xs)
theorem so0_bad : (condsP (so0 n xs) [true], endOf Try.prog Try.f92.results.toList ((so0 n xs).at [true])) = ([!isMapZ n xs], some (some ([.slnil, .i true .i64 1], []), lb xs, szQ xs)) := by kernel_rfl
end
end Go.Ax

/- SlopesOf, of both sides: rows of calls. -/
namespace Go.Ax
open Go Go.Proofs

def dxE (m : Nat) (x : Nat → Int) (k : Nat) : List Int := match Nat.blt (k % m + 1) m with
  | true => [wrapQ false .i64 (x (k + 1) - x k)]
  | false => []
def dyE (m : Nat) (x : Nat → Int) (k : Nat) : List Int := match Nat.blt (k / m + 1) m with
  | true => [wrapQ false .i64 (x (k + m) - x k)]
  | false => []
def preL (e : Nat → List Int) (k : Nat) : List Int := (List.range k).flatMap e
theorem preL_succ (e : Nat → List Int) (k : Nat) : preL e (k + 1) = preL e k ++ e k := by simp [preL, List.range_succ, List.flatMap_append]
theorem preL_len {e : Nat → List Int} (he : ∀ k, (e k).length ≤ 1) : ∀ k, (preL e k).length ≤ k
  | 0 => by simp [preL]
  | k + 1 => by
    have := preL_len he k
    have := he k
    rw [preL_succ, List.length_append]; omega
theorem dxE_len (m : Nat) (x : Nat → Int) (k : Nat) : (dxE m x k).length ≤ 1 := by unfold dxE; split <;> simp
theorem dyE_len (m : Nat) (x : Nat → Int) (k : Nat) : (dyE m x k).length ≤ 1 := by unfold dyE; split <;> simp
theorem zqc2_eq {m k : Nat} (hm : 1 ≤ m ∧ m ≤ 8) : zqc2 (m : Int) k = Nat.blt (k % m + 1) m := by
  unfold zqc2
  rw [small64 (x := (m : Int) - 1) (by omega), ltQ_eq]
  have : (Int.ofNat k).tmod (m : Int) = ((k % m : Nat) : Int) := rfl
  rw [this, Bool.eq_iff_iff, decide_eq_true_eq, Nat.blt_eq]
  omega
theorem zqc3_eq {m k : Nat} (hm : 1 ≤ m ∧ m ≤ 8) (hk : k ≤ 64) : zqc3 (m : Int) k = Nat.blt (k / m + 1) m := by
  unfold zqc3
  have e : (Int.ofNat k).tdiv (m : Int) = ((k / m : Nat) : Int) := rfl
  have h1 : k / m ≤ k := Nat.div_le_self _ _
  rw [e]
  generalize k / m = q at h1 ⊢
  rw [small64 (x := (m : Int) - 1) (by omega), small64 (x := (q : Int)) (by omega), ltQ_eq]
  rw [Bool.eq_iff_iff, decide_eq_true_eq, Nat.blt_eq]
  omega
theorem ap_ok {ys : List Int} (h : ys.length ≤ 64) : apQ ys.length ys = true := by
  have h2 : (2 * (ys.length + 1) + 1024) * 8 ≤ 2 ^ 48 := Nat.le_trans (by omega : _ ≤ 20000) (by decide)
  simp only [apQ, Cells.len, Nat.mul_one, Bool.and_eq_true, decide_eq_true_eq]
  exact ⟨⟨⟨trivial, trivial⟩, trivial⟩, h2⟩
theorem zqQ_ok {xs ys : List Int} {a k : Nat} (hy : ys.length ≤ 64) (ha : a < xs.length) (hk : k < xs.length) (_ : xs.length ≤ 64) : allT (zqQ xs ys (a : Int) (Int.ofNat k)) = true := by
  simp only [zqQ, allT, ap_ok hy, Cells.len, Nat.mul_one, Nat.zero_add, Int.ofNat_eq_natCast, Int.toNat_natCast, Bool.true_and, Bool.and_true, Bool.and_eq_true, decide_eq_true_eq]
  exact ⟨hk, ⟨by omega, by omega⟩, ha, by omega, by omega⟩
theorem zqV_nat (xs : List Int) (a k : Nat) : zqV xs (a : Int) (Int.ofNat k) = wrapQ false .i64 (xs.getD a 0 - xs.getD k 0) := by
  unfold zqV
  simp only [Int.ofNat_eq_natCast, Int.toNat_natCast, Nat.zero_add, Nat.mul_one]
  rfl
theorem zq_go {m : Nat} (hm : m = 1 ∨ m = 2 ∨ m = 4 ∨ m = 8) {xs : List Int} (hx : xs.length = m * m) {L0 : List Item} (hL0 : toLp L0 = zqR) {t0 : List AV} (hr : Reach Try.prog [.code zqC] t0 (lb xs) L0 (zqT false m xs.length [] [] 0) (zqH false xs [] [])) :
    ∀ k, k ≤ m * m → ∃ b L, toLp L = zqR ∧ Reach Try.prog [.code zqC] t0 (lb xs) L (zqT b m xs.length (preL (dxE m fun j => xs.getD j 0) k) (preL (dyE m fun j => xs.getD j 0) k) (Int.ofNat k)) (zqH b xs (preL (dxE m fun j => xs.getD j 0) k) (preL (dyE m fun j => xs.getD j 0) k))
  | 0, _ => ⟨false, L0, hL0, hr⟩
  | k + 1, hk => by
    obtain ⟨b, L, hL, r⟩ := zq_go hm hx hL0 hr k (by omega)
    have hN : m * m ≤ 64 := by rcases hm with rfl | rfl | rfl | rfl <;> decide
    have hm1 : 1 ≤ m ∧ m ≤ 8 := by omega
    have hmm : wrapQ false .i64 ((m : Int) * m) = ((m * m : Nat) : Int) := by rcases hm with rfl | rfl | rfl | rfl <;> rfl
    have hc1 : zqc1 (m : Int) k = true := by unfold zqc1; rw [hmm]; exact ltQ_true (by omega)
    have hc2 := zqc2_eq (k := k) hm1
    have hc3 := zqc3_eq (k := k) hm1 (by omega)
    have hn0 : (!((m : Int) == 0)) = true := by simp; omega
    have e1 : wrapQ false .i64 (Int.ofNat k + 1) = Int.ofNat (k + 1) := ofNat_next (by omega)
    have w1 : IntKind.i64.wrap (Int.ofNat k + 1) = ((k + 1 : Nat) : Int) := e1
    have wm : IntKind.i64.wrap (Int.ofNat k + (m : Int)) = ((k + m : Nat) : Int) := by
      have : wrapQ false .i64 (Int.ofNat k + (m : Int)) = Int.ofNat k + (m : Int) := small64 (by simp; omega)
      rw [show IntKind.i64.wrap (Int.ofNat k + (m : Int)) = wrapQ false .i64 (Int.ofNat k + (m : Int)) from rfl, this]
      simp
    have hrl := preL_len (dxE_len m fun j => xs.getD j 0) k
    have hcl := preL_len (dyE_len m fun j => xs.getD j 0) k
    rw [preL_succ, preL_succ]
    generalize preL (dxE m fun j => xs.getD j 0) k = rs at r hrl ⊢
    generalize preL (dyE m fun j => xs.getD j 0) k = cs at r hcl ⊢
    have hU : cupto Try.prog tabSp zqStop 100 L (zqT b m xs.length rs cs (Int.ofNat k)) (zqH b xs rs cs) = zqU b m xs rs cs k := by
      unfold zqU
      rw [← hL, cupto_toLp]
    have hreg8 := zq8_reg
    rw [Bool.and_eq_true, Bool.and_eq_true] at hreg8
    have hreg10 := zq10_reg
    rw [Bool.and_eq_true, Bool.and_eq_true] at hreg10
    -- the columns, from the region that appends to them
    have cols : ∀ (b : Bool) (rs : List Int), Reach Try.prog [.code zqC] t0 (lb xs) zq10L (zqT b m xs.length rs cs (Int.ofNat k)) (zqH b xs rs cs) → Nat.blt (k / m + 1) m = true →
        Reach Try.prog [.code zqC] t0 (lb xs) zqR (zqT false m xs.length rs (cs ++ [wrapQ false .i64 (xs.getD (k + m) 0 - xs.getD k 0)]) (Int.ofNat (k + 1))) (zqH false xs rs (cs ++ [wrapQ false .i64 (xs.getD (k + m) 0 - xs.getD k 0)])) := fun b rs r hb => by
      have hb := blt_true hb
      have hkm : k + m < xs.length := by rw [hx]; rcases hm with rfl | rfl | rfl | rfl <;> omega
      rw [zq10_eq] at r
      have ho := zq10_out b (m : Int) xs rs cs k
      rw [wm, zqV_nat] at ho
      have r1 := r.trans (box3_way (P := Try.prog) (T := tabSp) (ops := opsOf zq10L) tabSp_sound (by kernel_rfl) 13 12 (Nat.beq 12) (Nat.le_of_ble_eq_true hreg10.1) (by decide) rfl hreg10.2.1 hreg10.2.2 (id := 10) (k := tlOf zq10L) (t := zqT b m xs.length rs cs (Int.ofNat k)) (H := zqH b xs rs cs) (M := zqM) (by cases b <;> rfl) ho (zqQ_ok (by omega) hkm (by omega) (by omega)))
      have r2 := r1.drops (ks := cond b [3, 1] [3, 2]) (zq10_drop b (m : Int) xs rs cs (Int.ofNat k) _)
      have e2 : List.take (cs.length * 1) (List.drop 0 cs) = cs := by rw [List.drop_zero, Nat.mul_one, List.take_length]
      rw [e2] at r2
      have r2 : Reach Try.prog [.code zqC] t0 (lb xs) (tlOf zq10L) (zqT false m xs.length rs (cs ++ [wrapQ false .i64 (xs.getD (k + m) 0 - xs.getD k 0)]) (Int.ofNat k)) (zqH false xs rs (cs ++ [wrapQ false .i64 (xs.getD (k + m) 0 - xs.getD k 0)])) := r2.weak (eqv_of_bare (by simp [zqT, srId, scId]))
      have he := zqE_no false (m : Int) xs rs (cs ++ [wrapQ false .i64 (xs.getD (k + m) 0 - xs.getD k 0)]) k
      simp only [Prod.mk.injEq] at he
      rw [e1] at he
      exact r2.trans (cway_reach (P := Try.prog) (T := tabSp) (stop := zqStop) (n := 100) (L := tlOf zq10L) (p := []) (M := zqM) tabSp_sound (by
        show allT (condsP (zqE false m xs rs _ k) []) = true
        rw [he.1]; rfl) he.2 rfl)
    cases h2 : Nat.blt (k % m + 1) m with
    | true =>
      have hb2 := blt_true h2
      have hk1 : k + 1 < xs.length := by rw [hx]; rcases hm with rfl | rfl | rfl | rfl <;> omega
      have hA := zqU_8 b (m : Int) xs rs cs k
      simp only [Prod.mk.injEq] at hA
      have r1 := r.trans (cway_reach (P := Try.prog) (T := tabSp) (stop := zqStop) (n := 100) (L := L) (p := [true, true]) (M := zqM) tabSp_sound (by rw [hU, hA.1, hc1, hc2, h2]; rfl) (by rw [hU]; exact hA.2) (by simp only [allT, hn0]; rfl))
      rw [zq8_eq] at r1
      have ho := zq8_out b (m : Int) xs rs cs k
      rw [w1, zqV_nat] at ho
      have r2 := r1.trans (box3_way (P := Try.prog) (T := tabSp) (ops := opsOf zq8L) tabSp_sound (by kernel_rfl) 12 11 (Nat.beq 11) (Nat.le_of_ble_eq_true hreg8.1) (by decide) rfl hreg8.2.1 hreg8.2.2 (id := 8) (k := tlOf zq8L) (t := zqT b m xs.length rs cs (Int.ofNat k)) (H := zqH b xs rs cs) (M := zqM) (by cases b <;> rfl) ho (zqQ_ok (by omega) hk1 (by omega) (by omega)))
      have r3 := r2.drops (ks := cond b [3, 2] [3, 1]) (zq8_drop b (m : Int) xs rs cs (Int.ofNat k) _)
      have e2 : List.take (rs.length * 1) (List.drop 0 rs) = rs := by rw [List.drop_zero, Nat.mul_one, List.take_length]
      rw [e2] at r3
      have r3 : Reach Try.prog [.code zqC] t0 (lb xs) (tlOf zq8L) (zqT true m xs.length (rs ++ [wrapQ false .i64 (xs.getD (k + 1) 0 - xs.getD k 0)]) cs (Int.ofNat k)) (zqH true xs (rs ++ [wrapQ false .i64 (xs.getD (k + 1) 0 - xs.getD k 0)]) cs) := r3.weak (eqv_of_bare (by simp [zqT, srId, scId]))
      have hdx : dxE m (fun j => xs.getD j 0) k = [wrapQ false .i64 (xs.getD (k + 1) 0 - xs.getD k 0)] := by unfold dxE; rw [h2]
      rw [hdx]
      cases h3 : Nat.blt (k / m + 1) m with
      | true =>
        have hB := zqB_10 true (m : Int) xs (rs ++ [wrapQ false .i64 (xs.getD (k + 1) 0 - xs.getD k 0)]) cs k
        simp only [Prod.mk.injEq] at hB
        have r4 := r3.trans (cway_reach (P := Try.prog) (T := tabSp) (stop := zqStop) (n := 100) (L := tlOf zq8L) (p := [true]) (M := zqM) tabSp_sound (by
          show allT (condsP (zqB true m xs _ cs k) [true]) = true
          rw [hB.1, hc3, h3]; rfl) hB.2 (by simp only [allT, hn0]; rfl))
        have hdy : dyE m (fun j => xs.getD j 0) k = [wrapQ false .i64 (xs.getD (k + m) 0 - xs.getD k 0)] := by unfold dyE; rw [h3]
        rw [hdy]
        exact ⟨false, zqR, zqR_eq, cols true _ r4 h3⟩
      | false =>
        have hB := zqB_no true (m : Int) xs (rs ++ [wrapQ false .i64 (xs.getD (k + 1) 0 - xs.getD k 0)]) cs k
        simp only [Prod.mk.injEq] at hB
        rw [e1] at hB
        have r4 := r3.trans (cway_reach (P := Try.prog) (T := tabSp) (stop := zqStop) (n := 100) (L := tlOf zq8L) (p := [false]) (M := zqM) tabSp_sound (by
          show allT (condsP (zqB true m xs _ cs k) [false]) = true
          rw [hB.1, hc3, h3]; rfl) hB.2 (by simp only [allT, hn0]; rfl))
        have hdy : dyE m (fun j => xs.getD j 0) k = [] := by unfold dyE; rw [h3]
        rw [hdy, List.append_nil]
        exact ⟨true, zqR, zqR_eq, r4⟩
    | false =>
      have hdx : dxE m (fun j => xs.getD j 0) k = [] := by unfold dxE; rw [h2]
      rw [hdx, List.append_nil]
      cases h3 : Nat.blt (k / m + 1) m with
      | true =>
        have hA := zqU_10 b (m : Int) xs rs cs k
        simp only [Prod.mk.injEq] at hA
        have r1 := r.trans (cway_reach (P := Try.prog) (T := tabSp) (stop := zqStop) (n := 100) (L := L) (p := [true, false, true]) (M := zqM) tabSp_sound (by rw [hU, hA.1, hc1, hc2, h2, hc3, h3]; rfl) (by rw [hU]; exact hA.2) (by simp only [allT, hn0]; rfl))
        have hdy : dyE m (fun j => xs.getD j 0) k = [wrapQ false .i64 (xs.getD (k + m) 0 - xs.getD k 0)] := by unfold dyE; rw [h3]
        rw [hdy]
        exact ⟨false, zqR, zqR_eq, cols b _ r1 h3⟩
      | false =>
        have hA := zqU_no b (m : Int) xs rs cs k
        simp only [Prod.mk.injEq] at hA
        rw [e1] at hA
        have r1 := r.trans (cway_reach (P := Try.prog) (T := tabSp) (stop := zqStop) (n := 100) (L := L) (p := [true, false, false]) (M := zqM) tabSp_sound (by rw [hU, hA.1, hc1, hc2, h2, hc3, h3]; rfl) (by rw [hU]; exact hA.2) (by simp only [allT, hn0]; rfl))
        have hdy : dyE m (fun j => xs.getD j 0) k = [] := by unfold dyE; rw [h3]
        rw [hdy, List.append_nil]
        exact ⟨b, zqR, zqR_eq, r1⟩
theorem slL_eq (m : Nat) (xs : List Int) : slL (m : Int) xs = [mostZ (preL (dxE m fun j => xs.getD j 0) (m * m)), mostZ (preL (dyE m fun j => xs.getD j 0) (m * m))] := by
  unfold slL
  simp only [Int.toNat_natCast]
  rfl
theorem blk_two (a b : Int) : (AB.cells true (.lit [.i false .i64 a, .i false .i64 b])).rw = (qB [a, b]).rw ∧ (AB.cells true (.lit [.i false .i64 a, .i false .i64 b])).live = (qB [a, b]).live ∧ ∀ σ z o, BlkRel σ z (AB.cells true (.lit [.i false .i64 a, .i false .i64 b])) o → BlkRel σ z (qB [a, b]) o :=
  ⟨rfl, rfl, fun _ _ _ h => blk_toL (A := .lit [.i false .i64 a, .i false .i64 b]) (B := .ints .i64 [a, b]) rfl h⟩
theorem zq_good {n : Int} {xs : List Int} (h : isMapZ n xs = true) : CallOK Try.prog 93 [.i false .i64 n, .sl false 0 0 xs.length 1] (lb xs) (.tup [.sl false 1 0 (slL n xs).length 1, .i false .i64 0]) (lz xs (slL n xs)) := by
  obtain ⟨m, rfl, hm, hx, ha⟩ := isMapZ_side h
  have hN : m * m ≤ 64 := by rcases hm with rfl | rfl | rfl | rfl <;> decide
  have h0 := zq0_ok (m : Int) xs
  simp only [Prod.mk.injEq] at h0
  have r0 := cway_reach (P := Try.prog) (T := tabSp) (stop := atLoop) (n := 100) (L := [.code zqC]) (p := [false]) (M := zqM) (t0 := .i false .i64 m :: .sl false 0 0 xs.length 1 :: undefs 64) (H0 := lb xs) tabSp_sound (by
    show allT (condsP (zq0 m xs) [false]) = true
    rw [h0.1, h]; rfl) h0.2 (szQ_ok (by omega))
  obtain ⟨b, L, hL, r⟩ := zq_go hm hx (L0 := zqL) rfl r0 (m * m) (Nat.le_refl _)
  have hrl := preL_len (dxE_len m fun j => xs.getD j 0) (m * m)
  have hcl := preL_len (dyE_len m fun j => xs.getD j 0) (m * m)
  rw [slL_eq]
  generalize preL (dxE m fun j => xs.getD j 0) (m * m) = rs at r hrl ⊢
  generalize preL (dyE m fun j => xs.getD j 0) (m * m) = cs at r hcl ⊢
  have hmm : wrapQ false .i64 ((m : Int) * m) = ((m * m : Nat) : Int) := by rcases hm with rfl | rfl | rfl | rfl <;> rfl
  have hc1 : zqc1 (m : Int) (m * m) = false := by unfold zqc1; rw [hmm]; exact ltQ_same _
  have he := zqU_end b (m : Int) xs rs cs (m * m)
  simp only [Prod.mk.injEq] at he
  have hU : cupto Try.prog tabSp zqStop 100 L (zqT b m xs.length rs cs (Int.ofNat (m * m))) (zqH b xs rs cs) = zqU b m xs rs cs (m * m) := by
    unfold zqU
    rw [← hL, cupto_toLp]
  obtain ⟨t, g1, g2⟩ := endOf_ends (T := tabSp) (stop := zqStop) (n := 100) (todo := L) (t0 := zqT b m xs.length rs cs (Int.ofNat (m * m))) (H0 := zqH b xs rs cs) tabSp_sound he.2 (by
    rw [hU]
    exact sel_of_conds _ [false] (by rw [he.1, hc1]; rfl)) (by rw [allT_append, szQ_ok (by omega), szQ_ok (by omega)]; rfl)
  have k := call_of_ends (args := [.i false .i64 m, .sl false 0 0 xs.length 1]) (m := []) Try.func93 (rfl : Try.f93.body = some zqC) (r.ends g1) g2 rfl
  have k2 : CallOK Try.prog 93 [.i false .i64 m, .sl false 0 0 xs.length 1] (lb xs) (.tup [.sl true 1 0 2 1, .i true .i64 0]) (lb xs ++ [.cells true (.lit [.i false .i64 (mostZ rs), .i false .i64 (mostZ cs)])]) :=
    dropN_call (H0 := lb xs) (ks := [2, 1]) (by cases b <;> rfl) k
  exact (k2.post (heq_mid (blk_two (mostZ rs) (mostZ cs)) [] (lb xs))).weaken fun σ x r => tupW (l := [.sl true 1 0 2 1, .i true .i64 0]) (by rfl) r
theorem so_good {n : Int} {xs : List Int} (h : isMapZ n xs = true) : CallOK Try.prog 92 [.i false .i64 n, .sl false 0 0 xs.length 1] (lb xs) (.tup [.sl false 1 0 (slL n xs).length 1, .i false .i64 0]) (lz xs (slL n xs)) := by
  obtain ⟨m, rfl, hm, hx, ha⟩ := isMapZ_side h
  have h1 : soG 92 m (fun j => xs.getD j 0) = soW m (fun j => xs.getD j 0) := by
    rcases hm with rfl | rfl | rfl | rfl
    · exact so92_1 _
    · exact so92_2 _
    · exact so92_4 _
    · exact so92_8 _
  simp only [soG, soW, Prod.mk.injEq] at h1
  rw [zXL_of hx, h] at h1
  have k := lastD_call (f := 92) (args := [.i true .i64 m, .sl true 0 0 (m * m) 1]) (xs := zXL (m * m) fun j => xs.getD j 0) tabSo_sound (sel_of_conds _ [false] (by
    show allT (condsP (soR 92 m fun j => xs.getD j 0) [false]) = true
    rw [h1.1]; rfl)) h1.2
  rw [zXL_of hx] at k
  have k2 := k.bare (args' := [.i false .i64 m, .sl false 0 0 xs.length 1]) (by rw [hx]; rfl)
  have e : slL (m : Int) xs = [mostZ (dxL m fun j => xs.getD j 0), mostZ (dyL m fun j => xs.getD j 0)] := by unfold slL; simp only [Int.toNat_natCast]
  rw [e]
  exact (k2.post (heq_mid (blk_two _ _) [] (lb xs))).weaken fun σ x r => tupW (l := [.sl true 1 0 2 1, .i true .i64 0]) (by rfl) r
theorem slopes_at {f : FuncId} (hgood : ∀ n xs, isMapZ n xs = true → CallOK Try.prog f [.i false .i64 n, .sl false 0 0 xs.length 1] (lb xs) (.tup [.sl false 1 0 (slL n xs).length 1, .i false .i64 0]) (lz xs (slL n xs)))
    (hbad : ∀ n xs, xs.length ≤ 5000 → isMapZ n xs = false → CallOK Try.prog f [.i false .i64 n, .sl false 0 0 xs.length 1] (lb xs) (.tup [.slnil, .i false .i64 1]) (lb xs)) : SoundAt Try.prog f (nlT mcZ slL) := nlT_at (fun n xs _ h => hgood n xs (by
    unfold mcZ at h
    cases hm : isMapZ n xs with
    | true => rfl
    | false => rw [hm] at h; cases h)) fun n xs h5 h => by
  have hm : isMapZ n xs = false := by
    cases hm : isMapZ n xs with
    | true => exact absurd (by simp [mcZ, hm]) h
    | false => rfl
  have e : mcZ n xs = 1 := by simp [mcZ, hm]
  rw [e]
  exact hbad n xs h5 hm
theorem so_at : SoundAt Try.prog 92 (nlT mcZ slL) := slopes_at (fun _ _ h => so_good h) fun n xs h5 hm => by
  have hb := so0_bad n xs
  simp only [Prod.mk.injEq] at hb
  obtain ⟨t, g1, g2⟩ := endOf_ends (T := tabSp) (stop := atLoop) (n := 100) (todo := [.code (Try.f92.body.getD .skip)]) (t0 := .i false .i64 n :: .sl false 0 0 xs.length 1 :: undefs 60) (H0 := lb xs) tabSp_sound hb.2 (sel_of_conds (so0 n xs) [true] (by rw [hb.1, hm]; rfl)) (szQ_ok h5)
  have k := call_of_ends (args := [.i false .i64 n, .sl false 0 0 xs.length 1]) (m := []) Try.func92 (rfl : Try.f92.body = some (Try.f92.body.getD .skip)) g1 g2 rfl
  exact k.weaken fun σ x r => tupW (l := [.slnil, .i true .i64 1]) (by rfl) r
theorem zq_at : SoundAt Try.prog 93 (nlT mcZ slL) := slopes_at (fun _ _ h => zq_good h) fun n xs h5 hm => by
  have hb := zq0_bad n xs
  simp only [Prod.mk.injEq] at hb
  obtain ⟨t, g1, g2⟩ := endOf_ends (T := tabSp) (stop := atLoop) (n := 100) (todo := [.code zqC]) (t0 := .i false .i64 n :: .sl false 0 0 xs.length 1 :: undefs 64) (H0 := lb xs) tabSp_sound hb.2 (sel_of_conds (zq0 n xs) [true] (by rw [hb.1, hm]; rfl)) (szQ_ok h5)
  have k := call_of_ends (args := [.i false .i64 n, .sl false 0 0 xs.length 1]) (m := []) Try.func93 (rfl : Try.f93.body = some zqC) g1 g2 rfl
  exact k.weaken fun σ x r => tupW (l := [.slnil, .i true .i64 1]) (by rfl) r
end Go.Ax

/- The law of unwrapping: rows. -/
namespace Go.Ax
open Go Go.Proofs

/-- What the functions come to, as variables. -/
structure UwR where
  Z : FuncId → Cd → Int × List Int
  D : Cd → FloodD
  H : Cd → Int × Int
  cw : Int → List Int → Int
  cm : Int → List Int → Int
  rw : Int → List Int → List Int
  rs : Int → List Int → List Int
  wr : Int → List Int → List Int
  sl : Int → List Int → List Int
  fc : Int → List Int → Int → (Nat → Nat × Nat) → Int → Int → Int
  fd : Int → List Int → (Nat → Nat × Nat) → Int → Int → List Int
  wv : Int → Int → Int
  wk : Int → Int → Int
noncomputable def fdTP (fc : Int → List Int → Int → (Nat → Nat × Nat) → Int → Int → Int) (fd : Int → List Int → (Nat → Nat × Nat) → Int → Int → List Int) : Table := fun _ args H nd K =>
  match args with
  | [.i _ .i64 n, a, .agg l, .i _ .i64 y, .i _ .i64 x] => match intsAt H a, ofW l with
    | some (xs, q), some (s, X) => .ite (eqQ false (fc n xs s X y x) 0) (K (.tup [.sl false H.length 0 (fd n xs X y x).length 1, .i true .i64 0]) (H ++ [.cells true (.ints .i64 (fd n xs X y x))]) (q ++ nd)) (K (.tup [.slnil, .i false .i64 (fc n xs s X y x)]) H (q ++ nd))
    | _, _ => .fail
  | _ => .fail
noncomputable def drawHT (F : Cd → Int × Int) : Table := fun _ args H nd K =>
  match args, H with
  | [s], B :: _ => match readSl s, readCode B with
    | some (o, n), some (o', b) => K (.tup [.i false .i64 (F ⟨b, o', n⟩).1, .i false .i64 (F ⟨b, o', n⟩).2]) H (okB ⟨b, o', n⟩ o n :: nd)
    | _, _ => .fail
  | _, _ => .fail
def gWdP (wv wk : Int → Int → Int) : List AV → Option (AV × List Bool)
  | [.i _ .i64 h, .i _ .i64 k] => some (.tup [.i false .i64 (wv h k), .i false .i64 (wk h k)], [])
  | _ => none
noncomputable def belFT (b : Int) : Table := srcT fun c a h sc => match sc with
  | [.i true .i64 n] => match n == 4 with
    | true => some (.i true .i64 b, nxA c a n, nxS h n, [eqQ false (beV c a h n) b])
    | false => some (.i false .i64 (beV c a h n), nxA c a n, nxS h n, [])
  | _ => none
noncomputable def rowsLu (R : UwR) (b : Int) : List (FuncId × Table) :=
  [(79, drawZT R.Z), (80, nlT R.cw R.rw), (81, nlT R.cw R.rw), (82, nlT R.cw R.rs), (83, nlT R.cw R.rs), (84, nlT R.cm R.wr), (20, pureT gFlat), (85, fdTP R.fc R.fd), (86, drawFT R.D), (87, fdTP R.fc R.fd), (88, drawHT R.H),
   (89, pureT (gWdP R.wv R.wk)), (90, pureT (gWdP R.wv R.wk)), (91, drawZT R.Z), (92, nlT R.cm R.sl), (93, nlT R.cm R.sl), (42, likeT), (15, rollT), (16, belFT b)]
noncomputable def tabLu (R : UwR) (b : Int) : Table := tabOf (jdeep Try.prog (rowsLu R b) [7, 8] 3000 8)
noncomputable def luC : Code := Try.f7.body.getD .skip
end Go.Ax

/- The law of unwrapping: its parts, forms. -/
namespace Go.Ax
open Go Go.Proofs

def lt7 (c : Cd) (l : List (Nat × AV)) : List AV := tmpsOf 433 ((0, .sl false 0 c.off c.len 0) :: l)
def lm7 (l : List Nat) : List Bool := maskOf 433 ((0, .any) :: l.map fun i => (i, .any))
noncomputable def lw (R : UwR) (b : Int) (stop : List Item → Bool) (L : List Item) (t : List AV) (H : List AB) : Res := jupto Try.prog (tabLu R b) stop 4000 L t H
def st8 (L : List Item) : Bool := atReg 8 L
def st11 (L : List Item) : Bool := atReg 33 L || atReg 11 L
noncomputable def luL8 : List Item := ((lw ⟨fun _ _ => (0, []), fun _ => ⟨0, [], 0, fun _ => (0, 0), 0, 0⟩, fun _ => (0, 0), fun _ _ => 0, fun _ _ => 0, fun _ _ => [], fun _ _ => [], fun _ _ => [], fun _ _ => [], fun _ _ _ _ _ _ => 0, fun _ _ _ _ _ => [], fun _ _ => 0, fun _ _ => 0⟩ 0 st8 [.code luC] (.sl false 0 0 0 0 :: undefs 432) [codeB ⟨[], 0, 0⟩ false]).at [false, true, true, true, true]).todo ++ []
noncomputable def lu1 (R : UwR) (c : Cd) : Res := lw R 0 st8 [.code luC] (.sl false 0 c.off c.len 0 :: undefs 432) [codeB c false]
def l8T (n : Int) (xs r s : List Int) : List (Nat × AV) := [(3, .i false .i64 n), (4, .sl false 1 0 xs.length 1), (5, .sl false 2 0 r.length 1), (6, .i true .i64 0), (7, .sl false 3 0 r.length 1), (8, .i true .i64 0), (9, .sl false 4 0 s.length 1), (10, .i true .i64 0), (11, .sl false 5 0 s.length 1), (12, .i true .i64 0)]
def h8T (c : Cd) (xs r s : List Int) : List AB := [codeB c false, qB xs, qB r, qB r, qB s, qB s]
def l8F (n : Int) (xs : List Int) (z : Int) : List (Nat × AV) := [(3, .i false .i64 n), (4, .sl false 1 0 xs.length 1), (5, .slnil), (6, .i false .i64 z), (7, .slnil), (8, .i false .i64 z), (9, .slnil), (10, .i false .i64 z), (11, .slnil), (12, .i false .i64 z)]
def h8F (c : Cd) (xs : List Int) : List AB := [codeB c false, qB xs]
def m8 : List Bool := lm7 [3, 4, 5, 6, 7, 8, 9, 10, 11, 12]
noncomputable def lu8T (R : UwR) (c : Cd) (n : Int) (xs r s : List Int) : Res := lw R 0 st11 luL8 (lt7 c (l8T n xs r s)) (h8T c xs r s)
noncomputable def lu8F (R : UwR) (c : Cd) (n : Int) (xs : List Int) (z : Int) : Res := lw R 0 st11 luL8 (lt7 c (l8F n xs z)) (h8F c xs)
def q4 (xs : List Int) (o : Bool) : List Bool := szQ xs ++ (szQ xs ++ (szQ xs ++ (szQ xs ++ [o])))
theorem lu1_T (R : UwR) (c : Cd) : (condsP (lu1 R c) [false, true, true, true, true], lfM m8 ((lu1 R c).at [false, true, true, true, true])) =
    ([!ltQ false 4096 (c.len : Int), eqQ false (R.cw (R.Z 79 c).1 (R.Z 79 c).2) 0, eqQ false (R.cw (R.Z 79 c).1 (R.Z 79 c).2) 0, eqQ false (R.cw (R.Z 79 c).1 (R.Z 79 c).2) 0, eqQ false (R.cw (R.Z 79 c).1 (R.Z 79 c).2) 0], true, luL8,
      (lt7 c (l8T (R.Z 79 c).1 (R.Z 79 c).2 (R.rw (R.Z 79 c).1 (R.Z 79 c).2) (R.rs (R.Z 79 c).1 (R.Z 79 c).2))).map AV.bare, h8T c (R.Z 79 c).2 (R.rw (R.Z 79 c).1 (R.Z 79 c).2) (R.rs (R.Z 79 c).1 (R.Z 79 c).2), q4 (R.Z 79 c).2 (okB c c.off c.len)) := by kernel_rfl
theorem lu1_F (R : UwR) (c : Cd) : (condsP (lu1 R c) [false, false, false, false, false], lfM m8 ((lu1 R c).at [false, false, false, false, false])) =
    ([!ltQ false 4096 (c.len : Int), !eqQ false (R.cw (R.Z 79 c).1 (R.Z 79 c).2) 0, !eqQ false (R.cw (R.Z 79 c).1 (R.Z 79 c).2) 0, !eqQ false (R.cw (R.Z 79 c).1 (R.Z 79 c).2) 0, !eqQ false (R.cw (R.Z 79 c).1 (R.Z 79 c).2) 0], true, luL8,
      (lt7 c (l8F (R.Z 79 c).1 (R.Z 79 c).2 (R.cw (R.Z 79 c).1 (R.Z 79 c).2))).map AV.bare, h8F c (R.Z 79 c).2, q4 (R.Z 79 c).2 (okB c c.off c.len)) := by kernel_rfl
noncomputable def luL11 : List Item := ((lu8T ⟨fun _ _ => (0, []), fun _ => ⟨0, [], 0, fun _ => (0, 0), 0, 0⟩, fun _ => (0, 0), fun _ _ => 0, fun _ _ => 0, fun _ _ => [], fun _ _ => [], fun _ _ => [], fun _ _ => [], fun _ _ _ _ _ _ => 0, fun _ _ _ _ _ => [], fun _ _ => 0, fun _ _ => 0⟩ ⟨[], 0, 0⟩ 0 [] [] []).at [false]).todo ++ []
noncomputable def luL33 : List Item := ((lu8F ⟨fun _ _ => (0, []), fun _ => ⟨0, [], 0, fun _ => (0, 0), 0, 0⟩, fun _ => (0, 0), fun _ _ => 0, fun _ _ => 0, fun _ _ => [], fun _ _ => [], fun _ _ => [], fun _ _ => [], fun _ _ _ _ _ _ => 0, fun _ _ _ _ _ => [], fun _ _ => 0, fun _ _ => 0⟩ ⟨[], 0, 0⟩ 0 [] 0).at [false, false]).todo ++ []
def l11 (n : Int) (xs r s : List Int) : List (Nat × AV) := [(3, .i false .i64 n), (4, .sl false 1 0 xs.length 1), (5, .sl false 2 0 r.length 1), (9, .sl false 4 0 s.length 1)]
def m11 : List Bool := lm7 [3, 4, 5, 9]
def n8 (r s : List Int) : List Bool := [cond (!(r == r)) (andT (szQ r ++ szQ r)) true, cond (!!(r == r)) (andT (guardL (!(s == s)) (szQ s ++ (szQ s ++ (szQ r ++ szQ r))) ++ guardL (!!(s == s)) (szQ s ++ (szQ s ++ (szQ r ++ szQ r))))) true]
theorem lu8T_ok (R : UwR) (c : Cd) (n : Int) (xs r s : List Int) : (condsP (lu8T R c n xs r s) [false], lfM m11 ((lu8T R c n xs r s).at [false])) =
    ([!cond (!(r == r)) true (!(s == s))], true, luL11, (lt7 c (l11 n xs r s)).map AV.bare, h8T c xs r s, n8 r s) := by kernel_rfl
theorem lu8F_ok (R : UwR) (c : Cd) (n : Int) (xs : List Int) (z : Int) : (condsP (lu8F R c n xs z) [false, false], lfM (lm7 []) ((lu8F R c n xs z).at [false, false])) =
    ([!cond (!eqQ false z z) true (cond (!eqQ false z z) true (!eqQ false z z)), !eqQ false z 0], true, luL33, (lt7 c []).map AV.bare, h8F c xs, []) := by kernel_rfl
/-! ### Where the map is good -/
def st14 (L : List Item) : Bool := atReg 14 L
noncomputable def lu11 (R : UwR) (c : Cd) (n : Int) (xs r s : List Int) : Res := lw R 0 st14 luL11 (lt7 c (l11 n xs r s)) (h8T c xs r s)
end Go.Ax

/- The law of unwrapping: where the map is good. -/
namespace Go.Ax
open Go Go.Proofs

noncomputable def R0 : UwR := ⟨fun _ _ => (0, []), fun _ => ⟨0, [], 0, fun _ => (0, 0), 0, 0⟩, fun _ => (0, 0), fun _ _ => 0, fun _ _ => 0, fun _ _ => [], fun _ _ => [], fun _ _ => [], fun _ _ => [], fun _ _ _ _ _ _ => 0, fun _ _ _ _ _ => [], fun _ _ => 0, fun _ _ => 0⟩
def oneZ : Nat × Nat := (1065353216, 0)
noncomputable def eX (n : Int) : Nat → Nat × Nat := reX (flatX n oneZ)
noncomputable def eN (n : Int) : Int := cond (flatOK n oneZ) n 0
noncomputable def luL14 : List Item := ((lu11 R0 ⟨[], 0, 0⟩ 0 [] [] []).at [true, true]).todo ++ []
def l14 (n : Int) (xs r s w : List Int) (e : Int) (f : List Int) : List (Nat × AV) := [(3, .i false .i64 n), (4, .sl false 1 0 xs.length 1), (5, .sl false 2 0 r.length 1), (9, .sl false 4 0 s.length 1), (13, .sl false 6 0 w.length 1), (14, .i true .i64 0), (16, .i false .i64 e), (17, .sl false 8 0 f.length 1), (18, .i true .i64 0)]
def m14 : List Bool := lm7 [3, 4, 5, 9, 13, 14, 16, 17, 18]
def h14 (c : Cd) (xs r s w : List Int) (B : AB) (f : List Int) : List AB := h8T c xs r s ++ [qB w, B, qB f]
theorem lu11_ok (R : UwR) (c : Cd) (n : Int) (xs r s : List Int) : (condsP (lu11 R c n xs r s) [true, true], lfM m14 ((lu11 R c n xs r s).at [true, true])) =
    ([eqQ false (R.cm n r) 0, eqQ false (R.fc n xs (eN n) (eX n) 0 0) 0], true, luL14, (lt7 c (l14 n xs r s (R.wr n r) (flatC n oneZ) (R.fd n xs (eX n) 0 0))).map AV.bare,
      h14 c xs r s (R.wr n r) (.cells true (.lit (waveL (eN n) (flatX n oneZ)))) (R.fd n xs (eX n) 0 0), szQ xs ++ szQ r) := by kernel_rfl
noncomputable def lu14 (R : UwR) (c : Cd) (n : Int) (xs r s w : List Int) (e : Int) (B : AB) (f : List Int) : Res := lw R 0 atLoop luL14 (lt7 c (l14 n xs r s w e f)) (h14 c xs r s w B f)
noncomputable def laL : List Item := ((lu14 R0 ⟨[], 0, 0⟩ 0 [] [] [] [] 0 .dead []).at [false]).todo ++ []
noncomputable def laR : List Item := toLp laL
theorem laR_eq : toLp laR = laR := by kernel_rfl
def la (n : Int) (xs r s f : List Int) (b : Bool) (k : Int) : List (Nat × AV) := [(3, .i false .i64 n), (4, .sl false 1 0 xs.length 1), (5, .sl false 2 0 r.length 1), (9, .sl false 4 0 s.length 1), (17, .sl false 8 0 f.length 1), (19, .b false b), (20, .i false .i64 k)]
def lam : List Bool := lm7 [3, 4, 5, 9, 17, 19, 20]
noncomputable def laU (R : UwR) (c : Cd) (n : Int) (xs r s w : List Int) (B : AB) (f : List Int) (b : Bool) (k : Nat) : Res := lw R 0 atLoop laR (lt7 c (la n xs r s f b (Int.ofNat k))) (h14 c xs r s w B f)
noncomputable def lbL : List Item := ((laU R0 ⟨[], 0, 0⟩ 0 [] [] [] [] .dead [] true 0).at [false]).todo ++ []
noncomputable def lbR : List Item := toLp lbL
theorem lbR_eq : toLp lbR = lbR := by kernel_rfl
def lb7 (n : Int) (xs r f : List Int) (b : Bool) (k : Int) : List (Nat × AV) := [(3, .i false .i64 n), (4, .sl false 1 0 xs.length 1), (5, .sl false 2 0 r.length 1), (17, .sl false 8 0 f.length 1), (19, .b false b), (21, .i false .i64 k)]
def lbm : List Bool := lm7 [3, 4, 5, 17, 19, 21]
noncomputable def lbU (R : UwR) (c : Cd) (n : Int) (xs r s w : List Int) (B : AB) (f : List Int) (b : Bool) (k : Nat) : Res := lw R 0 (fun L => atLoop L || atReg 33 L) lbR (lt7 c (lb7 n xs r f b (Int.ofNat k))) (h14 c xs r s w B f)
end Go.Ax
