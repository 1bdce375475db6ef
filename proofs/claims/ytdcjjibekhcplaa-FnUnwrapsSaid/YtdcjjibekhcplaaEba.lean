/- spec.UnwrapFlood: what is out of use behind a visit. -/
import Derived.Test.YtdcjjibekhcplaaEaf
import Derived.Test.YtdcjjibekhcplaaEai
import Derived.Test.YtdcjjibekhcplaaEar
import Derived.Test.YtdcjjibekhcplaaEas
namespace Go.Ax
open Go Go.Proofs

/-- Memory behind a visit, without what is out of use. -/
def visZ (n : Int) (N : Nat) (x0 : Nat → Int) (X : Nat → Nat × Nat) (os : List Int) (M : Nat → Bool) (qs : List Int) (p to : Nat) : List AB :=
  sfH n N x0 X ++ (.cells true (.ints .i64 (os.set to (visV x0 os p to))) :: .cells true (.lit ((List.range N).map (visM M to))) :: [rowB, colB, .cells true (.ints .i64 (List.take (qs.length * 1) (List.drop 0 qs) ++ [Int.ofNat to]))])
def vkOf (b : Bool) : List Nat := cond b [7, 6] [7, 4]
section
variable (b : Bool) (x0 : Nat → Int) (X : Nat → Nat × Nat) (os : List Int) (M : Nat → Bool) (qs : List Int) (k : Int) (p i to q : Nat)
noncomputable def visD (n : Int) (N : Nat) : Bool × List AV × List AB := dropsT 1 (vkOf b) (siT b n N (.sl false 8 0 q 1) k p i) (visH b n N x0 X os M qs p to)
theorem vis_1 : visD b x0 X os M qs k p i to q 1 1 = (true, siT true 1 1 (.sl false 6 0 q 1) k p i, visZ 1 1 x0 X os M qs p to) := by cases b <;> kernel_rfl
theorem vis_2 : visD b x0 X os M qs k p i to q 2 4 = (true, siT true 2 4 (.sl false 6 0 q 1) k p i, visZ 2 4 x0 X os M qs p to) := by cases b <;> kernel_rfl
theorem vis_4 : visD b x0 X os M qs k p i to q 4 16 = (true, siT true 4 16 (.sl false 6 0 q 1) k p i, visZ 4 16 x0 X os M qs p to) := by cases b <;> kernel_rfl
theorem vis_8 : visD b x0 X os M qs k p i to q 8 64 = (true, siT true 8 64 (.sl false 6 0 q 1) k p i, visZ 8 64 x0 X os M qs p to) := by cases b <;> kernel_rfl
end
end Go.Ax

/- impl.UnwrapFlood: its beginning, evaluated for each side and place. -/
namespace Go.Ax
open Go Go.Proofs

noncomputable def uhC : Code := Try.f85.body.getD .skip
noncomputable def uhA (n : Int) (N : Nat) (x0 : Nat → Int) (X : Nat → Nat × Nat) (y x : Int) : Res := jupto Try.prog tabUf (atReg 8) 200 [.code uhC] (.i true .i64 n :: .sl true 0 0 N 1 :: wvT true n X :: .i true .i64 y :: .i true .i64 x :: undefs 188) (lb (zXL N x0))
noncomputable def uhL : List Item := ((uhA 1 1 (fun _ => 0) (fun _ => (0, 0)) 0 0).at [false, false]).todo
theorem uhL_eq : uhL = .code (.region 8 (opsOf uhL) true) :: tlOf uhL := by kernel_rfl
def uhT (n : Int) (N : Nat) (y x : Int) : List AV := tmpsOf 193 [(0, .i true .i64 n), (1, .sl true 0 0 N 1), (3, .i true .i64 y), (4, .i true .i64 x), (7, .p true 1 0)]
def uhM : List Bool := maskOf 193 [(0, .any), (1, .any), (3, .any), (4, .any), (7, .any)]
def uhMk (i : Nat) : Bool := Nat.beq i 3 || Nat.beq i 7
def uhCs (i : Nat) : Option Nat := match Nat.beq i 8 with
  | true => some 3
  | false => none
theorem uh_reg : (Nat.ble 9 (opsOf uhL).size && (drawOK (opsOf uhL) 9 && boxes5OK (opsOf uhL) 9 193 uhMk uhCs)) = true := by kernel_rfl
noncomputable def uhB (n : Int) (N : Nat) (x0 : Nat → Int) (X : Nat → Nat × Nat) (y x : Int) : Res := runC Try.prog tabUf uhMk (cpOf (opsOf uhL) uhCs) 0 ((opsOf uhL).toList.take 9) (uhT n N y x) (sfH n N x0 X) [] [] fun t Bs nd => runOps Try.prog tabUf (opsOf uhL) ((opsOf uhL).toList.drop 9) t (sfH n N x0 X ++ Bs.map (·.B)) nd fun t H nd => .stop [] t H nd
def uhT2 (n : Int) (N : Nat) (y x : Int) : List AV := tmpsOf 193 [(0, .i true .i64 n), (1, .sl true 0 0 N 1), (3, .i true .i64 y), (4, .i true .i64 x), (7, .p true 1 0), (13, .sl true 2 0 N 1), (14, .sl true 3 0 N 1)]
def uhM2 : List Bool := maskOf 193 [(0, .any), (1, .any), (3, .any), (4, .any), (7, .any), (13, .any), (14, .any)]
def uhH2 (n : Int) (N : Nat) (x0 : Nat → Int) (X : Nat → Nat × Nat) : List AB := sfH n N x0 X ++ [.cells true (.ints .i64 (List.replicate N 0)), .cells true (.lit (List.replicate N (.b true false)))]
noncomputable def uhD (n : Int) (N : Nat) (x0 : Nat → Int) (X : Nat → Nat × Nat) (y x : Int) : Res := cupto Try.prog tabUf atLoop 200 (tlOf uhL) (uhT2 n N y x) (uhH2 n N x0 X)
noncomputable def ugL : List Item := (uhD 1 1 (fun _ => 0) (fun _ => (0, 0)) 0 0).todo
noncomputable def ugR : List Item := toLp ugL
theorem ugR_eq : toLp ugR = ugR := by kernel_rfl
/-- The temporaries at the loops: the queue, and what else is told. -/
def ugTl (n : Int) (N : Nat) (s : AV) (l : List (Nat × AV)) : List AV := tmpsOf 193 ([(0, .i true .i64 n), (1, .sl true 0 0 N 1), (7, .p true 1 0), (13, .sl true 2 0 N 1), (14, .sl true 3 0 N 1), (15, s)] ++ l)
def ugM : List Bool := maskOf 193 [(0, .any), (1, .any), (7, .any), (13, .any), (14, .any), (15, .any)]
section
variable (m : Nat) (x0 : Nat → Int) (X : Nat → Nat × Nat) (p : Nat)
noncomputable def uhAr : Res := uhA m (m * m) x0 X ((p / m : Nat) : Int) ((p % m : Nat) : Int)
noncomputable def uhAG := (condsP (uhAr m x0 X p) [false, false], lfM uhM ((uhAr m x0 X p).at [false, false]), condsP (uhAr m x0 X p) [false, true], endOf Try.prog Try.f85.results.toList ((uhAr m x0 X p).at [false, true]))
noncomputable def uhAW : List Bool × (Bool × List Item × List AV × List AB × List Bool) × List Bool × Option (Option (List AV × List Bool) × List AB × List Bool) :=
  ([!bwC (wcZ m (zXL (m * m) x0)) m X, !swC (wcZ m (zXL (m * m) x0)) X p], (true, uhL, (uhT m (m * m) ((p / m : Nat) : Int) ((p % m : Nat) : Int)).map AV.bare, sfHt m (m * m) x0 X, [true, true, true]),
   [!bwC (wcZ m (zXL (m * m) x0)) m X, swC (wcZ m (zXL (m * m) x0)) X p], some (some ([.slnil, .i true .i64 5], []), sfHt m (m * m) x0 X, [true, true, true]))
noncomputable def uhBG := lfM uhM2 (uhB m (m * m) x0 X ((p / m : Nat) : Int) ((p % m : Nat) : Int))
noncomputable def uhBW : Bool × List Item × List AV × List AB × List Bool := (true, [], (uhT2 m (m * m) ((p / m : Nat) : Int) ((p % m : Nat) : Int)).map AV.bare, uhH2 m (m * m) x0 X, [])
noncomputable def uhDr : Res := uhD m (m * m) x0 X ((p / m : Nat) : Int) ((p % m : Nat) : Int)
noncomputable def uhDG := (condsP (uhDr m x0 X p) [], lfM ugM (uhDr m x0 X p))
def uhH0 : List AB := sfH m (m * m) x0 X ++ [.cells true (.ints .i64 (floodIni (m * m) x0 p)), litMet (m * m) p, .cells true (.lit [.i true .i64 ((p / m : Nat) : Int), .i true .i64 ((p % m : Nat) : Int)])]
noncomputable def uhDW : List Bool × Bool × List Item × List AV × List AB × List Bool := ([], true, ugL, (ugTl m (m * m) (.sl true 4 0 1 2) []).map AV.bare, uhH0 m x0 X p, [true, true])
end
section
variable (x0 : Nat → Int) (X : Nat → Nat × Nat)
theorem uhA_1 : (List.range 1).map (uhAG 1 x0 X) = (List.range 1).map (uhAW 1 x0 X) := by kernel_rfl
theorem uhA_2 : (List.range 4).map (uhAG 2 x0 X) = (List.range 4).map (uhAW 2 x0 X) := by kernel_rfl
theorem uhB_1 : (List.range 1).map (uhBG 1 x0 X) = (List.range 1).map (uhBW 1 x0 X) := by kernel_rfl
theorem uhB_2 : (List.range 4).map (uhBG 2 x0 X) = (List.range 4).map (uhBW 2 x0 X) := by kernel_rfl
theorem uhD_1 : (List.range 1).map (uhDG 1 x0 X) = (List.range 1).map (uhDW 1 x0 X) := by kernel_rfl
theorem uhD_2 : (List.range 4).map (uhDG 2 x0 X) = (List.range 4).map (uhDW 2 x0 X) := by kernel_rfl
end
end Go.Ax

/- append to a slice that begins inside its block: in place, or into a new array. -/
namespace Go.Ax
open Go

/-- Both ends of such an append: value and memory, twice, and what is to be shown. -/
def aAppO (P : Program) (ts : Array TypeId) (args : List AV) (H : List AB) : Option ((AV × List AB) × (AV × List AB) × List Bool) :=
  match ts[0]?, ts[1]?, args with
  | some t, some t', [.sl _ id off m z, x] =>
    match P.underlying t, P.underlying t' with
    | some (.slice e), some (.slice _) =>
      match P.info? e with
      | some i =>
        match zeroFits P e i.size && decide (0 < i.bytes) && decide (0 < i.size), sliceCells H i.size x, getB H id with
        | true, some (_, B, n, nb), .cells true A =>
          match B.okAll && !(slId x == some id) with
          | false => none
          | true => some ((.sl false H.length off (m + n) i.size, setB H id .dead ++ [.cells true (A.app (fitB P e A B))]),
              (.sl false H.length 0 (m + n) i.size, setB H id .dead ++ [.cells true ((A.sub off (m * i.size)).app (fitB P e A B))]),
              (decide (z = i.size) && decide (off + m * i.size = A.len) && decide ((2 * (m + n) + 1024) * i.bytes ≤ 2 ^ 48)) :: nb)
        | _, _, _ => none
      | none => none
    | _, _ => none
  | _, _, _ => none

section
variable {P : Program} {w : World} {σ : List (Nat × Nat)} {H : List AB}
theorem appO_out {ts : Array TypeId} {ty : TypeId} {args : List AV} {rargs : Array Value} {x1 x2 : AV × List AB} {nd : List Bool} (h : aAppO P ts args H = some (x1, x2, nd)) (hnd : allT nd = true) (s : Sim σ H w) (hr : RelL σ args rargs.toList) :
    ∃ rv w', (Builtin.append_ ts ty rargs).run P w = .ok rv w' ∧ (Out σ H w x1.1 x1.2 rv w' ∨ Out σ H w x2.1 x2.2 rv w') := by
  unfold aAppO at h
  split at h <;> try (cases h; done)
  rename_i t t' l id off m zz x ht ht'
  obtain ⟨rs, rx, hra, hs, hx⟩ := relL_two hr
  have hra' : rargs = #[rs, rx] := by rw [← Array.toArray_toList (xs := rargs), hra]
  subst hra'
  split at h <;> try (cases h; done)
  rename_i e e' hu hu'
  split at h <;> try (cases h; done)
  rename_i i hi
  split at h <;> try (cases h; done)
  rename_i lx B n nb A hfit hsc hg
  split at h <;> try (cases h; done)
  rename_i hokne
  simp only [Option.some.injEq, Prod.mk.injEq] at h
  obtain ⟨rfl, rfl, rfl⟩ := h
  simp only [Bool.and_eq_true, decide_eq_true_eq] at hfit hokne
  obtain ⟨⟨hfit, hbytes⟩, hsize0⟩ := hfit
  obtain ⟨hokall, _⟩ := hokne
  obtain ⟨z, hz, hzs⟩ : ∃ z, zeroA P e = some z ∧ (cellsA z).length = i.size := by
    unfold zeroFits at hfit
    cases hz : zeroA P e with
    | none => rw [hz] at hfit; cases hfit
    | some z => rw [hz] at hfit; exact ⟨z, rfl, by simpa using hfit⟩
  simp only [allT, Bool.and_eq_true, decide_eq_true_eq] at hnd
  obtain ⟨⟨⟨hzz, hmA⟩, hroom⟩, hnb⟩ := hnd
  cases hs with
  | slz => omega
  | sl hid hcap hz' =>
  subst hzz
  rename_i cap b c
  have hidl : id < H.length := by rw [← s.len]; exact isSome_lt hid
  obtain ⟨cs, hc1, hc2, hc3, hc4⟩ := slice_read (P := P) hsc hnb s hx
  have hf : RelL σ (fitB P e A B).toL cs := fitB_rel hc2
  generalize fitB P e A B = B1 at hf ⊢
  by_cases hle : m + n ≤ cap
  · have h0 := s.blk id b c hid
    rw [hg] at h0
    obtain ⟨cc, e0, fr, hw, hA, hcs, hfr⟩ := h0
    have hroom2 : off + m * i.size + n * i.size ≤ cc.size := by
      rw [hcs, Nat.add_assoc, ← Nat.add_mul]
      have : (m + n) * i.size ≤ cap * i.size := Nat.mul_le_mul_right _ hle
      omega
    obtain ⟨w', c', k1, k2, k3, k4, k5, k6, k7, k8, k9, k10⟩ := storeCells_raw (P := P) (hfr rfl) (vs := cs) (off + m * i.size) 0 hw (okAll_spec hokall hc2) (by omega)
    have hrun := append_place (P := P) (ty := ty) (off := off) (m := m) (cap := cap) ht ht' hu hu' hi hc4 (hc1 w rfl) hle k1
    have hrelA : RelA σ (A.app B1).toL c' := by
      rw [app_toL]
      intro j a ha
      rcases Nat.lt_or_ge j A.toL.length with hj | hj
      · rw [List.getElem?_append_left hj] at ha
        obtain ⟨y, hy, hry⟩ := hA j a ha
        rw [Cells.len_eq] at hj
        exact ⟨y, by rw [k9 j (by omega)]; exact hy, hry⟩
      · rw [List.getElem?_append_right hj] at ha
        obtain ⟨y, hy, hry⟩ := hf.get ha
        rw [Cells.len_eq] at hj hy
        have hjl : j - A.len < cs.length := by
          rcases Nat.lt_or_ge (j - A.len) cs.length with h' | h'
          · exact h'
          · rw [List.getElem?_eq_none h'] at hy; cases hy
        have := k10 (j - A.len) hjl
        rw [show off + m * i.size + 0 + (j - A.len) = j by omega] at this
        exact ⟨y, by rw [this]; exact hy, hry⟩
    have hgN : ∀ q, getB (setB H id .dead ++ [.cells true (A.app B1)]) q = if q = H.length then .cells true (A.app B1) else if q = id then .dead else getB H q := by
      intro q
      by_cases hq : q = H.length
      · rw [if_pos hq, hq, getB_append_right (by rw [setB_length]; exact Nat.le_refl _), setB_length, Nat.sub_self]; rfl
      · rw [if_neg hq]
        rcases Nat.lt_or_ge q H.length with h' | h'
        · rw [getB_append_left (by rw [setB_length]; exact h')]
          by_cases hqi : q = id
          · rw [if_pos hqi, hqi]; exact getB_setB_same hidl
          · rw [if_neg hqi]; exact getB_setB_ne (Ne.symm hqi)
        · rw [getB_none (by simp [setB_length]; omega), if_neg (by omega), getB_none h']
    refine ⟨_, w', hrun, .inl ⟨σ ++ [(b, c)], ?_, ⟨by simp [setB_length, s.len], fun q bq zq hq => ?_, fun p q bq z1 z2 hp hq hrw hlive => ?_⟩, ⟨k4, k5, k6, by omega, fun b' hb' hno => ?_, Ext.append _ _, fun q bq zq hq hn => ?_, fun q hq hrw => ?_⟩⟩⟩
    · exact .sl (b := b) (c := c) (by rw [← s.len]; simp) hle hz'
    · rw [hgN]
      rcases snoc_cases hq with ⟨hql, hq'⟩ | ⟨rfl, hq'⟩
      · rw [s.len] at hql
        rw [if_neg (by omega)]
        by_cases hqi : q = id
        · rw [if_pos hqi]; trivial
        · rw [if_neg hqi]
          have hb2 := (s.blk q bq zq hq').mono (Ext.append σ [(b, c)])
          cases hgq : getB H q with
          | dead => trivial
          | cells r C =>
            have hne' : bq ≠ b := fun e => hqi (s.inj id q b c zq hid (by rw [← e]; exact hq') (by rw [hg]; rfl) (by rw [hgq]; rfl)).symm
            rw [k8 bq hne', ← hgq]; exact hb2
          | code o0 xs0 =>
            have hne' : bq ≠ b := fun e => hqi (s.inj id q b c zq hid (by rw [← e]; exact hq') (by rw [hg]; rfl) (by rw [hgq]; rfl)).symm
            rw [k8 bq hne', ← hgq]; exact hb2
      · cases hq'
        rw [if_pos s.len]
        exact ⟨c', e0, fr, k2, hrelA.mono (Ext.append _ _), by omega, hfr⟩
    · rw [hgN] at hrw hlive
      rcases snoc_cases hp with ⟨hpl, hp'⟩ | ⟨rfl, hp'⟩ <;> rcases snoc_cases hq with ⟨hql, hq'⟩ | ⟨rfl, hq'⟩
      · rw [s.len] at hpl hql
        rw [if_neg (by omega)] at hrw hlive
        by_cases hpi : p = id
        · rw [if_pos hpi] at hrw; cases hrw
        · by_cases hqi : q = id
          · rw [if_pos hqi] at hlive; cases hlive
          · rw [if_neg hpi] at hrw; rw [if_neg hqi] at hlive
            exact s.inj p q bq z1 z2 hp' hq' hrw hlive
      · cases hq'
        rw [s.len] at hpl
        rw [if_neg (by omega)] at hrw
        by_cases hpi : p = id
        · rw [if_pos hpi] at hrw; cases hrw
        · rw [if_neg hpi] at hrw
          exact absurd (s.inj p id b z1 c hp' hid hrw (by rw [hg]; rfl)) hpi
      · cases hp'
        rw [s.len] at hql
        rw [if_neg (by omega)] at hlive
        by_cases hqi : q = id
        · rw [if_pos hqi] at hlive; cases hlive
        · rw [if_neg hqi] at hlive
          exact absurd (s.inj id q b c z2 hid hq' (by rw [hg]; rfl) hlive).symm hqi
      · rfl
    · exact k8 b' (fun e => hno id c (by rw [hg]; rfl) (by rw [hid, e]))
    · rcases snoc_cases hq with ⟨hql, hq'⟩ | ⟨rfl, hq'⟩
      · rw [hn] at hq'; cases hq'
      · cases hq'; exact .inr ⟨id, c, by rw [hg]; rfl, hid⟩
    · rw [hgN, if_neg (by rw [← s.len]; omega)] at hrw
      by_cases hqi : q = id
      · rw [if_pos hqi] at hrw; cases hrw
      · rwa [if_neg hqi] at hrw
  · have hch : ∃ nd, chk (l && A.isLit) (decide (off + m * i.size ≤ A.len)) = some nd ∧ allT nd = true := by
      rw [decide_eq_true (by omega)]
      cases (l && A.isLit)
      · exact ⟨_, rfl, rfl⟩
      · exact ⟨_, rfl, rfl⟩
    obtain ⟨nd0, hch1, hch2⟩ := hch
    have hsc0 : sliceCells H i.size (.sl l id off m i.size) = some (l, A.sub off (m * i.size), m, nd0) := by
      simp only [sliceCells, hg, hch1]
    obtain ⟨olds, hold, hol, holn, _⟩ := slice_read (P := P) hsc0 hch2 s (Rel.sl hid hcap hz')
    obtain ⟨nc, rest, g1, g2, g3⟩ := append_grow (ty := ty) (m := m) (cap := cap) ht ht' hu hu' hi hz hzs hbytes hc4 hc1 hold holn hc3 (by omega) hroom
    have sd : Sim σ (setB H id .dead) { w with drawn := w.drawn + 1 } := ((Same.drew w).sim s).kill id
    have fd : Fr σ H w σ (setB H id .dead) { w with drawn := w.drawn + 1 } := (Same.drew w).fr.trans (Fr.kill σ H _ id)
    have hrel : RelA σ ((A.sub off (m * i.size)).app B1).toL (olds.toArray ++ cs.toArray ++ rest) := by
      rw [app_toL]
      have := relA_more (rest := rest) (hol.append hf)
      simpa using this
    obtain ⟨σ', o1, o2, o3⟩ := new_out (l := false) (len := m + n) (cap := nc) (z := i.size) (e := e) sd hrel g1 (by rw [g2]; exact Nat.le_refl _)
    rw [setB_length] at o1
    exact ⟨_, _, g3, .inr ⟨σ', o1, o2, fd.trans o3⟩⟩
end

/-! ### From a place to one of several states -/
def ReachS (P : Program) (todo : List Item) (t : List AV) (H : List AB) (todo' : List Item) (S : List AV → List AB → Prop) : Prop :=
  ∀ (σ : List (Nat × Nat)) (w : World) (a : Act) (b : Frame) (cs : List Frame), Sim σ H w → RelL σ t a.tmps.toList → ∃ t' H', S t' H' ∧ ∃ a' w' σ', Steps P (lone (b.at a todo) cs w) (lone (b.at a' todo') cs w') ∧
    RelL σ' t' a'.tmps.toList ∧ a'.defers = a.defers ∧ Sim σ' H' w' ∧ Fr σ H w σ' H' w'
section
variable {P : Program} {T : Table}
theorem Reach.toS {todo todo' : List Item} {t t' : List AV} {H H' : List AB} {S : List AV → List AB → Prop} (h : Reach P todo t H todo' t' H') (hS : S t' H') : ReachS P todo t H todo' S := fun σ w a b cs s r =>
  ⟨t', H', hS, h σ w a b cs s r⟩
theorem ReachS.bind {todo todo1 todo' : List Item} {t : List AV} {H : List AB} {S1 S : List AV → List AB → Prop} (h : ReachS P todo t H todo1 S1) (k : ∀ t1 H1, S1 t1 H1 → ReachS P todo1 t1 H1 todo' S) : ReachS P todo t H todo' S := fun σ w a b cs s r =>
  let ⟨t1, H1, h1, a1, w1, σ1, e1, r1, d1, s1, f1⟩ := h σ w a b cs s r
  let ⟨t', H', h', a', w', σ', e', r', d', s', f'⟩ := k t1 H1 h1 σ1 w1 a1 b cs s1 r1
  ⟨t', H', h', a', w', σ', e1.trans e', r', d'.trans d1, s', f1.trans f'⟩
/-- One operation, to one of several states. -/
def OpS (P : Program) (ops : Array Oper) (k : Nat) (t : List AV) (H : List AB) (S : List AV → List AB → Prop) : Prop :=
  ∀ (σ : List (Nat × Nat)) (w : World) (a : Act) (Q : Exit → Act → World → Prop) (next : Act → World → Prop), Sim σ H w → RelL σ t a.tmps.toList →
    (∀ t' H', S t' H' → ∀ a' w' σ', RelL σ' t' a'.tmps.toList → a'.defers = a.defers → Sim σ' H' w' → Fr σ H w σ' H' w' → next a' w') → wpOp P ops Q k next a w
theorem appO_op {ops : Array Oper} {k : Nat} {o : Oper} {args : Array Operand} {ts : Array TypeId} {t : List AV} {H : List AB} {x1 x2 : AV × List AB} {nd : List Bool} (ho : ops[k]? = some o) (hg : o.guard = none) (hop : o.op = .call { callee := .builtin .append, args := args, argTypes := ts })
    (hok : o.op.operands.all okOpd = true) (h : aAppO P ts (args.toList.map (evA t)) H = some (x1, x2, nd)) (hnd : allT nd = true) :
    OpS P ops k t H fun t' H' => (t' = putT t o.dst x1.1 ∧ H' = x1.2) ∨ (t' = putT t o.dst x2.1 ∧ H' = x2.2) := fun σ w a Q next s r q => by
  have hw : Region.wanted o (yielded ops a.tmps) = true := by simp [Region.wanted, hg]
  simp only [wpOp, ho, hw, if_true]
  refine .inl ?_
  have hr := opds_ok hok r
  have h1 : RelL σ (args.toList.map (evA t)) (args.map a.eval).toList := by
    rw [Array.toList_map]; exact relL_map _ fun x hx => hr x (by simp [hop, Op.operands, Call.operands]; simpa using hx)
  obtain ⟨rv, w', e1, e2⟩ := appO_out (ty := o.type) h hnd s h1
  show o.upon P a next Q ((execOp a.eval o).run P w)
  have e3 : (execOp a.eval o).run P w = .ok (.value rv) w' := by simp [execOp, hop, resolve, invoke, builtin, e1]
  rw [e3]
  rcases e2 with ⟨σ', e2, e4, e5⟩ | ⟨σ', e2, e4, e5⟩
  · exact q _ _ (.inl ⟨rfl, rfl⟩) _ _ σ' (RelL.put (RelL.mono e5.ext r) e2) (put_defers _ _ _) e4 e5
  · exact q _ _ (.inr ⟨rfl, rfl⟩) _ _ σ' (RelL.put (RelL.mono e5.ext r) e2) (put_defers _ _ _) e4 e5

/-- Some operations in the text's order, from a place in the region. -/
theorem runOps_part {ops : Array Oper} (hT : SoundT P T) (K : KT) : ∀ (l rest : List Oper) (k : Nat) (t : List AV) (H : List AB) (nd : List Bool), l ++ rest = ops.toList.drop k → k ≤ ops.size → (runOps P T ops l t H nd K).sel = .fail ∨
    ∃ t' H' nd', (runOps P T ops l t H nd K).sel = (K t' H' nd').sel ∧ (allT nd' = true → allT nd = true ∧ Chain P ops k t H (k + l.length) t' H')
  | [], _, k, t, H, nd, _, _ => .inr ⟨t, H, nd, rfl, fun h => ⟨h, .nil⟩⟩
  | o :: l, rest, k, t, H, nd, hl, hk => by
    obtain ⟨ho, hrest⟩ := drop_cons hl
    have ho' : ops[k]? = some o := by simpa using ho
    have hks : k < ops.size := (Array.getElem?_eq_some_iff.1 ho').1
    have hlen : k + (o :: l).length = k + 1 + l.length := by simp; omega
    rw [runOps, hlen]
    rcases guarded_sound (ops := ops) (o := o) (t := t) (yes := fun t => stepOp P T o t H nd fun t H nd => runOps P T ops l t H nd K)
        (no := fun t => runOps P T ops l (putT t o.dst (.tup [])) H nd K) with h | ⟨t1, he, ⟨h, hw⟩ | ⟨h, hw⟩⟩
    · exact .inl h
    · rw [h]
      rcases stepOp_sound (H := H) hT o t1 nd (fun t H nd => runOps P T ops l t H nd K) with h2 | ⟨t2, H2, nd2, h2, h3⟩
      · exact .inl h2
      rw [h2]
      rcases runOps_part hT K l rest (k + 1) t2 H2 nd2 hrest hks with h4 | ⟨t', H', nd', h4, h5⟩
      · exact .inl h4
      refine .inr ⟨t', H', nd', h4, fun hn => ?_⟩
      obtain ⟨h6, h7⟩ := h5 hn
      obtain ⟨h8, h9⟩ := h3 h6
      refine ⟨h8, .cons ?_ h7⟩
      intro σ w a Q next s r q
      simp only [wpOp, ho', hw σ a.tmps (relL_looks r o), if_true]
      exact .inl (h9 σ w a Q next s (he.relL r) q)
    · rw [h]
      rcases runOps_part hT K l rest (k + 1) (putT t1 o.dst (.tup [])) H nd hrest hks with h4 | ⟨t', H', nd', h4, h5⟩
      · exact .inl h4
      refine .inr ⟨t', H', nd', h4, fun hn => ?_⟩
      obtain ⟨h6, h7⟩ := h5 hn
      refine ⟨h6, .cons ?_ h7⟩
      intro σ w a Q next s r q
      simp only [wpOp, ho', hw σ a.tmps (relL_looks r o)]
      exact q _ w σ ((he.relL r).put (.tup .nil)) (put_defers _ _ _) s (Fr.refl _ _ _)
theorem wpOpsK {ops : Array Oper} {k j : Nat} {t t' : List AV} {H H' : List AB} (c : Chain P ops k t H j t' H') (L : List Nat) :
    ∀ {σ : List (Nat × Nat)} {w : World} {a : Act} {Q : Exit → Act → World → Prop}, Sim σ H w → RelL σ t a.tmps.toList →
      (∀ a' w' σ', RelL σ' t' a'.tmps.toList → a'.defers = a.defers → Sim σ' H' w' → Fr σ H w σ' H' w' → Go.wpOps P ops Q L a' w') →
      Go.wpOps P ops Q (List.range' k (j - k) ++ L) a w := by
  induction c with
  | nil =>
    intro σ w a Q s r q
    rw [Nat.sub_self]
    exact q a w σ r rfl s (Fr.refl _ _ _)
  | @cons k j t t1 t' H H1 H' h c ih =>
    intro σ w a Q s r q
    have hle := c.le
    have : j - k = (j - (k + 1)) + 1 := by omega
    rw [this, List.range'_succ, List.cons_append, wpOps_cons]
    refine h σ w a Q _ s r fun a1 w1 σ1 r1 d1 s1 f1 => ?_
    exact ih s1 r1 fun a2 w2 σ2 r2 d2 s2 f2 => q a2 w2 σ2 r2 (d2.trans d1) s2 (f1.trans f2)
end
end Go.Ax

/- Regions in order with one operation that comes to one of several states; a slice cut at its beginning. -/
namespace Go.Ax
open Go

section
variable {P : Program} {T : Table}
theorem regionS {ops : Array Oper} {id k : Nat} {todo : List Item} {t t1 : List AV} {H H1 : List AB} {n1 : List Bool} {S S' : List AV → List AB → Prop} (hT : SoundT P T) (hk : k < ops.size)
    (hpre : (runOps P T ops (ops.toList.take k) t H [] fun t H nd => .stop [] t H nd) = .stop [] t1 H1 n1) (hn1 : allT n1 = true) (hop : OpS P ops k t1 H1 S)
    (hpost : ∀ t2 H2, S t2 H2 → ∃ t3 H3 n3, (runOps P T ops (ops.toList.drop (k + 1)) t2 H2 [] fun t H nd => .stop [] t H nd) = .stop [] t3 H3 n3 ∧ allT n3 = true ∧ S' t3 H3) :
    ReachS P (.code (.region id ops false) :: todo) t H todo S' := by
  have ch : ∀ {l rest : List Oper} {k : Nat} {t t' : List AV} {H H' : List AB} {n : List Bool}, l ++ rest = ops.toList.drop k → k ≤ ops.size → (runOps P T ops l t H [] fun t H nd => .stop [] t H nd) = .stop [] t' H' n → allT n = true → Chain P ops k t H (k + l.length) t' H' := by
    intro l rest k t t' H H' n hl hk hrun hn
    rcases runOps_part (ops := ops) hT (fun t H nd => .stop [] t H nd) l rest k t H [] hl hk with h | ⟨t2, H2, nd2, h2, h3⟩
    · rw [hrun] at h; cases h
    · rw [hrun] at h2
      simp only [Res.sel] at h2
      cases h2
      exact (h3 hn).2
  have c0 := ch (l := ops.toList.take k) (rest := ops.toList.drop k) (k := 0) (by simp) (Nat.zero_le _) hpre hn1
  have el : (ops.toList.take k).length = k := by simp; omega
  rw [el, Nat.zero_add] at c0
  have el2 : k + 1 + (ops.toList.drop (k + 1)).length = ops.size := by simp; omega
  intro σ w a b cs s r
  have hwp : (Code.region id ops false).wp P (fun e a1 w1 => e = .normal ∧ ∃ t' H', S' t' H' ∧ ∃ σ1, RelL σ1 t' a1.tmps.toList ∧ a1.defers = a.defers ∧ Sim σ1 H' w1 ∧ Fr σ H w σ1 H' w1) a w := by
    refine wp_region ?_
    have e0 : List.range ops.size = List.range' 0 (k - 0) ++ (k :: List.range' (k + 1) (ops.size - (k + 1))) := by
      have e1 := @List.range'_append_1 0 k (ops.size - (k + 1) + 1)
      rw [Nat.zero_add] at e1
      rw [List.range_eq_range', Nat.sub_zero, ← List.range'_succ, e1]
      congr 1
      omega
    rw [e0]
    refine wpOpsK c0 _ s r fun a1 w1 σ1 r1 d1 s1 f1 => ?_
    rw [wpOps_cons]
    refine hop σ1 w1 a1 _ _ s1 r1 fun t2 H2 hS a2 w2 σ2 r2 d2 s2 f2 => ?_
    obtain ⟨t3, H3, n3, hrun, hn3, hS'⟩ := hpost t2 H2 hS
    have cA := ch (l := ops.toList.drop (k + 1)) (rest := []) (k := k + 1) (by simp) hk hrun hn3
    rw [el2] at cA
    exact cA.wpOps s2 r2 fun a3 w3 σ3 r3 d3 s3 f3 => ⟨rfl, _, _, hS', σ3, r3, d3.trans (d2.trans d1), s3, f1.trans (f2.trans f3)⟩
  obtain ⟨e, a1, w1, ⟨he, t', H', hS, σ1, r1, d1, s1, f1⟩, harr⟩ := hwp b todo cs
  subst he
  exact ⟨t', H', hS, a1, w1, σ1, harr, r1, d1, s1, f1⟩
theorem lfM_run {M : List Bool} {r : Res} {t' : List AV} {H' : List AB} {nd : List Bool} (h : lfM M r = (true, [], t'.map AV.bare, H', nd)) : ∃ t3, r = .stop [] t3 H' nd ∧ Eqv t3 t' := by
  simp only [lfM, Prod.mk.injEq] at h
  obtain ⟨a1, a2, a3, a4, a5⟩ := h
  refine ⟨r.tOf, ?_, (blur_eqv M _).trans (eqv_of_bare a3)⟩
  conv => lhs; rw [Res.isStop_eq a1]
  rw [a2, a4, a5]
theorem ReachS.weak {todo todo' : List Item} {t : List AV} {H : List AB} {S S' : List AV → List AB → Prop} (h : ReachS P todo t H todo' S) (k : ∀ t1 H1, S t1 H1 → ∃ t', Eqv t1 t' ∧ S' t' H1) : ReachS P todo t H todo' S' := fun σ w a b cs s r =>
  let ⟨t1, H1, h1, a1, w1, σ1, e1, r1, d1, s1, f1⟩ := h σ w a b cs s r
  let ⟨t', e, hS⟩ := k t1 H1 h1
  ⟨t', H1, hS, a1, w1, σ1, e1, e.relL r1, d1, s1, f1⟩
theorem ReachS.mono {todo todo' : List Item} {t : List AV} {H : List AB} {S S' : List AV → List AB → Prop} (h : ReachS P todo t H todo' S) (k : ∀ t1 H1, S t1 H1 → S' t1 H1) : ReachS P todo t H todo' S' := fun σ w a b cs s r =>
  let ⟨t1, H1, h1, x⟩ := h σ w a b cs s r
  ⟨t1, H1, k _ _ h1, x⟩
theorem Reach.bindS {todo todo1 todo' : List Item} {t t1 : List AV} {H H1 : List AB} {S : List AV → List AB → Prop} (h : Reach P todo t H todo1 t1 H1) (k : ReachS P todo1 t1 H1 todo' S) : ReachS P todo t H todo' S := fun σ w a b cs s r =>
  let ⟨a1, w1, σ1, e1, r1, d1, s1, f1⟩ := h σ w a b cs s r
  let ⟨t', H', h', a', w', σ', e', r', d', s', f'⟩ := k σ1 w1 a1 b cs s1 r1
  ⟨t', H', h', a', w', σ', e1.trans e', r', d'.trans d1, s', f1.trans f'⟩
/-- Blocks dropped of each state. -/
theorem ReachS.drops {todo todo' : List Item} {t : List AV} {H : List AB} {S S' : List AV → List AB → Prop} (h : ReachS P todo t H todo' S) (k : ∀ t1 H1, S t1 H1 → ∃ ks t2 H2, dropsT H.length ks t1 H1 = (true, t2, H2) ∧ S' t2 H2) : ReachS P todo t H todo' S' := fun σ w a b cs s r => by
  obtain ⟨t1, H1, h1, a1, w1, σ1, e1, r1, d1, s1, f1⟩ := h σ w a b cs s r
  obtain ⟨ks, t2, H2, hd, hS⟩ := k t1 H1 h1
  have key : ∀ (ks : List Nat) (t1 : List AV) (H1 : List AB) (σ1 : List (Nat × Nat)), RelL σ1 t1 a1.tmps.toList → Sim σ1 H1 w1 → Fr σ H w σ1 H1 w1 → dropsT H.length ks t1 H1 = (true, t2, H2) → ∃ σ2, RelL σ2 t2 a1.tmps.toList ∧ Sim σ2 H2 w1 ∧ Fr σ H w σ2 H2 w1 := by
    intro ks
    induction ks with
    | nil => intro t1 H1 σ1 r1 s1 f1 e; cases e; exact ⟨σ1, r1, s1, f1⟩
    | cons k ks ih =>
      intro t1 H1 σ1 r1 s1 f1 e
      simp only [dropsT] at e
      split at e
      · rename_i hb
        rw [Bool.and_eq_true] at hb
        obtain ⟨s2, f2⟩ := drop_sim s.len s1 f1 k (Nat.le_of_ble_eq_true hb.1) (blt_true hb.2)
        exact ih _ _ _ (renL_rel r1) s2 f2 e
      · cases e
  obtain ⟨σ2, r2, s2, f2⟩ := key ks t1 H1 σ1 r1 s1 f1 hd
  exact ⟨t2, H2, hS, a1, w1, σ2, e1, r2, d1, s2, f2⟩
/-- A slice without its first elements: where none are left, it may hold room for none. -/
theorem sliceO_op {ops : Array Oper} {k : Nat} {o : Oper} {ty e : TypeId} {x : Operand} {t : List AV} {H : List AB} {l : Bool} {id off len z a : Nat} (ho : ops[k]? = some o) (hg : o.guard = none) (hop : o.op = .slice ty x (some (.const (.int .i64 (a : Int)))) none none)
    (hok : okOpd x = true) (hx : evA t x = .sl l id off len z) (hu : P.underlying ty = some (.slice e)) (hn : szA P e = some z) (hle : a ≤ len) (hz0 : 0 < z) :
    OpS P ops k t H fun t' H' => (t' = putT t o.dst (.sl false id (off + a * z) (len - a) z) ∧ H' = H) ∨ (len = a ∧ t' = putT t o.dst .sle ∧ H' = H) := fun σ w ac Q next s r q => by
  have hw : Region.wanted o (yielded ops ac.tmps) = true := by simp [Region.wanted, hg]
  simp only [wpOp, ho, hw, if_true]
  refine .inl ?_
  have hr := evA_rel r hok
  rw [hx] at hr
  show o.upon P ac next Q ((execOp ac.eval o).run P w)
  generalize hv : ac.eval x = v at hr
  cases hr with
  | slz => omega
  | sl hid hcap hz =>
  rename_i cap b c
  have hrun : (execOp ac.eval o).run P w = .ok (.value (.slice (if cap = a then some ⟨b, off, none⟩ else (some ⟨b, off, none⟩ : Option Addr).map (·.add (a * z))) (len - a) (cap - a))) w := by
    have hlo : RelO σ (some (.i true .i64 (a : Int))) (some (.int .i64 (a : Int))) := .i _ _
    have hb := run_bounds (P := P) (w := w) (σ := σ) (isS := true) (len := len) (cap := cap) (lo := some (.i true .i64 (a : Int))) (hi := none) (rlo := some (.int .i64 (a : Int))) (rhi := none) (la := true) (lb := true) (a := a) (b := len) (na := true) (nb := true) (by simp [bound]) (by simp [bound]) rfl rfl hle (Nat.le_refl _) hcap hlo trivial
    simp only [execOp, hop]
    have e2 : ac.eval (.const (.int .i64 (a : Int))) = .int .i64 (a : Int) := rfl
    simp only [Option.map_some, Option.map_none, hv, e2]
    simp only [Instr.sliceAt, Instr.slice, Sem.run_bind, run_underlyingA hu, Result.andThen_ok, hb, run_sizeOfA hn, Sem.run_pure]
    rfl
  rw [hrun]
  by_cases hca : cap = a
  · have hla : len = a := by omega
    rw [if_pos hca]
    have e1 : len - a = 0 := by omega
    have e2 : cap - a = 0 := by omega
    rw [e1, e2]
    exact q _ _ (.inr ⟨hla, rfl, rfl⟩) _ _ σ (r.put .sle) (put_defers _ _ _) s (Fr.refl _ _ _)
  · rw [if_neg hca]
    refine q _ _ (.inl ⟨rfl, rfl⟩) _ _ σ (r.put ?_) (put_defers _ _ _) s (Fr.refl _ _ _)
    simp only [Option.map_some, addr_add]
    refine Rel.sl hid (by omega) ?_
    rw [Nat.add_assoc, ← Nat.add_mul]
    have e3 : a + (cap - a) = cap := by omega
    rw [e3]; exact hz
end
end Go.Ax
