/- A call with a source that gives a number and a new list, seen from any memory. -/
import Derived.Test.YtdcjjibekhcplaaEae
import Derived.Test.YtdcjjibekhcplaaEaf
import Derived.Test.YtdcjjibekhcplaaEai
import Derived.Test.YtdcjjibekhcplaaEaj
namespace Go.Ax
open Go Go.Proofs

theorem ints_free {σ τ : List (Nat × Nat)} {r : Bool} {k : IntKind} {xs : List Int} {z : Nat} {o : Option Obj} (h : BlkRel σ z (.cells r (.ints k xs)) o) : BlkRel τ z (.cells r (.ints k xs)) o := by
  obtain ⟨c, e, fr, h1, h2, h3, h4⟩ := h
  refine ⟨c, e, fr, h1, fun j a ha => ?_, h3, h4⟩
  obtain ⟨v, hv, hr⟩ := h2 j a ha
  refine ⟨v, hv, below_free ?_ hr⟩
  simp only [Cells.toL, List.getElem?_map, Option.map_eq_some_iff] at ha
  obtain ⟨y, _, rfl⟩ := ha
  rfl
theorem CallOK.src2 {P : Program} {f : FuncId} {sc : List AV} {c : Cd} {a a' : Nat} {h h' m : Int} {r : Bool} {kd : IntKind} {xs : List Int} {n : Nat} (k : CallOK P f (.p true 1 0 :: sc) [codeB c false, srcB c a h] (.tup [.i false .i64 m, .sl false 2 0 n 1]) [codeB c false, srcB c a' h', .cells r (.ints kd xs)])
    (hsc : belowL 0 sc = true) {l : Bool} {id : Nat} {H : List AB} (hc : readCode (getB H 0) = some (c.off, c.bytes)) (h0 : id ≠ 0) (hid : readSrc (getB H id) = some (c.off, c.len, a, h)) :
    CallOK P f (.p l id 0 :: sc) H (.tup [.i false .i64 m, .sl false H.length 0 n 1]) (setB H id (srcB c a' h') ++ [.cells r (.ints kd xs)]) := fun σ w rargs s hra => by
  have hc := readCode_spec hc
  obtain ⟨l1, l2, l3, hid⟩ := readSrc_spec hid
  have hl0 : 0 < H.length := by
    rcases Nat.eq_zero_or_pos H.length with h | h
    · rw [getB_none (by omega)] at hc; cases hc
    · exact h
  have hlid : id < H.length := by
    rcases Nat.lt_or_ge id H.length with h | h
    · exact h
    · rw [getB_none h] at hid; cases hid
  obtain ⟨⟨b0, z0⟩, hσ0⟩ : ∃ b, σ[0]? = some b := ⟨_, List.getElem?_eq_getElem (by rw [s.len]; exact hl0)⟩
  obtain ⟨⟨b1, z1⟩, hσ1⟩ : ∃ b, σ[id]? = some b := ⟨_, List.getElem?_eq_getElem (by rw [s.len]; exact hlid)⟩
  have hne : b1 ≠ b0 := fun e => h0 (s.inj id 0 b0 z1 z0 (by rw [← e]; exact hσ1) hσ0 (by rw [hid]; rfl) (by rw [hc]; rfl))
  have hb0 := s.blk 0 b0 z0 hσ0
  have hb1 := s.blk id b1 z1 hσ1
  rw [hc] at hb0
  rw [hid] at hb1
  obtain ⟨c1, e1, f1, q1, q2, q3, q4⟩ := hb1
  have hx0 : ∀ v', Rel σ (.sl l1 0 c.off c.len 0) v' → Rel [(b0, z0), (b1, z1)] (.sl false 0 c.off c.len 0) v' := fun v' hr => by
    rcases sl_cases hr with ⟨g1, g2, _, _, rfl⟩ | ⟨_, _, _, g1, g2, g3, rfl⟩
    · exact slz_of g1 g2
    rw [hσ0] at g1; cases g1
    exact .sl (by rfl) g2 g3
  have s2 : Sim [(b0, z0), (b1, z1)] [codeB c false, srcB c a h] w := by
    refine ⟨rfl, fun i b z hb => ?_, fun i j b z z' hi hj hr hl => ?_⟩
    · match i, hb with
      | 0, hb =>
        cases hb
        exact hb0
      | 1, hb =>
        cases hb
        refine ⟨c1, e1, f1, q1, fun j x hx => ?_, q3, q4⟩
        match j, hx with
        | 0, hx => obtain ⟨v', hv', hr'⟩ := q2 0 _ rfl; cases hx; exact ⟨v', hv', hx0 v' hr'⟩
        | 1, hx => obtain ⟨v', hv', hr'⟩ := q2 1 _ rfl; cases hx; cases hr'; exact ⟨_, hv', .i _ _⟩
        | 2, hx => obtain ⟨v', hv', hr'⟩ := q2 2 _ rfl; cases hx; cases hr'; exact ⟨_, hv', .i _ _⟩
        | j + 3, hx => simp [Cells.toL] at hx
      | i + 2, hb => simp at hb
    · match i, j, hi, hj with
      | 0, 0, hi, hj => rfl
      | 1, 1, hi, hj => rfl
      | 0, 1, hi, hj => cases hi; cases hj; exact absurd rfl hne
      | 1, 0, hi, hj => cases hi; cases hj; exact absurd rfl hne
      | i + 2, _, hi, _ => simp at hi
      | _, j + 2, _, hj => simp at hj
  have hσe : ∀ {x : AV} {y : Value}, below 0 x = true → Rel σ x y → Rel [] x y := fun {x y} hx hr => below_rel (τ := σ) (fun i b hb => by simp at hb) rfl hx hr
  have hσL : ∀ {x : List AV} {y : List Value}, belowL 0 x = true → RelL σ x y → RelL [] x y := fun {x y} hx hr => belowL_rel (τ := σ) (fun i b hb => by simp at hb) rfl hx hr
  generalize hal : rargs.toList = ral at hra
  cases hra with | @cons _ pv _ rsc hp hrs =>
  cases hp with | @p _ _ _ bb cc hpp =>
  rw [hσ1] at hpp
  cases hpp
  have hE : ∀ τ : List (Nat × Nat), Ext [] τ := fun τ i b hb => by simp at hb
  have hra2 : RelL [(b0, z0), (b1, z1)] (.p true 1 0 :: sc) rargs.toList := by
    rw [hal]
    exact .cons (.p (by rfl)) (RelL.mono (hE _) (hσL hsc hrs))
  refine (k _ w rargs s2 hra2).mono ?_
  rintro e w' ⟨rv, rfl, σ', r1, s1, F⟩
  have hold : ∀ b, b < w.heap.size → b ≠ b1 → w'.heap[b]? = w.heap[b]? := fun b hb hbn => F.old b hb fun i z hrw hi => by
    match i, hi with
    | 0, _ => simp [getB, codeB, AB.rw] at hrw
    | 1, hi => cases hi; exact hbn rfl
    | i + 2, hi => simp at hi
  have hσ'0 : σ'[0]? = some (b0, z0) := F.ext 0 _ rfl
  have hσ'1 : σ'[1]? = some (b1, z1) := F.ext 1 _ rfl
  have hl3 : σ'.length = 3 := s1.len
  obtain ⟨⟨b2, z2⟩, hσ'2⟩ : ∃ b, σ'[2]? = some b := ⟨_, List.getElem?_eq_getElem (by omega)⟩
  have hge : w.heap.size ≤ b2 := by
    rcases F.new 2 b2 z2 hσ'2 rfl with h' | ⟨j, z', hj, hjb⟩
    · exact h'
    · match j, hjb with
      | 0, _ => simp [getB, codeB, AB.rw] at hj
      | 1, hjb =>
        cases hjb
        have := s1.inj 1 2 b1 z1 z2 hσ'1 hσ'2 rfl rfl
        omega
      | j + 2, hjb => simp at hjb
  have hn1 := s1.blk 1 b1 z1 hσ'1
  obtain ⟨c2, e2, f2, t1, t2, t3, t4⟩ := hn1
  have hn2 : BlkRel σ' z2 (.cells r (.ints kd xs)) w'.heap[b2]? := s1.blk 2 b2 z2 hσ'2
  have hlen := s.len
  have hsl : (setB H id (srcB c a' h')).length = H.length := setB_length _ _ _
  refine ⟨rv, rfl, σ ++ [(b2, z2)], ?_, ?_, ?_⟩
  · cases r1 with | tup hr =>
    generalize hal2 : Array.toList _ = al at hr
    cases hr with | cons r1 hr => cases hr with | cons r2 hr => cases hr with | nil =>
    refine .tup ?_
    rw [hal2]
    refine .cons (by cases r1; exact .i _ _) (.cons ?_ .nil)
    cases r2 with
    | sl g1 g2 g3 =>
      rw [hσ'2] at g1
      cases g1
      refine .sl ?_ g2 g3
      rw [List.getElem?_append_right (by omega), hlen, Nat.sub_self]; rfl
  · refine ⟨by simp [hsl, hlen], fun i b z hb => ?_, fun i j b z z' hi hj hr hl => ?_⟩
    · rcases snoc_cases hb with ⟨hi, hb⟩ | ⟨rfl, hb'⟩
      · rw [getB_append_left (by omega)]
        by_cases hii : id = i
        · subst hii
          rw [hσ1] at hb; cases hb
          rw [getB_setB_same hlid]
          refine ⟨c2, e2, f2, t1, fun j x hx => ?_, t3, t4⟩
          match j, hx with
          | 0, hx =>
            obtain ⟨v', hv', hr'⟩ := t2 0 _ rfl
            cases hx
            rcases sl_cases hr' with ⟨g1, g2, _, _, rfl⟩ | ⟨_, _, _, g1, g2, g3, rfl⟩
            · exact ⟨_, hv', slz_of g1 g2⟩
            rw [hσ'0] at g1; cases g1
            exact ⟨_, hv', .sl (by rw [List.getElem?_append_left (by omega)]; exact hσ0) g2 g3⟩
          | 1, hx => obtain ⟨v', hv', hr'⟩ := t2 1 _ rfl; cases hx; cases hr'; exact ⟨_, hv', .i _ _⟩
          | 2, hx => obtain ⟨v', hv', hr'⟩ := t2 2 _ rfl; cases hx; cases hr'; exact ⟨_, hv', .i _ _⟩
          | j + 3, hx => simp [Cells.toL] at hx
        · rw [getB_setB_ne hii]
          have hbi := (s.blk i b z hb).mono (Ext.append σ [(b2, z2)])
          cases hg : getB H i with
          | dead => trivial
          | cells r2 A =>
            rw [hg] at hbi
            have hlt := s.lt hb (by rw [hg]; rfl)
            have hbn : b ≠ b1 := fun e => hii (s.inj id i b z1 z (by rw [e]; exact hσ1) hb (by rw [hid]; rfl) (by rw [hg]; rfl))
            rw [hold b hlt hbn]; exact hbi
          | code o0 xs0 =>
            rw [hg] at hbi
            have hlt := s.lt hb (by rw [hg]; rfl)
            have hbn : b ≠ b1 := fun e => hii (s.inj id i b z1 z (by rw [e]; exact hσ1) hb (by rw [hid]; rfl) (by rw [hg]; rfl))
            rw [hold b hlt hbn]; exact hbi
      · cases hb'
        rw [getB_append_right (by omega), hsl, hlen, Nat.sub_self]
        exact ints_free hn2
    · have key : ∀ k, k < H.length → (getB (setB H id (srcB c a' h') ++ [.cells r (.ints kd xs)]) k).rw = (getB H k).rw ∧ (getB (setB H id (srcB c a' h') ++ [.cells r (.ints kd xs)]) k).live = (getB H k).live := fun k hk => by
        rw [getB_append_left (by omega)]
        by_cases hik : id = k
        · subst hik; rw [getB_setB_same hlid, hid]; exact ⟨rfl, rfl⟩
        · rw [getB_setB_ne hik]; exact ⟨rfl, rfl⟩
      rcases snoc_cases hi with ⟨hi1, hi2⟩ | ⟨rfl, hi2⟩
      · rw [(key i (by omega)).1] at hr
        rcases snoc_cases hj with ⟨hj1, hj2⟩ | ⟨rfl, hj2⟩
        · rw [(key j (by omega)).2] at hl
          exact s.inj i j b z z' hi2 hj2 hr hl
        · cases hj2
          have := s.lt hi2 (rw_live hr)
          omega
      · rcases snoc_cases hj with ⟨hj1, hj2⟩ | ⟨rfl, hj2⟩
        · rw [(key j (by omega)).2] at hl
          cases hi2
          have := s.lt hj2 hl
          omega
        · rfl
  · refine ⟨F.os, F.tape, F.output, F.size, fun b hb hno => hold b hb fun e => hno id z1 (by rw [hid]; rfl) (by rw [e]; exact hσ1), Ext.append _ _, fun i b z h1 h2 => ?_, fun i hi hr => ?_⟩
    · rcases snoc_cases h1 with ⟨hi1, hi2⟩ | ⟨rfl, hi2⟩
      · rw [h2] at hi2; cases hi2
      · cases hi2; exact .inl hge
    · rw [getB_append_left (by omega)] at hr
      by_cases hii : id = i
      · subst hii; rw [hid]; rfl
      · rwa [getB_setB_ne hii] at hr
end Go.Ax

/- spec.DrawUnwrapRows and DrawSlopesOf: some number and some list. -/
namespace Go.Ax
open Go Go.Proofs

structure MapR where
  n : Int
  xs : List Int
  a : Nat
  h : Int
def MapOK (c : Cd) (w : Bool) (a : Nat) (h : Int) (r : MapR) : Prop := (r.xs.length ≤ 65 ∧ r.n ∈ mpNs) ∧ CallOK Try.prog 171 (mpAs w) (mpH2 c a h) (.tup [.i false .i64 r.n, .sl false 2 0 r.xs.length 1]) (mpH c r.a r.h r.xs)
noncomputable def hmapV (c : Cd) (w : Bool) (a : Nat) (h : Int) : MapR := open Classical in if hx : ∃ r, MapOK c w a h r then hx.choose else ⟨0, [], 0, 0⟩
theorem hmapV_ok {c : Cd} (hc : goodB c = true) (w : Bool) (a : Nat) (h : Int) : MapOK c w a h (hmapV c w a h) := by
  have hx : ∃ r, MapOK c w a h r := by
    obtain ⟨m, ys, a', h', e1, e2⟩ := map_ok hc w a h
    exact ⟨⟨m, ys, a', h'⟩, e1, e2⟩
  unfold hmapV
  rw [dif_pos hx]
  exact hx.choose_spec
/-- The row of l07Map. -/
noncomputable def mapT (F : Cd → Bool → Nat → Int → MapR) : Table := fun _ args H nd K =>
  match args with
  | [p, .b _ w] => match p with
    | .p _ id off => match readCode (getB H 0), readSrc (getB H id), decide (off = 0) && !decide (id = 0) with
      | some (o', b), some (o, m, a, h), true => K (.tup [.i false .i64 (F ⟨b, o', m⟩ w a h).n, .sl false H.length 0 (F ⟨b, o', m⟩ w a h).xs.length 1]) (setB H id (srcR o m (F ⟨b, o', m⟩ w a h).a (F ⟨b, o', m⟩ w a h).h) ++ [.cells true (.ints .i64 (F ⟨b, o', m⟩ w a h).xs)]) (okB ⟨b, o', m⟩ o m :: nd)
      | _, _, _ => .fail
    | _ => .fail
  | _ => .fail
theorem map_at : SoundAt Try.prog 171 (mapT hmapV) := fun args H nd K => by
  unfold mapT
  split
  case h_2 => exact .inl rfl
  rename_i p lw w
  split
  case h_2 => exact .inl rfl
  rename_i lp id off
  split
  case h_2 => exact .inl rfl
  rename_i o' b o m a h hb hs h0
  refine .inr ⟨_, _, _, rfl, fun hn => ?_⟩
  simp only [allT, Bool.and_eq_true, okB] at hn
  obtain ⟨⟨⟨hg, ho⟩, _⟩, hnd⟩ := hn
  have ho : o = o' := of_decide_eq_true ho
  subst ho
  refine ⟨hnd, ?_⟩
  simp only [Bool.and_eq_true, decide_eq_true_eq, Bool.not_eq_true', decide_eq_false_iff_not] at h0
  obtain ⟨rfl, h0⟩ := h0
  exact ((hmapV_ok hg w a h).2.src2 rfl hb h0 hs).bare rfl
/-! ### Draws of a number and a list -/
def DrawZ (f : FuncId) (c : Cd) (n : Int) (xs : List Int) : Prop := ∀ Hr, CallOK Try.prog f [.sl false 0 c.off c.len 0] (codeB c false :: Hr) (.tup [.i false .i64 n, .sl false (Hr.length + 1) 0 xs.length 1]) (codeB c false :: (Hr ++ [.cells true (.ints .i64 xs)]))
noncomputable def drawZR (T : Table) (f : FuncId) (c : Cd) : Res := T f [.sl false 0 c.off c.len 0] [codeB c false] [] fun v H nd => .ret v H nd
noncomputable def tabDz (F : Cd → Bool → Nat → Int → MapR) : Table := tabOf (cdeep Try.prog [(94, fromT), (171, mapT F)] [79, 91] 200 3)
theorem tabDz_sound : SoundT Try.prog (tabDz hmapV) := cdeep_sound (allAt_mem (P := Try.prog) (l := [(94, fromT), (171, mapT hmapV)]) ⟨from_at, map_at, trivial⟩) 3
def dzV (F : Cd → Bool → Nat → Int → MapR) (c : Cd) (w : Bool) (h : Int) : AV × List AB × List Bool := (.tup [.i false .i64 (F c w 0 h).n, .sl false 1 0 (F c w 0 h).xs.length 1], [codeB c false, .cells true (.ints .i64 (F c w 0 h).xs)], [okB c c.off c.len, okB c c.off c.len])
theorem dz79 (F : Cd → Bool → Nat → Int → MapR) (c : Cd) : leafD 1 [1] (drawZR (tabDz F) 79 c) = some (dzV F c true (fromV c)) := by kernel_rfl
theorem dz91 (F : Cd → Bool → Nat → Int → MapR) (c : Cd) : leafD 1 [1] (drawZR (tabDz F) 91 c) = some (dzV F c false (fromV c)) := by kernel_rfl
theorem dz_of {f : FuncId} {w : Bool} (hf : ∀ F c, leafD 1 [1] (drawZR (tabDz F) f c) = some (dzV F c w (fromV c))) {c : Cd} (hc : goodB c = true) : ∃ r : Int × List Int, r.2.length ≤ 65 ∧ DrawZ f c r.1 r.2 := by
  have hk : okB c c.off c.len = true := by simp [okB, hc]
  have h := hf hmapV c
  refine ⟨⟨(hmapV c w 0 (fromV c)).n, (hmapV c w 0 (fromV c)).xs⟩, (hmapV_ok hc w 0 (fromV c)).1.1, fun Hr => ?_⟩
  have k0 := call_of_leaf (f := f) (args := [.sl false 0 c.off c.len 0]) (H0 := [codeB c false]) (H' := (dzV hmapV c w (fromV c)).2.1) (ks := [1]) (dirs := []) (conds := []) (nd := (dzV hmapV c w (fromV c)).2.2) (v := (dzV hmapV c w (fromV c)).1) tabDz_sound (by
    have e : ∀ r : Res, (condsP r [], leafD ([codeB c false] : List AB).length [1] (r.at [])) = ([], leafD 1 [1] r) := fun r => by cases r <;> rfl
    exact (e _).trans (by
      have h2 : leafD 1 [1] (tabDz hmapV f [.sl false 0 c.off c.len 0] [codeB c false] [] fun v H nd => .ret v H nd) = _ := h
      rw [h2])) rfl (by simp [dzV, allT, hk])
  have k1 := k0.frame rfl rfl rfl Hr
  refine k1.weaken fun σ x r => ?_
  rw [Nat.add_comm Hr.length]
  exact r
noncomputable def drawZV (f : FuncId) (c : Cd) : Int × List Int := open Classical in if hx : ∃ r : Int × List Int, r.2.length ≤ 65 ∧ DrawZ f c r.1 r.2 then hx.choose else (0, [])
theorem drawZV_ok {f : FuncId} {c : Cd} (h : ∃ r : Int × List Int, r.2.length ≤ 65 ∧ DrawZ f c r.1 r.2) : (drawZV f c).2.length ≤ 65 ∧ DrawZ f c (drawZV f c).1 (drawZV f c).2 := by
  unfold drawZV
  rw [dif_pos h]
  exact h.choose_spec
noncomputable def drawZT (F : FuncId → Cd → Int × List Int) : Table := fun f args H nd K =>
  match args, H with
  | [s], B :: Hr => match readSl s, readCode B with
    | some (o, n), some (o', b) => K (.tup [.i false .i64 (F f ⟨b, o', n⟩).1, .sl false (Hr.length + 1) 0 (F f ⟨b, o', n⟩).2.length 1]) (B :: (Hr ++ [.cells true (.ints .i64 (F f ⟨b, o', n⟩).2)])) (okB ⟨b, o', n⟩ o n :: nd)
    | _, _ => .fail
  | _, _ => .fail
theorem drawZT_at {f : FuncId} (h : ∀ c, goodB c = true → ∃ r : Int × List Int, r.2.length ≤ 65 ∧ DrawZ f c r.1 r.2) : SoundAt Try.prog f (drawZT drawZV) := fun args H nd K => by
  unfold drawZT
  split
  case h_2 => exact .inl rfl
  rename_i s B Hr
  split
  case h_2 => exact .inl rfl
  rename_i o n o' b hs hb
  refine .inr ⟨_, _, _, rfl, fun hn => ?_⟩
  simp only [allT, Bool.and_eq_true, okB] at hn
  obtain ⟨⟨⟨hg, ho⟩, _⟩, hnd⟩ := hn
  have ho : o = o' := of_decide_eq_true ho
  subst ho
  refine ⟨hnd, ?_⟩
  obtain ⟨l, rfl⟩ := readSl_spec hs
  have hB := readCode_spec hb
  subst hB
  exact ((drawZV_ok (h _ hg)).2 Hr).bare (args' := [.sl l 0 o n 0]) rfl
theorem dz79_at : SoundAt Try.prog 79 (drawZT drawZV) := drawZT_at fun _ hc => dz_of dz79 hc
theorem dz91_at : SoundAt Try.prog 91 (drawZT drawZV) := drawZT_at fun _ hc => dz_of dz91 hc
end Go.Ax

/- Lists of floats: impl.areNumbers, spec.l10Fine, laws.lists9. -/
namespace Go.Ax
open Go Go.Proofs

/-- What a loop that looks for a place comes to. -/
def scanV (bad : Nat → AV) (good : AV) (b : Nat → Bool) : Nat → Nat → AV
  | 0, _ => good
  | m + 1, i => cond (b i) (bad i) (scanV bad good b m (i + 1))
theorem scan_go {P : Program} {R : List Item} {S : Nat → List AV} {H : List AB} {rs : List ResultVar} {len : Nat} {b : Nat → Bool} {bad : Nat → AV} {good : AV} (hR : toLp R = R)
    (hc : ∀ i, i < len → b i = false → ∀ L, toLp L = R → Reach P L (S i) H R (S (i + 1)) H)
    (hx : ∀ i, i < len → b i = true → ∀ L, toLp L = R → ∃ t, Ends P L (S i) H t H ∧ resV P t H rs = some ([bad i], []))
    (he : ∀ L, toLp L = R → ∃ t, Ends P L (S len) H t H ∧ resV P t H rs = some ([good], [])) :
    ∀ (m i : Nat), i + m = len → ∀ L, toLp L = R → ∃ t, Ends P L (S i) H t H ∧ resV P t H rs = some ([scanV bad good b m i], [])
  | 0, i, hi, L, hL => by
    have : i = len := by omega
    subst this
    exact he L hL
  | m + 1, i, hi, L, hL => by
    unfold scanV
    cases hb : b i with
    | true => exact hx i (by omega) hb L hL
    | false =>
      obtain ⟨t, e1, e2⟩ := scan_go hR hc hx he m (i + 1) (by omega) R hR
      exact ⟨t, (hc i (by omega) hb L hL).ends e1, e2⟩
def allN (p : Nat → Bool) : Nat → Nat → Bool
  | 0, _ => true
  | m + 1, i => p i && allN p m (i + 1)
theorem allN_iff (p : Nat → Bool) : ∀ m i, allN p m i = true ↔ ∀ j, j < m → p (i + j) = true
  | 0, i => by simp [allN]
  | m + 1, i => by
    rw [allN, Bool.and_eq_true, allN_iff p m (i + 1)]
    constructor
    · rintro ⟨h0, h⟩ j hj
      cases j with
      | zero => exact h0
      | succ j => have := h j (by omega); rwa [show i + 1 + j = i + (j + 1) by omega] at this
    · intro h
      refine ⟨h 0 (by omega), fun j hj => ?_⟩
      have := h (j + 1) (by omega)
      rwa [show i + (j + 1) = i + 1 + j by omega] at this
theorem scanV_bool {l l' : Bool} (b : Nat → Bool) : ∀ m i {σ : List (Nat × Nat)} {x : Value}, Rel σ (scanV (fun _ => .b l false) (.b l' true) b m i) x → Rel σ (.b false (allN (fun j => !b j) m i)) x
  | 0, i, σ, x, r => by cases r; exact .b _
  | m + 1, i, σ, x, r => by
    unfold scanV at r
    unfold allN
    cases hb : b i with
    | true => rw [hb] at r; cases r; exact .b _
    | false => rw [hb] at r; rw [Bool.not_false, Bool.true_and]; exact scanV_bool b m (i + 1) r

theorem ltQ_true {i n : Nat} (h : i < n) : ltQ false (Int.ofNat i) (n : Int) = true := by rw [ltQ_eq]; simp; omega
theorem ltQ_same (n : Nat) : ltQ false (Int.ofNat n) (n : Int) = false := by rw [ltQ_eq]; simp
/-! ### impl.areNumbers -/
def ixM : List Bool := [false, false, true, true, true, true, true, false, false] ++ List.replicate 10 true
def firstN (b : Nat → Bool) : Nat → Nat → Int
  | 0, _ => -1
  | m + 1, i => cond (b i) (Int.ofNat i) (firstN b m (i + 1))
theorem firstN_neg (b : Nat → Bool) : ∀ m i, (!decide (0 ≤ firstN b m i)) = allN (fun j => !b j) m i
  | 0, _ => rfl
  | m + 1, i => by
    unfold firstN allN
    cases b i with
    | true => simp
    | false => simpa using firstN_neg b m (i + 1)
theorem scanV_idx (b : Nat → Bool) : ∀ m i {σ : List (Nat × Nat)} {x : Value}, Rel σ (scanV (fun i => .i false .i64 (Int.ofNat i)) (.i true .i64 (-1)) b m i) x → Rel σ (.i false .i64 (firstN b m i)) x
  | 0, i, σ, x, r => by cases r; exact .i _ _
  | m + 1, i, σ, x, r => by
    unfold scanV at r
    unfold firstN
    cases hb : b i with
    | true => rw [hb] at r; exact r
    | false => rw [hb] at r; exact scanV_idx b m (i + 1) r
/-! ### laws.lists9 -/
end Go.Ax

/- Calls that come back with a list or none: one answer for both. -/
namespace Go.Ax
open Go Go.Proofs


/-! ### One answer -/
end Go.Ax

/- Codes of Legendre: what shadows and decoded shadows come to, of impl. -/
namespace Go.Ax
open Go Go.Proofs

end Go.Ax

/- Shadows, decoded shadows, correlations: what is to be evaluated. -/
namespace Go.Ax
open Go Go.Proofs

end Go.Ax

/- Correlations: what is to be evaluated. -/
namespace Go.Ax
open Go Go.Proofs

end Go.Ax

/- Finite floats of 32 bits as whole numbers of the least unit. -/
namespace Go.Ax
open Go Ieee

/-! ### What is written -/
end Go.Ax

/- Small whole numbers as floats; what is not finite stays so. -/
namespace Go.Ax
open Go Ieee

/-! ### What is not finite -/
end Go.Ax

/- Lists or none: from evaluations to one answer. -/
namespace Go.Ax
open Go Go.Proofs


/-! ### Sums that are finite -/
end Go.Ax

/- Lists in memory and small whole numbers: what several laws use. -/
namespace Go.Ax
open Go Go.Proofs

theorem blk_toL {A B : Cells} (h : A.toL = B.toL) {r : Bool} {σ : List (Nat × Nat)} {z : Nat} {o : Option Obj} (hb : BlkRel σ z (.cells r A) o) : BlkRel σ z (.cells r B) o := by
  obtain ⟨c, e, fr, h1, h2, h3⟩ := hb
  exact ⟨c, e, fr, h1, by rw [← h]; exact h2, h3⟩
theorem eqQ_refl (b : Bool) (x : Int) : eqQ b x x = true := by rw [eqQ_eq]; simp
end Go.Ax

/- Sums by codes: what is to be evaluated. -/
namespace Go.Ax
open Go Go.Proofs

end Go.Ax

/- Sums by codes, evaluated: up to 16. -/
namespace Go.Ax
open Go Go.Proofs

end Go.Ax

/- Sums by codes, evaluated: 32. -/
namespace Go.Ax
open Go Go.Proofs

end Go.Ax

/- Sums by codes, evaluated: 64. -/
namespace Go.Ax
open Go Go.Proofs

end Go.Ax

/- Sums back, evaluated: 64. -/
namespace Go.Ax
open Go Go.Proofs

end Go.Ax

/- Sums by codes: contracts and rows. -/
namespace Go.Ax
open Go Go.Proofs

end Go.Ax

/- Sums by codes and back: contracts and rows. -/
namespace Go.Ax
open Go Go.Proofs

/-! ### Rows -/
end Go.Ax

/- The numbers of codes of Walsh. -/
namespace Go.Ax
open Go Go.Proofs

end Go.Ax

/- math/bits.OnesCount64 of small numbers; impl.walsh. -/
namespace Go.Ax
open Go Go.Proofs

end Go.Ax

/- spec.l10Walsh: the code of Walsh of every length up to 64. -/
namespace Go.Ax
open Go Go.Proofs

end Go.Ax

/- Pictures: what the tests of pictures come to; rows. -/
namespace Go.Ax
open Go Go.Proofs

/-! ### Pictures read from their values -/
end Go.Ax

/- Codes of Walsh: what is to be evaluated. -/
namespace Go.Ax
open Go Go.Proofs

end Go.Ax

/- Codes of Walsh, evaluated. -/
namespace Go.Ax
open Go Go.Proofs

end Go.Ax

/- Codes of Walsh: contract and row. -/
namespace Go.Ax
open Go Go.Proofs

end Go.Ax

/- spec.DrawCellOf: some wave and two numbers. -/
namespace Go.Ax
open Go Go.Proofs

def opsOf : List Item → Array Oper
  | .code (.region _ ops _) :: _ => ops
  | _ => #[]
def tlOf : List Item → List Item
  | _ :: k => k
  | [] => []
end Go.Ax

/- laws.dice.below: a number below a bound. -/
namespace Go.Ax
open Go Go.Proofs

noncomputable def beX (h : Int) : Int := IntKind.i64.wrap (IntKind.u64.wrap (↑(BitVec.ofInt IntKind.u64.bits ((nxH h).fdiv (2 ^ min (Int.toNat 33) IntKind.u64.bits)) &&& BitVec.ofInt IntKind.u64.bits 16777215).toNat))
noncomputable def beV (c : Cd) (a : Nat) (h n : Int) : Int :=
  if n < 1 then 0 else if Int.ofNat a < ↑c.len then (IntKind.i64.wrap (beX h + nxB c a)).tmod n else (beX h).tmod n

theorem beX_bound (h : Int) : 0 ≤ beX h ∧ beX h < 16777216 := by
  unfold beX
  generalize BitVec.ofInt IntKind.u64.bits ((nxH h).fdiv (2 ^ min (Int.toNat 33) IntKind.u64.bits)) = x
  have h1 : (x &&& BitVec.ofInt IntKind.u64.bits 16777215).toNat ≤ 16777215 := by
    rw [BitVec.toNat_and]
    exact Nat.le_trans Nat.and_le_right (by decide)
  generalize (x &&& BitVec.ofInt IntKind.u64.bits 16777215).toNat = y at h1
  have h2 : IntKind.u64.wrap (y : Int) = y := by
    simp [IntKind.wrap, IntKind.bits, IntKind.signed]; omega
  rw [h2, wrap64_id (by omega) (by omega)]
  omega
theorem beV_bound {c : Cd} (hc : goodB c = true) (a : Nat) (h n : Int) : 0 ≤ beV c a h n ∧ (1 ≤ n → beV c a h n < n) := by
  unfold beV
  have hx := beX_bound h
  have hb := nxB_bound hc a
  split
  · exact ⟨by omega, by omega⟩
  · split
    · rw [wrap64_id (by omega) (by omega)]
      exact ⟨Int.tmod_nonneg _ (by omega), fun _ => Int.tmod_lt_of_pos _ (by omega)⟩
    · exact ⟨Int.tmod_nonneg _ (by omega), fun _ => Int.tmod_lt_of_pos _ (by omega)⟩

noncomputable def belowRes (c : Cd) (a : Nat) (h n : Int) : Res :=
  Res.ite (decide (n < 1)) (Res.ret (AV.i true IntKind.i64 (Int.ofNat 0)) [codeB c false, srcB c a h] [])
    (Res.ite (decide (Int.ofNat a < ↑c.len))
      (Res.ret (AV.i false IntKind.i64 ((IntKind.i64.wrap (beX h + nxB c a)).tmod n))
        [codeB c false, AB.cells true (Cells.lit [AV.sl false 0 c.off c.len 0, AV.i false IntKind.i64 (IntKind.i64.wrap (Int.ofNat a + 1)), AV.i false IntKind.u64 (nxH h)])]
        [!n == 0, decide (c.off ≤ c.off + (Int.ofNat a).toNat * 1), decide (c.off + (Int.ofNat a).toNat * 1 - c.off < c.bytes.length), decide (0 ≤ Int.ofNat a) && decide (Int.ofNat a < ↑c.len)])
      (Res.ret (AV.i false IntKind.i64 ((beX h).tmod n)) [codeB c false, srcB c a (nxH h)] [!n == 0]))
theorem below_run (c : Cd) (a : Nat) (h n : Int) :
    runF Try.prog noT 200 16 [.p true 1 0, .i false .i64 n] [codeB c false, srcB c a h] [] (fun v H nd => .ret v H nd) = belowRes c a h n := by kernel_rfl

theorem below_ok {c : Cd} (hc : goodB c = true) (a : Nat) (h n : Int) : SrcOK Try.prog 16 [.i false .i64 n] c a h (.i false .i64 (beV c a h n)) (nxA c a n) (nxS h n) := by
  have hr := below_run c a h n
  have hS := runF_sound (noT_sound Try.prog) 200
  have hg := hc
  simp only [goodB, Bool.and_eq_true, decide_eq_true_eq] at hg
  by_cases hn : n < 1
  · refine ⟨_, (call_of_sel (H' := [codeB c false, srcB c a h]) (nd := []) hS (v := .i true .i64 (Int.ofNat 0)) ?_ rfl).weaken ?_, ?_, rfl, rfl⟩
    · rw [hr]; simp [belowRes, Res.sel, hn]
    · intro σ x r
      simp only [beV, hn, if_true]
      cases r; exact .i _ _
    · simp [nxA, nxS, hn]; rfl
  · have hn0 : ¬ n = 0 := by omega
    by_cases ha : a < c.len
    · refine ⟨_, (call_of_sel (H' := [codeB c false, AB.cells true (Cells.lit [AV.sl false 0 c.off c.len 0, AV.i false IntKind.i64 (IntKind.i64.wrap (Int.ofNat a + 1)), AV.i false IntKind.u64 (nxH h)])])
        (nd := [!n == 0, decide (c.off ≤ c.off + (Int.ofNat a).toNat * 1), decide (c.off + (Int.ofNat a).toNat * 1 - c.off < c.bytes.length), decide (0 ≤ Int.ofNat a) && decide (Int.ofNat a < ↑c.len)])
        hS (v := AV.i false IntKind.i64 ((IntKind.i64.wrap (beX h + nxB c a)).tmod n)) ?_ ?_).weaken ?_, ?_, rfl, rfl⟩
      · rw [hr]
        have : Int.ofNat a < ↑c.len := by simp; omega
        simp only [belowRes, Res.sel, hn, decide_false, Bool.false_eq_true, if_false, this, decide_true, if_true]
      · have hlt : a < c.bytes.length := by omega
        simp [allT, hn0]
        exact ⟨hlt, ha⟩
      · intro σ x r
        have : Int.ofNat a < ↑c.len := by simp; omega
        simp only [beV, hn, if_false, this, if_true]
        exact r
      · have h1 : IntKind.i64.wrap (Int.ofNat a + 1) = Int.ofNat (a + 1) := by
          rw [wrap64_id] <;> simp <;> omega
        rw [h1]
        simp only [nxA, nxS, hn, if_false, ha, if_true]
        rfl
    · refine ⟨_, (call_of_sel (H' := [codeB c false, srcB c a (nxH h)]) (nd := [!n == 0]) hS (v := AV.i false IntKind.i64 ((beX h).tmod n)) ?_ ?_).weaken ?_, ?_, rfl, rfl⟩
      · rw [hr]
        have : ¬ Int.ofNat a < ↑c.len := by simp; omega
        simp only [belowRes, Res.sel, hn, decide_false, Bool.false_eq_true, if_false, this]
      · simp [allT, hn0]
      · intro σ x r
        have : ¬ Int.ofNat a < ↑c.len := by simp; omega
        simp only [beV, hn, if_false, this]
        exact r
      · simp only [nxA, nxS, hn, if_false, ha]
        rfl
end Go.Ax

/- laws.roll: a source of numbers out of a text of bytes. -/
namespace Go.Ax
open Go Go.Proofs

noncomputable def rlC : Code := Try.f15.body.getD .skip
noncomputable def rlL : List Item := [.code (.loop (cO (cB (cR (cL (cR (cR rlC))))))), .inBlock 0, .code (cR (cR (cR rlC)))]
noncomputable def rlR : List Item := [.inLoop (cO (cB (cR (cL (cR (cR rlC)))))), .inBlock 0, .code (cR (cR (cR rlC)))]
noncomputable def rlT (c : Cd) (i : Nat) : List AV := [.sl false 0 c.off c.len 0, .any, .any, .any, .any, .p true 1 0, .i false .i64 (Int.ofNat i)] ++ List.replicate 31 .any
noncomputable def rlN (c : Cd) (i : Nat) : List AV := [.sl false 0 c.off c.len 0, .any, .any, .any, .any, .p true 1 0, .i false .i64 (IntKind.i64.wrap (Int.ofNat i + 1))] ++ List.replicate 31 .any
noncomputable def rlM : List Bool := [false, true, true, true, true, false, false] ++ List.replicate 31 true
noncomputable def rl0 (c : Cd) (sd : Int) : Res := toLoop Try.prog noT 100 [.code rlC] (.sl false 0 c.off c.len 0 :: .i false .u64 sd :: undefs 36) [codeB c false]
noncomputable def rl1 (c : Cd) (i : Nat) (h : Int) : Res := toLoop Try.prog noT 100 rlR (rlT c i) [codeB c false, srcZ c h]
noncomputable def rlH (c : Cd) (i : Nat) (h : Int) : Int := IntKind.u64.wrap (IntKind.u64.wrap (IntKind.u64.wrap (h * 1099511628211) + IntKind.u64.wrap (c.bytes.getD (c.off + (Int.ofNat i).toNat * 1 - c.off) 0)) + 5)

theorem rl0_fin (c : Cd) (sd : Int) : (rl0 c sd).todo = rlL ∧ (leafM rlM (rl0 c sd)).map (fun r => (r.1.map AV.bare, r.2)) = some ((rlT c 0).map AV.bare, [codeB c false, srcZ c (IntKind.u64.wrap (IntKind.u64.wrap (sd * 8111) + IntKind.u64.wrap (Int.ofNat c.len)))], []) := by
  constructor <;> kernel_rfl
theorem rl1_go (c : Cd) (i : Nat) (h : Int) : (rl1 c i h).conds [true] = [decide (Int.ofNat i < ↑c.len)] ∧ ((rl1 c i h).at [true]).todo = rlR ∧
    leafM rlM ((rl1 c i h).at [true]) = some (rlN c i, [codeB c false, srcZ c (rlH c i h)], [decide (c.off ≤ c.off + (Int.ofNat i).toNat * 1), decide (c.off + (Int.ofNat i).toNat * 1 - c.off < c.bytes.length), decide (0 ≤ Int.ofNat i) && decide (Int.ofNat i < ↑c.len)]) := by
  refine ⟨?_, ?_, ?_⟩ <;> kernel_rfl
theorem rl1_end (c : Cd) (i : Nat) (h : Int) : (rl1 c i h).conds [false] = [decide (Int.ofNat i < ↑c.len)] ∧
    retOf Try.f15.results.toList ((rl1 c i h).at [false]) = some (some ([.p true 1 0], []), [codeB c false, srcZ c h], []) := by
  refine ⟨?_, ?_⟩ <;> kernel_rfl

theorem ro_from {c : Cd} (hc : goodB c = true) {todoS : List Item} {tS : List AV} {HS : List AB} (L : List Item) (hL : L = rlL ∨ L = rlR) : ∀ (m : Nat) (i : Nat) (h : Int), i + m = c.len →
    Reach Try.prog todoS tS HS L (rlT c i) [codeB c false, srcZ c h] → ∃ t h', Ends Try.prog todoS tS HS t [codeB c false, srcZ c h'] ∧ resV Try.prog t [codeB c false, srcZ c h'] Try.f15.results.toList = some ([.p true 1 0], [])
  | 0, i, h, hi, hr => by
    have hi' : i = c.len := by omega
    subst hi'
    obtain ⟨e1, e2⟩ := rl1_end c c.len h
    have hd : decide (Int.ofNat c.len < ↑c.len) = false := by simp
    rw [hd] at e1
    have hend : ∃ t, Ends Try.prog L (rlT c c.len) [codeB c false, srcZ c h] t [codeB c false, srcZ c h] ∧ resV Try.prog t [codeB c false, srcZ c h] Try.f15.results.toList = some ([.p true 1 0], []) := by
      rcases hL with rfl | rfl
      · exact ends_leaf (n := 100) hT0 (T := noT) (p := [false]) e1 e2 rfl
      · exact ends_leaf (n := 100) hT0 (T := noT) (p := [false]) e1 e2 rfl
    obtain ⟨t, e3, e4⟩ := hend
    exact ⟨t, h, hr.ends e3, e4⟩
  | m + 1, i, h, hi, hr => by
    obtain ⟨e1, e2, e3⟩ := rl1_go c i h
    have hg := hc
    simp only [goodB, Bool.and_eq_true, decide_eq_true_eq] at hg
    have hd1 : decide (Int.ofNat i < ↑c.len) = true := by simp; omega
    rw [hd1] at e1
    have hnd : allT [decide (c.off ≤ c.off + (Int.ofNat i).toNat * 1), decide (c.off + (Int.ofNat i).toNat * 1 - c.off < c.bytes.length), decide (0 ≤ Int.ofNat i) && decide (Int.ofNat i < ↑c.len)] = true := by
      simp [allT]; omega
    have hN : rlN c i = rlT c (i + 1) := by
      unfold rlN rlT
      have : IntKind.i64.wrap (Int.ofNat i + 1) = Int.ofNat (i + 1) := by rw [wrap64_id] <;> simp <;> omega
      rw [this]
    rw [hN] at e3
    have hstep : Reach Try.prog L (rlT c i) [codeB c false, srcZ c h] rlR (rlT c (i + 1)) [codeB c false, srcZ c (rlH c i h)] := by
      rcases hL with rfl | rfl
      · exact reach_leaf (n := 100) hT0 (T := noT) (p := [true]) e1 e2 e3 hnd
      · exact reach_leaf (n := 100) hT0 (T := noT) (p := [true]) e1 e2 e3 hnd
    exact ro_from hc rlR (.inr rfl) m (i + 1) _ (by omega) (hr.trans hstep)

theorem roll_ok {c : Cd} (hc : goodB c = true) (sd : Int) : ∃ h, CallOK Try.prog 15 [.sl false 0 c.off c.len 0, .i false .u64 sd] [codeB c false] (.p true 1 0) [codeB c false, srcZ c h] := by
  obtain ⟨e1, e2⟩ := rl0_fin c sd
  cases hr : rl0 c sd <;> rw [hr] at e1 e2 <;> simp [leafM] at e2
  rename_i todo t H nd
  obtain ⟨e3, rfl, rfl⟩ := e2
  simp only [Res.todo] at e1
  subst e1
  have h0 : Reach Try.prog [.code rlC] (.sl false 0 c.off c.len 0 :: .i false .u64 sd :: undefs 36) [codeB c false] rlL (rlT c 0) [codeB c false, srcZ c (IntKind.u64.wrap (IntKind.u64.wrap (sd * 8111) + IntKind.u64.wrap (Int.ofNat c.len)))] := by
    refine ((toLoop_reach (n := 100) (nd := []) hT0 (T := noT) (t' := t) (todo' := rlL) ?_ rfl).weak (blur_eqv rlM t)).weak (eqv_of_bare ?_)
    · unfold rl0 at hr; rw [hr]; rfl
    · rw [← e3]
  obtain ⟨t', h', e4, e5⟩ := ro_from hc rlL (.inl rfl) c.len 0 _ (by omega) h0
  have hb : Try.f15.body = some rlC := rfl
  exact ⟨h', call_of_ends (args := [.sl false 0 c.off c.len 0, .i false .u64 sd]) (m := []) Try.func15 hb e4 e5 rfl⟩
end Go.Ax

/- Table rows for laws.roll and laws.dice.below. -/
namespace Go.Ax
open Go Go.Proofs

noncomputable def rollV (c : Cd) (sd : Int) : Int := open Classical in if hx : ∃ h, CallOK Try.prog 15 [.sl false 0 c.off c.len 0, .i false .u64 sd] [codeB c false] (.p true 1 0) [codeB c false, srcZ c h] then hx.choose else 0
theorem rollV_ok {c : Cd} (hc : goodB c = true) (sd : Int) : CallOK Try.prog 15 [.sl false 0 c.off c.len 0, .i false .u64 sd] [codeB c false] (.p true 1 0) [codeB c false, srcZ c (rollV c sd)] := by
  have he := roll_ok hc sd
  unfold rollV
  rw [dif_pos he]
  exact he.choose_spec
noncomputable def rollT : Table := fun _ args H nd K =>
  match args, H with
  | [s, .i _ .u64 sd], B :: Hr => match readSl s, readCode B with
    | some (o, n), some (o', b) => K (.p true (Hr.length + 1) 0) (B :: (Hr ++ [srcR o n 0 (rollV ⟨b, o', n⟩ sd)])) (okB ⟨b, o', n⟩ o n :: nd)
    | _, _ => .fail
  | _, _ => .fail
theorem roll_at : SoundAt Try.prog 15 rollT := fun args H nd K => by
  unfold rollT
  split
  case h_2 => exact .inl rfl
  rename_i s ls sd B Hr
  split
  case h_2 => exact .inl rfl
  rename_i o n o' b hs hb
  refine .inr ⟨_, _, _, rfl, fun hn => ?_⟩
  simp only [allT, Bool.and_eq_true, okB] at hn
  obtain ⟨⟨⟨hg, ho⟩, _⟩, hnd⟩ := hn
  have ho : o = o' := of_decide_eq_true ho
  subst ho
  refine ⟨hnd, ?_⟩
  obtain ⟨l, rfl⟩ := readSl_spec hs
  have hB := readCode_spec hb
  subst hB
  have h1 := ((rollV_ok hg sd).frame rfl rfl rfl Hr).bare (args' := [.sl l 0 o n 0, .i ls .u64 sd]) rfl
  have h2 := h1.post (H' := AB.code o b :: (Hr ++ [srcR o n 0 (rollV ⟨b, o, n⟩ sd)])) (by
    refine HEq.cons ⟨rfl, rfl, fun _ _ _ h => h⟩ ?_
    have : ∀ (Hr : List AB) (X Y : AB), HEq [X] [Y] → HEq (Hr ++ [X]) (Hr ++ [Y]) := by
      intro Hr X Y h
      induction Hr with
      | nil => exact h
      | cons A Hr ih => exact HEq.cons ⟨rfl, rfl, fun _ _ _ h => h⟩ ih
    exact this Hr _ _ (HEq.cons src_same (HEq.refl [])))
  have e : upV ([codeB ⟨b, o, n⟩ false] : List AB).length Hr.length (.p true 1 0) = .p true (Hr.length + 1) 0 := by
    show AV.p true (1 + Hr.length) 0 = _
    rw [Nat.add_comm]
  rw [e] at h2
  exact h2
end Go.Ax

/- PlaneWave, FlatWave and CellOf, of both sides. -/
namespace Go.Ax
open Go Go.Proofs

theorem tup2_weak {σ : List (Nat × Nat)} {l l' : List AV} {c c' : AV} {x : Value} (h : l.map AV.bare = l'.map AV.bare) (hc : c.bare = c'.bare) (r : Rel σ (.tup [.agg l, c]) x) : Rel σ (.tup [.agg l', c']) x := by
  cases r with | tup hr =>
  generalize hal : Array.toList _ = al at hr
  cases hr with | cons r1 hr => cases hr with | cons r2 hr => cases hr with | nil =>
  refine .tup ?_
  rw [hal]
  exact .cons (agg_bare h r1) (.cons (hc ▸ r2.bare).unbare .nil)

/-! ### PlaneWave -/
def inU (u : Int) : Bool := cond (decide (-64 ≤ u)) (decide (u ≤ 64)) false
def planeV (N : Nat) (n u v : Int) (k : Nat → Int) (fx fy : Int → Nat) : AV :=
  .tup [.agg (.i false .i64 (cond (!inU u) 0 (cond (!inU v) 0 n)) :: (List.range 64).map fun j => match Nat.ble N j with
    | true => .c true .f32 0 0
    | false => .c false .f32 (plusF (cond (!inU u) 0 (cond (!inU v) 0 (fx (k j))))) (plusF (cond (!inU u) 0 (cond (!inU v) 0 (fy (k j)))))), .i false .i64 (cond (!inU u) 2 (cond (!inU v) 2 0))]
def planeOK (n u v : Int) : Bool := sideB n && (inU u && inU v)
def planeK (n u v : Int) (j : Nat) : Int := (u * (Int.ofNat j).tmod n + v * (Int.ofNat j).tdiv n) * Int.tdiv 64 n
def planeX (n u v : Int) (j : Nat) : Nat × Nat := match planeOK n u v && Nat.blt j (n.toNat * n.toNat) with
  | true => (phX (planeK n u v j), phY (planeK n u v j))
  | false => (0, 0)
def planeR (n u v : Int) : AV := .tup [wv (cond (planeOK n u v) n 0) (planeX n u v), .i false .i64 (cond (planeOK n u v) 0 2)]

theorem plus_zero : plusF 0 = 0 := by kernel_rfl
theorem ble_blt (N j : Nat) : Nat.ble N j = !(Nat.blt j N) := by
  rw [Bool.eq_iff_iff, Nat.ble_eq]
  cases h : Nat.blt j N with
  | true => have := blt_true h; simp; omega
  | false => have := blt_false h; simp; omega
end Go.Ax

/- FlatWave and CellOf, of both sides. -/
namespace Go.Ax
open Go Go.Proofs

/-! ### FlatWave -/
noncomputable def flatV (N : Nat) (n : Int) (z : Nat × Nat) : AV :=
  .tup [.agg (.i false .i64 (cond (!wholeB z) 0 n) :: (List.range 64).map fun j => match Nat.ble N j with
    | true => .c true .f32 0 0
    | false => .c false .f32 (plusF (cond (!wholeB z) 0 z.1)) (plusF (cond (!wholeB z) 0 z.2))), .i false .i64 (cond (!wholeB z) 1 0)]
theorem flat_run (f : FuncId) (hf : f = 20 ∨ f = 21) (N : Nat) (n : Int) (hn : (N, n) ∈ doNs) (z : Nat × Nat) : joinR 0 (tabW f [.i true .i64 n, .c false .f32 z.1 z.2] [] [] fun v H nd => .ret v H nd) = some (flatV N n z, []) := by
  simp only [doNs, List.mem_cons, Prod.mk.injEq, List.not_mem_nil, or_false] at hn
  rcases hf with rfl | rfl <;> rcases hn with ⟨rfl, rfl⟩ | ⟨rfl, rfl⟩ | ⟨rfl, rfl⟩ | ⟨rfl, rfl⟩ <;> kernel_rfl
noncomputable def flatOK (n : Int) (z : Nat × Nat) : Bool := sideB n && wholeB z
noncomputable def flatX (n : Int) (z : Nat × Nat) (j : Nat) : Nat × Nat := match flatOK n z && Nat.blt j (n.toNat * n.toNat) with
  | true => (plusF z.1, plusF z.2)
  | false => (0, 0)
noncomputable def flatC (n : Int) (z : Nat × Nat) : Int := cond (wholeB z) (cond (sideB n) 0 2) 1
noncomputable def flatWR (n : Int) (z : Nat × Nat) : AV := .tup [wv (cond (flatOK n z) n 0) (flatX n z), .i false .i64 (flatC n z)]
def zeroV2 (c : Int) : AV := .tup [.agg (.i true .i64 0 :: List.replicate 64 (.c true .f32 0 0)), .i false .i64 c]
theorem flat_no (f : FuncId) (hf : f = 20 ∨ f = 21) (n : Int) (z : Nat × Nat) : joinR 0 (tabN f [.i false .i64 n, .c false .f32 z.1 z.2] [] [] fun v H nd => .ret v H nd) = some (zeroV2 (cond (!wholeB z) 1 2), [cond (!!wholeB z) (!sideB n) true]) := by
  rcases hf with rfl | rfl <;> kernel_rfl
theorem flat_ok (f : FuncId) (hf : f = 20 ∨ f = 21) (n : Int) (z : Nat × Nat) (H : List AB) : CallOK Try.prog f [.i false .i64 n, .c false .f32 z.1 z.2] H (flatWR n z) H := by
  by_cases hs : sideB n = true
  · obtain ⟨N, hN, hNn⟩ : ∃ N, (N, n) ∈ doNs ∧ N = n.toNat * n.toNat := by
      rcases sideB_iff.1 hs with rfl | rfl | rfl | rfl
      · exact ⟨1, by simp [doNs], rfl⟩
      · exact ⟨4, by simp [doNs], rfl⟩
      · exact ⟨16, by simp [doNs], rfl⟩
      · exact ⟨64, by simp [doNs], rfl⟩
    subst hNn
    refine ((call_of_join tabW_sound (flat_run f hf _ n hN z) rfl rfl H).bare (args' := [.i false .i64 n, .c false .f32 z.1 z.2]) rfl).weaken fun σ x r => tup2_weak ?_ ?_ r
    · have e1 : cond (!wholeB z) 0 n = cond (flatOK n z) n 0 := by
        unfold flatOK; rw [hs]; cases wholeB z <;> rfl
      simp only [waveL, List.map_cons, List.map_map, AV.bare, e1, List.cons.injEq, true_and]
      apply List.map_congr_left
      intro j hj
      simp only [Function.comp, cx, flatX]
      rw [ble_blt]
      cases hb : Nat.blt j (n.toNat * n.toNat) with
      | false => simp [AV.bare]
      | true =>
        unfold flatOK
        rw [hs]
        cases wholeB z <;> simp [AV.bare, plus_zero]
    · unfold flatC
      rw [hs]
      cases wholeB z <;> rfl
  · have hs : sideB n = false := by simpa using hs
    refine (call_of_join tabN_sound (flat_no f hf n z) (by rw [hs]; cases wholeB z <;> rfl) rfl H).weaken fun σ x r => tup2_weak ?_ ?_ r
    · have e : flatOK n z = false := by simp [flatOK, hs]
      have e2 : ∀ j, flatX n z j = (0, 0) := fun j => by simp [flatX, e]
      have : (List.range 64).map (cx (flatX n z)) = List.replicate 64 (.c false .f32 0 0) := by
        have : cx (flatX n z) = fun _ => .c false .f32 0 0 := funext fun j => by simp [cx, e2]
        rw [this]; rfl
      simp only [waveL, this, e]
      rfl
    · unfold flatC
      rw [hs]
      cases wholeB z <;> rfl

/-! ### CellOf -/
end Go.Ax

/- CodeWave, of both sides. -/
namespace Go.Ax
open Go Go.Proofs

end Go.Ax

/- SumOfPicture, of both sides: what is to be evaluated. -/
namespace Go.Ax
open Go Go.Proofs

end Go.Ax

/- SumOfPicture, of both sides: contract and row. -/
namespace Go.Ax
open Go Go.Proofs

end Go.Ax

/- PictureOfSums, of both sides: what is to be evaluated. -/
namespace Go.Ax
open Go Go.Proofs

end Go.Ax

/- PictureOfSums evaluated: side 4, and sides that do not fit. -/
namespace Go.Ax
open Go Go.Proofs

end Go.Ax

/- PictureOfSums of impl evaluated: side 8. -/
namespace Go.Ax
open Go Go.Proofs

end Go.Ax

/- PictureOfSums of spec evaluated: side 8. -/
namespace Go.Ax
open Go Go.Proofs

end Go.Ax

/- PictureOfSums, of both sides: contract and row. -/
namespace Go.Ax
open Go Go.Proofs

end Go.Ax

/- spec.l01DrawPicture: some picture of a side. -/
namespace Go.Ax
open Go Go.Proofs

end Go.Ax

/- Drawing functions that give lists. -/
namespace Go.Ax
open Go Go.Proofs

/-! ### All answers -/
structure LeafR where
  v : AV
  H : List AB
  nd : List Bool
def Res.rets : Res → List LeafR
  | .ret v H nd => [⟨v, H, nd⟩]
  | .ite _ x y => x.rets ++ y.rets
  | .stop _ _ _ _ => []
  | .fail => []
def Res.allRet : Res → Bool
  | .ret _ _ _ => true
  | .ite _ x y => x.allRet && y.allRet
  | .stop _ _ _ _ => false
  | .fail => false
theorem Res.rets_sel : ∀ {r : Res}, r.allRet = true → ∃ x ∈ r.rets, r.sel = .ret x.v x.H x.nd
  | .ret v H nd, _ => ⟨⟨v, H, nd⟩, by simp [Res.rets], rfl⟩
  | .ite b x y, h => by
    simp only [Res.allRet, Bool.and_eq_true] at h
    cases b with
    | true =>
      obtain ⟨z, h1, h2⟩ := Res.rets_sel h.1
      exact ⟨z, by simp [Res.rets, h1], h2⟩
    | false =>
      obtain ⟨z, h1, h2⟩ := Res.rets_sel h.2
      exact ⟨z, by simp [Res.rets, h1], h2⟩
  | .stop _ _ _ _, h => by cases h
  | .fail, h => by cases h
end Go.Ax

/- Drawing functions that give lists, whatever way the lists were made. -/
namespace Go.Ax
open Go Go.Proofs

/-! ### Two lists -/
end Go.Ax

/- What the law of codes draws. -/
namespace Go.Ax
open Go Go.Proofs

/-! ### DrawWalshCode -/
def formI2 : Form (Int × Int) where
  get := fun
    | .tup [a, b] => match formI.get a, formI.get b with
      | some x, some y => some (x, y)
      | _, _ => none
    | _ => none
  val := fun x => .tup [.i false .i64 x.1, .i false .i64 x.2]
  rel := fun {v x} h σ y r => by
    split at h <;> (try (cases h; done))
    split at h <;> cases h
    rename_i a b x1 x2 h1 h2
    cases r with | tup hr =>
    generalize hal : Array.toList _ = al at hr
    cases hr with | cons r1 hr => cases hr with | cons r2 hr => cases hr with | nil =>
    refine .tup ?_
    rw [hal]
    exact .cons (formI.rel h1 σ _ r1) (.cons (formI.rel h2 σ _ r2) .nil)
  low := fun _ => rfl
/-! ### DrawPictureOfSums -/
end Go.Ax

/- Drawn lists: a row. -/
namespace Go.Ax
open Go Go.Proofs

end Go.Ax

/- The law of codes: rows. -/
namespace Go.Ax
open Go Go.Proofs

/-- What a drawing function gives, with what is known of it. -/
noncomputable def drawQV {α : Type} [Inhabited α] (F : Form α) (Q : α → Bool) (f : FuncId) (c : Cd) : α := open Classical in if hx : ∃ x, Q x = true ∧ DrawOK Try.prog f c (F.val x) then hx.choose else default
theorem drawQV_ok {α : Type} [Inhabited α] {F : Form α} {Q : α → Bool} {f : FuncId} {c : Cd} (h : ∃ x, Q x = true ∧ DrawOK Try.prog f c (F.val x)) : Q (drawQV F Q f c) = true ∧ DrawOK Try.prog f c (F.val (drawQV F Q f c)) := by
  unfold drawQV
  rw [dif_pos h]
  exact h.choose_spec
noncomputable def drawQT {α : Type} [Inhabited α] (F : Form α) (Q : α → Bool) : Table := fun f args H nd K =>
  match args, H with
  | [s], B :: _ => match readSl s, readCode B with
    | some (o, n), some (o', b) => K (F.val (drawQV F Q f ⟨b, o', n⟩)) H (okB ⟨b, o', n⟩ o n :: nd)
    | _, _ => .fail
  | _, _ => .fail
theorem drawQT_at {α : Type} [Inhabited α] {F : Form α} {Q : α → Bool} {f : FuncId} (h : ∀ c, goodB c = true → ∃ x, Q x = true ∧ DrawOK Try.prog f c (F.val x)) : SoundAt Try.prog f (drawQT F Q) := fun args H nd K => by
  unfold drawQT
  split
  case h_2 => exact .inl rfl
  rename_i s B Hr
  split
  case h_2 => exact .inl rfl
  rename_i o n o' b hs hb
  refine .inr ⟨_, _, _, rfl, fun hn => ?_⟩
  simp only [allT, Bool.and_eq_true, okB] at hn
  obtain ⟨⟨⟨hg, ho⟩, _⟩, hnd⟩ := hn
  have ho : o = o' := of_decide_eq_true ho
  subst ho
  refine ⟨hnd, ?_⟩
  obtain ⟨l, rfl⟩ := readSl_spec hs
  have hB := readCode_spec hb
  subst hB
  exact ((drawQV_ok (h _ hg)).2 Hr).bare (args' := [.sl l 0 o n 0]) rfl
instance : Inhabited (Int × Int) := ⟨(0, 0)⟩
instance : Inhabited ((Int × (Nat → Nat)) × Int) := ⟨((0, fun _ => 0), 0)⟩
end Go.Ax

/- spec.DrawWrappedDifference: some two numbers. -/
namespace Go.Ax
open Go Go.Proofs

noncomputable def tab88 : Table := tabOf (cdeep Try.prog (rows12 5) [95, 88] 2000 6)
theorem tab88_sound : SoundT Try.prog tab88 := cdeep_sound (allAt_mem (rows12_at 5)) 6
theorem draw88 (c : Cd) : ((drawZR tab88 88 c).allRet, (drawZR tab88 88 c).rets.map fun x => ((formI2.get x.v).isSome, x.nd)) = (true, List.replicate 16 (true, List.replicate 7 (okB c c.off c.len))) := by kernel_rfl
theorem i1_low {a : AV} {n : Int} (h : formI.get a = some n) : below 0 a = true := by
  unfold formI at h
  dsimp only at h
  split at h <;> cases h
  rfl
theorem i2_low {v : AV} {y : Int × Int} (h : formI2.get v = some y) : below 0 v = true := by
  unfold formI2 at h
  dsimp only at h
  split at h <;> (try (cases h; done))
  split at h <;> cases h
  rename_i a b x y h1 h2
  simp [below, belowL, i1_low h1, i1_low h2]
theorem draw88_ok {c : Cd} (hc : goodB c = true) : ∃ x, (fun _ => true) x = true ∧ DrawOK Try.prog 88 c (formI2.val x) := by
  have h := draw88 c
  simp only [Prod.mk.injEq] at h
  have hk : okB c c.off c.len = true := by simp [okB, hc]
  obtain ⟨x, hx, hs⟩ := Res.rets_sel h.1
  have hm : ((formI2.get x.v).isSome, x.nd) ∈ List.replicate 16 (true, List.replicate 7 (okB c c.off c.len)) := by
    rw [← h.2]
    exact List.mem_map.2 ⟨x, hx, rfl⟩
  have he := List.eq_of_mem_replicate hm
  simp only [Prod.mk.injEq] at he
  obtain ⟨y, hy⟩ := Option.isSome_iff_exists.1 he.1
  refine ⟨y, rfl, fun Hr => ?_⟩
  have hb : below 0 x.v = true := by
    exact i2_low hy
  have k := (call_of_sel (tab88_sound) (f := 88) (args := [.sl false 0 c.off c.len 0]) (H := [codeB c false]) hs (by rw [he.2, hk]; rfl)).read hb rfl Hr
  exact k.weaken fun σ v r => formI2.rel hy σ v r
end Go.Ax

/- spec.DrawUnwrapFlood: the beginning. -/
namespace Go.Ax
open Go Go.Proofs

/-- One way for each number of a list. -/
def splitN (K : Int → Res) (n : Int) : List Int → Res
  | [] => .fail
  | [z] => K z
  | z :: l => .ite (eqQ false n z) (K z) (splitN K n l)
theorem splitN_sel {K : Int → Res} {n : Int} : ∀ {l : List Int}, n ∈ l → (splitN K n l).sel = (K n).sel
  | [], h => by cases h
  | [z], h => by
    rw [List.mem_singleton] at h
    subst h; rfl
  | z :: y :: l, h => by
    show (Res.ite (eqQ false n z) (K z) (splitN K n (y :: l))).sel = _
    rw [eqQ_eq]
    by_cases e : n = z
    · subst e; rw [beq_self_eq_true]; rfl
    · rcases List.mem_cons.1 h with rfl | h
      · exact absurd rfl e
      · have : (n == z) = false := by simpa using e
        rw [this]
        exact splitN_sel h
theorem hmapV_mem (c : Cd) (w : Bool) (a : Nat) (h : Int) : (hmapV c w a h).n ∈ mpNs := by
  unfold hmapV
  split
  · rename_i hx
    exact hx.choose_spec.1.2
  · simp [mpNs, mpNo]
noncomputable def mapS (F : Cd → Bool → Nat → Int → MapR) : Table := fun _ args H nd K =>
  match args with
  | [p, .b _ w] => match p with
    | .p _ id off => match readCode (getB H 0), readSrc (getB H id), decide (off = 0) && !decide (id = 0) with
      | some (o', b), some (o, m, a, h), true => splitN (fun z => K (.tup [.i true .i64 z, .sl false H.length 0 (F ⟨b, o', m⟩ w a h).xs.length 1]) (setB H id (srcR o m (F ⟨b, o', m⟩ w a h).a (F ⟨b, o', m⟩ w a h).h) ++ [.cells true (.ints .i64 (F ⟨b, o', m⟩ w a h).xs)]) (okB ⟨b, o', m⟩ o m :: nd)) (F ⟨b, o', m⟩ w a h).n mpNs
      | _, _, _ => .fail
    | _ => .fail
  | _ => .fail
theorem mapS_at : SoundAt Try.prog 171 (mapS hmapV) := fun args H nd K => by
  unfold mapS
  split
  case h_2 => exact .inl rfl
  rename_i p lw w
  split
  case h_2 => exact .inl rfl
  rename_i lp id off
  split
  case h_2 => exact .inl rfl
  rename_i o' b o m a h hb hs h0
  refine .inr ⟨_, _, _, splitN_sel (hmapV_mem _ _ _ _), fun hn => ?_⟩
  simp only [allT, Bool.and_eq_true, okB] at hn
  obtain ⟨⟨⟨hg, ho⟩, _⟩, hnd⟩ := hn
  have ho : o = o' := of_decide_eq_true ho
  subst ho
  refine ⟨hnd, ?_⟩
  simp only [Bool.and_eq_true, decide_eq_true_eq, Bool.not_eq_true', decide_eq_false_iff_not] at h0
  obtain ⟨rfl, h0⟩ := h0
  have k := ((hmapV_ok hg w a h).2.src2 rfl hb h0 hs).bare (args' := [.p lp id 0, .b lw w]) rfl
  exact k.weaken (v' := .tup [.i true .i64 (hmapV ⟨b, o, m⟩ w a h).n, .sl false H.length 0 (hmapV ⟨b, o, m⟩ w a h).xs.length 1]) fun σ x r => tupW (l := [.i false .i64 (hmapV ⟨b, o, m⟩ w a h).n, .sl false H.length 0 (hmapV ⟨b, o, m⟩ w a h).xs.length 1]) (by rfl) r
noncomputable def tabF1 (F : Cd → Bool → Nat → Int → MapR) : Table := tabOf (cdeep Try.prog ((171, mapS F) :: rows12 7) [95, 124] 2000 6)
noncomputable def flC : Code := Try.f86.body.getD .skip
noncomputable def fl0 (F : Cd → Bool → Nat → Int → MapR) (c : Cd) : Res := cupto Try.prog (tabF1 F) atLoop 200 [.code flC] (.sl false 0 c.off c.len 0 :: undefs 67) [codeB c false]
theorem tabF1_sound : SoundT Try.prog (tabF1 hmapV) := cdeep_sound (allAt_mem (P := Try.prog) (l := (171, mapS hmapV) :: rows12 7) ⟨mapS_at, rows12_at 7⟩) 6
noncomputable def flL : List Item := ((fl0 (fun _ _ _ _ => ⟨0, [], 0, 0⟩) ⟨[], 0, 0⟩).stops.map (·.todo)).headD []
def flT (n s : Int) (m k : Nat) : List AV := tmpsOf 68 [(4, .p true 1 0), (7, .p true 2 0), (8, .i false .i64 n), (9, .sl false 3 0 m 1), (10, .i true .i64 s), (11, .p true 4 0), (12, .i true .i64 (Int.ofNat k))]
def flM : List Bool := maskOf 68 [(4, .any), (7, .any), (8, .any), (9, .any), (10, .any), (11, .any), (12, .any)]
def zeroM (s : Int) : AB := .cells true (.lit (.i true .i64 s :: List.replicate 64 (.c true .f32 0 0)))
def flH (c : Cd) (a : Nat) (h : Int) (xs : List Int) (s : Int) : List AB := [codeB c false, zeroW, srcB c a h, .cells true (.ints .i64 xs), zeroM s]
noncomputable def flF (x : Leaf) : List Item × (Bool × List AV × List AB) × List Bool :=
  let d := match Nat.beq x.H.length 6 with
    | true => dropsT 1 [4] x.t x.H
    | false => dropsT 1 [] x.t x.H
  (x.todo, (d.1, bareBlur flM d.2.1, d.2.2), x.nd)
def flSs : List Int := [8, 4, 4, 4, 2, 2, 1]
structure FlR where
  n : Int
  s : Int
  a : Nat
  h : Int
  q : Nat
noncomputable def flPs (c : Cd) (a : Nat) (h : Int) : List FlR :=
  (([1, 2, 4, 8] : List Int).flatMap fun n => flSs.map (fun s => ⟨n, s, nxA c (nxA c a 20) 7, nxS (nxS h 20) 7, 4⟩) ++ [⟨n, n, nxA c a 20, nxS h 20, 3⟩]) ++ mpNo.flatMap fun n => flSs.map fun s => ⟨n, s, nxA c a 7, nxS h 7, 3⟩
noncomputable def flW (c : Cd) (xs : List Int) (p : FlR) : List Item × (Bool × List AV × List AB) × List Bool := (flL, (true, (flT p.n p.s xs.length 0).map AV.bare, flH c p.a p.h xs p.s), List.replicate p.q (okB c c.off c.len))
theorem fl0_all (F : Cd → Bool → Nat → Int → MapR) (c : Cd) : (fl0 F c).allStop = true := by kernel_rfl
theorem fl0_ok (F : Cd → Bool → Nat → Int → MapR) (c : Cd) : (fl0 F c).stops.map flF = (flPs c (F c true 0 (fromV c)).a (F c true 0 (fromV c)).h).map (flW c (F c true 0 (fromV c)).xs) := by kernel_rfl
end Go.Ax

/- spec.DrawUnwrapFlood: some number, list, wave and place. -/
namespace Go.Ax
open Go Go.Proofs

noncomputable def tabF2 : Table := tabOf (cdeep Try.prog (rows12 2) [95] 2000 6)
theorem tabF2_sound : SoundT Try.prog tabF2 := cdeep_sound (allAt_mem (rows12_at 2)) 6
noncomputable def fl2 (c : Cd) (a : Nat) (h : Int) (n : Int) (xs : List Int) (s : Int) : Res := jupto Try.prog tabF2 (fun _ => false) 4000 flL (flT n s xs.length 0) (flH c a h xs s)
def Res.leafs : Res → List Res
  | .ite _ x y => x.leafs ++ y.leafs
  | r => [r]
theorem Res.leafs_sel : ∀ (r : Res), ∃ x ∈ r.leafs, r.sel = x.sel
  | .ret v H nd => ⟨_, List.mem_singleton.2 rfl, rfl⟩
  | .stop _ _ _ _ => ⟨_, List.mem_singleton.2 rfl, rfl⟩
  | .fail => ⟨_, List.mem_singleton.2 rfl, rfl⟩
  | .ite b x y => by
    cases b with
    | true =>
      obtain ⟨z, h1, h2⟩ := Res.leafs_sel x
      exact ⟨z, List.mem_append_left _ h1, h2⟩
    | false =>
      obtain ⟨z, h1, h2⟩ := Res.leafs_sel y
      exact ⟨z, List.mem_append_right _ h1, h2⟩
noncomputable def flE (r : Res) : Option (AV × List AB × List Bool) := match endOf Try.prog Try.f86.results.toList r with
  | some (some (vs, m), H, nd) => match dropN 1 [6, 5, 4, 2, 1] (tupV vs) H with
    | some (v, H') => some (v, H', m ++ nd)
    | none => none
  | _ => none
structure FloodD where
  n : Int
  xs : List Int
  s : Int
  X : Nat → Nat × Nat
  y : Int
  x : Int
def flVal (d : FloodD) (id : Nat) : AV := .tup [.i false .i64 d.n, .sl false id 0 d.xs.length 1, wv d.s d.X, .i false .i64 d.y, .i false .i64 d.x]
def flG (xs : List Int) : AV → Option FloodD
  | .tup [.i _ .i64 n, .sl _ 1 0 m 1, .agg l, .i _ .i64 y, .i _ .i64 x] => match ofW l with
    | some (s, X) => match Nat.beq m xs.length with
      | true => some ⟨n, xs, s, X, y, x⟩
      | false => none
    | none => none
  | _ => none
def flOk : AV → Option Nat
  | .tup [.i _ .i64 _, .sl _ id off m z, .agg l, .i _ .i64 _, .i _ .i64 _] => match ofW l, Nat.beq id 1 && Nat.beq off 0 && Nat.beq z 1 with
    | some _, true => some m
    | _, _ => none
  | _ => none
section
variable (c : Cd) (a : Nat) (h n : Int) (xs : List Int)
noncomputable def flZ (s : Int) : List (Option (Option Nat × List AB × List Bool)) := (fl2 c a h n xs s).leafs.map fun r => (flE r).map fun z => (flOk z.1, z.2.1, z.2.2)
noncomputable def flWant (m q : Nat) : List (Option (Option Nat × List AB × List Bool)) := List.replicate m (some (some xs.length, [codeB c false, .cells true (.ints .i64 xs)], List.replicate q (okB c c.off c.len)))
theorem fl2_1 : flZ c a h n xs 1 = flWant c xs 4 6 := by kernel_rfl
theorem fl2_2 : flZ c a h n xs 2 = flWant c xs 8 9 := by kernel_rfl
theorem fl2_4 : flZ c a h n xs 4 = flWant c xs 4 21 := by kernel_rfl
theorem fl2_8 : flZ c a h n xs 8 = flWant c xs 4 69 := by kernel_rfl
end
end Go.Ax
